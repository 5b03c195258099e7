/- SeatNil: with no seat, and with one that nobody made, each call is refused or gives nothing; whatever the act, the law returns true and the act reads as it did. Conditions: none. -/
import Derived.Test.YtibbgmimjdbcfaaGreatSnS
import Derived.Test.YtibbgmimjdbcfaaGreatRows
namespace Go.Proofs.YtibbgmimjdbcfaaGreat
open Go Go.Ev Go.RowKit Go.ChangeShapes Go.WideShapes Go.ChangeAt

theorem own : ownKnob Tryz.prog.godebug = none := by kernel_rfl
theorem laidOut : laidOutB Tryz.prog = true := by kernel_rfl

set_option maxRecDepth 100000 in
theorem seat_lifted (os : Os) (started : os.Started) (H : Type) (enc : TypeId × Value → H) :
    ReturnsInHanded {} Tryz.checked os 3 .any (Rows.seatNilSpec.pre6 enc Tryz.prog Tryz.f3 Rows.seatNilRow.domain false) (Rows.seatNilSpec.post enc Tryz.prog Tryz.f3 false true false false) :=
  law_lifted (C := Tryz.checked) own started (by kernel_rfl) Tryz.func3
    (ChangeSpec.witness6 (enc := enc) (C := Tryz.checked) false ⟨#[], #[.agg (zeroT Tryz.prog 37).get!.cells], []⟩ 12 (by kernel_rfl) (by kernel_rfl) (by kernel_rfl) (by kernel_rfl))
    (of_decide_eq_true (by kernel_rfl)) laidOut (by kernel_rfl) (tb := 4) rfl Tryz.underlying4 rfl (fun ds h => by
      match ds, h with
      | [d], _ => rfl) seatSh_is seat_walk

theorem seat_holds : Rows.SeatNilSaid :=
  OpenClaim.holds_of_wide 3 Tryz.f3 rfl rfl rfl rfl rfl rfl rfl ⟨rfl, rfl, rfl, rfl, rfl⟩ rfl rfl rfl rfl rfl (by kernel_rfl) Tryz.func3 (by kernel_rfl)
    (of_decide_eq_true (by kernel_rfl)) (by unfold Func.isWrapper; first | (rw [if_pos (by decide +kernel)]; kernel_rfl) | (rw [if_neg (by decide +kernel)]; exact ⟨rfl, rfl⟩))
    (fun os started H enc _ => seat_lifted os started H enc)
#print axioms seat_holds
end Go.Proofs.YtibbgmimjdbcfaaGreat
