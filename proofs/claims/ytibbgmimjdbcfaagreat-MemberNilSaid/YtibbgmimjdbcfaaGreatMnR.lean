/- MemberNil: with no member, and with one that nobody made, each call is refused or gives nothing; whatever the act and the point, the law returns true and they read as they did. Conditions: none. -/
import Derived.Test.YtibbgmimjdbcfaaGreatSnS
import Derived.Test.YtibbgmimjdbcfaaGreatMnE
import Derived.Test.YtibbgmimjdbcfaaGreatRows
namespace Go.Proofs.YtibbgmimjdbcfaaGreat
open Go Go.Ev Go.RowKit Go.ChangeShapes Go.WideShapes Go.ChangeAt

theorem memb_own : ownKnob Tryz.prog.godebug = none := by kernel_rfl
theorem memb_laidOut : laidOutB Tryz.prog = true := by kernel_rfl
theorem memb_noteAt : noteAt (allK membSh) 16 := ⟨rfl, rfl, rfl, rfl, rfl⟩
theorem memb_entAt : entAt (allK membSh) 4 := ⟨rfl, rfl, rfl⟩
theorem memb_rows : rowPlaces (allK membSh) 0 = [15, 24, 36, 37] := rfl

theorem memb_walk (W : World) (args : Array Value) (flat : List Value) (hpos : 0 < W.heap.size) (h : ArgsOk W membSh args.toList flat) : Calls Tryz.prog 4 args W (fun e w' => e = .returned (.bool true) ∧ Below W.heap.size W w') := by
  have hok := args_all _ _ _ h
  cases h1 : noteB flat 16 with
  | true =>
    cases h2 : entB flat 4 with
    | true =>
      have hr : RowsOk (keptAll true (allK membSh) flat) W := rows_small_at hok (by
        rw [memb_rows]
        have a1 := small_note h1
        have a2 := small_ent h2
        simp only [Nat.reduceAdd] at a1 a2
        intro i hi
        simp only [List.mem_cons, List.not_mem_nil, or_false] at hi
        rcases hi with rfl | rfl | rfl | rfl <;> omega)
      refine calls_evO fits (n := 200) hpos hr (orc_sound (n := 16) (e := 4) (k := 23) hpos hr hok memb_noteAt memb_entAt member_knows) (args_rel (hide := true) h) ?_
      rw [h1, h2]
      exact memb_yes _ _ _
    | false =>
      refine calls_evO fits (n := 200) hpos rows_none (orc_sound (n := 16) (e := 4) (k := 23) hpos rows_none hok memb_noteAt memb_entAt member_knows) (args_rel (hide := true) h) ?_
      rw [h1, h2]
      exact memb_no1 _ _ _
  | false =>
    refine calls_evO fits (n := 200) hpos rows_none (orc_sound (n := 16) (e := 4) (k := 23) hpos rows_none hok memb_noteAt memb_entAt member_knows) (args_rel (hide := true) h) ?_
    rw [h1]
    exact memb_no2 _ _ _ _

set_option maxRecDepth 100000 in
theorem memb_lifted (os : Os) (started : os.Started) (H : Type) (enc : TypeId × Value → H) :
    ReturnsInHanded {} Tryz.checked os 4 .any (Rows.memberNilSpec.pre6 enc Tryz.prog Tryz.f4 Rows.memberNilRow.domain false) (Rows.memberNilSpec.post enc Tryz.prog Tryz.f4 false true false false) :=
  law_lifted (C := Tryz.checked) memb_own started (by kernel_rfl) Tryz.func4
    (ChangeSpec.witness6 (enc := enc) (C := Tryz.checked) false ⟨#[], (Tryz.f4.params.map fun t => .agg (zeroT Tryz.prog t).get!.cells), []⟩ 12 (by kernel_rfl) (by kernel_rfl) (by kernel_rfl) (by kernel_rfl))
    (of_decide_eq_true (by kernel_rfl)) memb_laidOut (by kernel_rfl) (tb := 4) rfl Tryz.underlying4 rfl (fun ds h => by
      match ds, h with
      | [d, d'], _ => rfl) membSh_is memb_walk

theorem memb_holds : Rows.MemberNilSaid :=
  OpenClaim.holds_of_wide 4 Tryz.f4 rfl rfl rfl rfl rfl rfl rfl ⟨rfl, rfl, rfl, rfl, rfl⟩ rfl rfl rfl rfl rfl (by kernel_rfl) Tryz.func4 (by kernel_rfl)
    (of_decide_eq_true (by kernel_rfl)) (by unfold Func.isWrapper; first | (rw [if_pos (by decide +kernel)]; kernel_rfl) | (rw [if_neg (by decide +kernel)]; exact ⟨rfl, rfl⟩))
    (fun os started H enc _ => memb_lifted os started H enc)
#print axioms memb_holds
end Go.Proofs.YtibbgmimjdbcfaaGreat
