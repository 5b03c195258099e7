import Derived.Test.YtibbgmimjdbcfaaGreatEvT4
import Derived.Test.YtibbgmimjdbcfaaGreatProg
import Derived.WalkKit
import Derived.WalkSpells
import Derived.BigQuiet
import Derived.Deep.QuietTactic
namespace Go.Proofs.YtibbgmimjdbcfaaGreat
open Go Go.Ev Go.RowKit
def lightB (n21 n8 n20 : Nat) (a b : Nat) : Bool := decide (n21 ≤ 3000) && decide (n8 ≤ 30) && decide (n20 ≤ 30) && decide (wrap64 ((a : Int) + (b : Int)) ≤ 300)
def LightIs (b : Bool) (w : World) (e : Ending) (w' : World) : Prop := e = .returned (.bool b) ∧ Below w.heap.size w w'
set_option maxHeartbeats 400000 in
theorem light_any (c0 c1 c2 c3 c4 c5 c6 c7 c9 c10 c11 c12 c15 c16 c17 c18 c19 : Value) (a8 a20 a21 : Option Addr) (n8 k8 n20 k20 n21 k21 : Nat) (s13 s14 : ByteArray) (w : World) :
    Calls Tryz.prog 39 #[.agg #[c0, c1, c2, c3, c4, c5, c6, c7, .slice a8 n8 k8, c9, c10, c11, c12, .string s13, .string s14, c15, c16, c17, c18, c19, .slice a20 n20 k20, .slice a21 n21 k21]] w
      (LightIs (lightB n21 n8 n20 s13.size s14.size) w) := by
  go_enter Tryz.func39, Tryz.ntmps39
  go_wp2
  all_goals go_ret
  all_goals refine ⟨congrArg (fun b => Ending.returned (.bool b)) (?_ : _ = lightB n21 n8 n20 s13.size s14.size), (Below.refl _ _).alloc (Nat.le_refl _) _⟩
  all_goals (unfold lightB; rw [Bool.eq_iff_iff]; simp; omega)
end Go.Proofs.YtibbgmimjdbcfaaGreat
