import Derived.Test.YtibbgmimjdbcfaaGreatEvZ
import Derived.Test.YtibbgmimjdbcfaaGreatEvY8
import Derived.Below
namespace Go.Ev
open Go Go.RowKit
variable {P : Program} [Base]

structure AllSound (P : Program) (R : Rec) : Prop where
  call : CallSound P R
  code : CodeSound P R
  scope : ScopeSound P R
  loop : LoopSound P R

theorem ev_sound (hfit : Fit P) : ∀ n, AllSound P (ev P n)
  | 0 => ⟨fun f args m v m' h => (by cases h), fun fn nt rd c T D m ex T' D' m' h => (by cases h), fun fn nt rd b c T D m ex T' D' m' h => (by cases h), fun fn nt rd c T D m ex T' D' m' h => (by cases h)⟩
  | n + 1 => by
    have ih := ev_sound hfit n
    refine ⟨fun f args m v m' h => funcA_sound ih.code h, fun fn nt rd c T D m ex T' D' m' h => ?_, fun fn nt rd b c T D m ex T' D' m' h => ?_, fun fn nt rd c T D m ex T' D' m' h => ?_⟩
    · exact code_sound hfit ih.call ih.code ih.scope ih.loop (fun nt ops T m T' m' h => draw_sound ih.call ih.code nt ops T m T' m' h) h
    · exact scope_sound ih.code ih.scope h
    · exact loop_sound ih.code ih.loop h

omit [Base] in
theorem ground_list {ι : Inj} : ∀ {l : List Value}, l.all ground = true → LRel ι l l
  | [], _ => .nil
  | v :: l, h => by
    rw [List.all_cons, Bool.and_eq_true] at h
    exact .cons (ground_rel ι h.1) (ground_list h.2)
end Go.Ev
