import Derived.Test.YtdgkilbimampkaaGreatEvZ
import Derived.Test.YtdgkilbimampkaaGreatEvY8
import Derived.Below
namespace Go.Ev
open Go Go.RowKit
variable {P : Program} [Base]

structure AllSound (P : Program) (R : Rec) : Prop where
  call : CallSound P R
  code : CodeSound P R
  scope : ScopeSound P R
  loop : LoopSound P R
  told : ToldSound P R

omit [Base] in
theorem ground_list {ι : Inj} : ∀ {l : List Value}, l.all ground = true → LRel ι l l
  | [], _ => .nil
  | v :: l, h => by
    rw [List.all_cons, Bool.and_eq_true] at h
    exact .cons (ground_rel ι h.1) (ground_list h.2)
end Go.Ev
