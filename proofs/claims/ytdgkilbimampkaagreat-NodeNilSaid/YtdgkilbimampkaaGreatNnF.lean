import Derived.Test.YtdgkilbimampkaaGreatNcF
import Derived.JoinedOf
import Derived.KernelRfl
namespace Go.Proofs.YtdgkilbimampkaaGreat
open Go
theorem nodenil_inPlace : (Rows.nodeNilRow.inPlace == Tryz.prog.inPlace 5) = true := by kernel_rfl
theorem nodenil_unfollowed : (Rows.nodeNilRow.unfollowed == Tryz.prog.unfollowed 5) = true := by kernel_rfl
theorem nodenil_recurses : (Rows.nodeNilRow.recurses == Tryz.prog.recurses 5) = true := by kernel_rfl
theorem nodenil_vars : (Rows.nodeNilRow.named == Tryz.prog.varsNamed 5) = true := by kernel_rfl
theorem nodenil_named : Tryz.prog.funcNamed Rows.nodeNilRow.func = some 5 := by kernel_rfl
theorem nodenil_facts : joinedFacts Tryz.prog 5 Tryz.f5 Rows.nodeNilSpec Rows.nodeNilRow = true := by
  unfold joinedFacts
  simp only [laidOut, rowed, nodenil_inPlace, nodenil_unfollowed, nodenil_recurses, nodenil_vars, noStops, noKnobs, Bool.and_true]
  kernel_rfl
end Go.Proofs.YtdgkilbimampkaaGreat
