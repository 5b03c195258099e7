import Derived.Test.YtdgkilbimampkaaGreatRows
import Derived.JoinedOf
import Derived.KernelRfl
namespace Go.Proofs.YtdgkilbimampkaaGreat
open Go
theorem laidOut : laidOutB Tryz.prog = true := by kernel_rfl
theorem rowed : mapsRowed Tryz.prog = true := by kernel_rfl
theorem conf_inPlace : (Rows.nodeConfigsRow.inPlace == Tryz.prog.inPlace 3) = true := by kernel_rfl
theorem conf_unfollowed : (Rows.nodeConfigsRow.unfollowed == Tryz.prog.unfollowed 3) = true := by kernel_rfl
theorem conf_recurses : (Rows.nodeConfigsRow.recurses == Tryz.prog.recurses 3) = true := by kernel_rfl
theorem conf_vars : (Rows.nodeConfigsRow.named == Tryz.prog.varsNamed 3) = true := by kernel_rfl
theorem noStops : (Tryz.prog.stops == []) = true := by kernel_rfl
theorem noKnobs : (Tryz.prog.stopKnobs == []) = true := by kernel_rfl
theorem conf_named : Tryz.prog.funcNamed Rows.nodeConfigsRow.func = some 3 := by kernel_rfl
theorem conf_facts : joinedFacts Tryz.prog 3 Tryz.f3 Rows.nodeConfigsSpec Rows.nodeConfigsRow = true := by
  unfold joinedFacts
  simp only [laidOut, rowed, conf_inPlace, conf_unfollowed, conf_recurses, conf_vars, noStops, noKnobs, Bool.and_true]
  kernel_rfl
end Go.Proofs.YtdgkilbimampkaaGreat
