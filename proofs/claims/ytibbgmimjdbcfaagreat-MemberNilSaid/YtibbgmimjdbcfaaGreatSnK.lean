import Derived.Test.YtibbgmimjdbcfaaGreatEvT4
import Derived.Test.YtibbgmimjdbcfaaGreatProg
import Derived.KernelRfl
namespace Go.Proofs.YtibbgmimjdbcfaaGreat
open Go Go.Ev Go.RowKit
theorem fits : Tryz.prog.follows .mixedOrders = true := by kernel_rfl
theorem seat_knows (w : World) (hw : 0 < w.heap.size) : Calls Tryz.prog 6 #[] w (fun e w' => e = .returned (.bool true) ∧ Below w.heap.size w w') :=
  calls_true fits (n := 200) (by kernel_rfl) rfl w hw
theorem member_knows (w : World) (hw : 0 < w.heap.size) : Calls Tryz.prog 23 #[] w (fun e w' => e = .returned (.bool true) ∧ Below w.heap.size w w') :=
  calls_true fits (n := 200) (by kernel_rfl) rfl w hw
end Go.Proofs.YtibbgmimjdbcfaaGreat
