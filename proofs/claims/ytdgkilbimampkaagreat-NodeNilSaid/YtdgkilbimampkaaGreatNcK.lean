import Derived.Test.YtdgkilbimampkaaGreatEvT11
import Derived.Test.YtdgkilbimampkaaGreatProg
import Derived.KernelRfl
namespace Go.Proofs.YtdgkilbimampkaaGreat
open Go Go.Ev Go.RowKit
theorem fits : Tryz.prog.follows .mixedOrders = true := by kernel_rfl
theorem node_run : saysTrue ((evQ Tryz.prog noOrc noTell 300).call 10 [] ⟨.leaf, 0⟩) = true := by kernel_rfl
end Go.Proofs.YtdgkilbimampkaaGreat
