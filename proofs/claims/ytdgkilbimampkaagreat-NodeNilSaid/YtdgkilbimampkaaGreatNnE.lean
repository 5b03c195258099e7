import Derived.Test.YtdgkilbimampkaaGreatEvT13
import Derived.Test.YtdgkilbimampkaaGreatProg
import Derived.KernelRfl
namespace Go.Proofs.YtdgkilbimampkaaGreat
open Go Go.Ev Go.RowKit
def nilR (b : Bool) (hi : Int) : List (Option (Int × Int)) := [none, none, none, none, bif b then some (5001, hi) else some (0, 5000)]
def nilSh : List (Bool × List LeafK) := [(true, [.int .i64, .int .i64]), (false, [.row 1]), (false, [.int .i64])]
theorem nilSh_is : Tryz.f5.params.toList.mapM (shapeOf Tryz.prog 10) = some nilSh := by kernel_rfl
variable (bv : Nat → Bool) (iv : Nat → Int) (sv : Nat → ByteArray)
theorem nil_yes (hi : Int) : saysTrue ((evQ Tryz.prog (knowsOrc 10) (orTell (tellLen Tryz.prog 2 4) (tellT (rngTab (rngOf (nilR true hi))))) 300).call 5 (absArgs (fun _ => true) false bv iv sv nilSh 0) ⟨.leaf, 0⟩) = true := by kernel_rfl
theorem nil_no (hi : Int) : saysTrue ((evQ Tryz.prog (knowsOrc 10) (orTell (tellLen Tryz.prog 2 4) (tellT (rngTab (rngOf (nilR false hi))))) 300).call 5 (absArgs (fun _ => true) false bv iv sv nilSh 0) ⟨.leaf, 0⟩) = true := by kernel_rfl
end Go.Proofs.YtdgkilbimampkaaGreat
