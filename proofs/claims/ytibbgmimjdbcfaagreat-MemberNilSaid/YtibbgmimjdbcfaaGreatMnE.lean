import Derived.Test.YtibbgmimjdbcfaaGreatSnE
namespace Go.Proofs.YtibbgmimjdbcfaaGreat
open Go Go.Ev Go.RowKit
def membSh : List (Bool × List LeafK) := [(true, [.int .i64, .int .i64, .int .i64, .int .i64] ++ entK ++ noteK), (true, [.int .i64, .int .i64])]
theorem membSh_is : Tryz.f4.params.toList.mapM (shapeOf Tryz.prog 10) = some membSh := by kernel_rfl
variable (bv : Nat → Bool) (iv : Nat → Int) (sv : Nat → ByteArray)
theorem memb_yes : saysTrue ((evO Tryz.prog (seatOrc true true 16 4 23) 200).call 4 (absArgs true true bv iv sv membSh 0) ⟨.leaf, 0⟩) = true := by kernel_rfl
theorem memb_no1 : saysTrue ((evO Tryz.prog (seatOrc true false 16 4 23) 200).call 4 (absArgs true false bv iv sv membSh 0) ⟨.leaf, 0⟩) = true := by kernel_rfl
theorem memb_no2 (c : Bool) : saysTrue ((evO Tryz.prog (seatOrc false c 16 4 23) 200).call 4 (absArgs true false bv iv sv membSh 0) ⟨.leaf, 0⟩) = true := by kernel_rfl
end Go.Proofs.YtibbgmimjdbcfaaGreat
