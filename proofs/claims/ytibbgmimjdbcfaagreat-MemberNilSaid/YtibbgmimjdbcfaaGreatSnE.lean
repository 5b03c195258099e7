import Derived.Test.YtibbgmimjdbcfaaGreatEvT5
import Derived.Test.YtibbgmimjdbcfaaGreatProg
import Derived.KernelRfl
namespace Go.Proofs.YtibbgmimjdbcfaaGreat
open Go Go.Ev Go.RowKit
def seatOrc (b c : Bool) (n e : Nat) (k : FuncId) : Orc := fun f args m =>
  bif Nat.beq f 39 then match args with
    | [.agg a] =>
      bif Nat.beq a.size 22 && isH a 8 (n + 8) && isH a 13 (n + 13) && isH a 14 (n + 14) && isH a 20 (n + 20) && isH a 21 (n + 21) then some (.bool b, m)
      else bif Nat.beq a.size 22 && isN a 8 && isH a 13 (e + 4) && isH a 14 (e + 5) && isH a 20 (e + 11) && isN a 21 then some (.bool c, m) else none
    | _ => none
  else bif Nat.beq f k then match args with
    | [] => some (.bool true, m)
    | _ => none
  else none
def entK : List LeafK := [.int .i64, .int .i64, .int .i64, .int .i64, .str, .str, .int .i64, .int .i64, .int .i64, .int .i64, .int .i64, .row 1]
def noteK : List LeafK := [.int .i64, .int .i64, .int .i64, .int .i64, .int .i64, .int .i64, .int .i64, .int .i64, .row 1] ++ entK ++ [.row 1]
def seatSh : List (Bool × List LeafK) := [(true, [.int .i64, .int .i64] ++ entK ++ noteK ++ rep 8 [.bool])]
theorem seatSh_is : Tryz.f3.params.toList.mapM (shapeOf Tryz.prog 10) = some seatSh := by kernel_rfl
variable (bv : Nat → Bool) (iv : Nat → Int) (sv : Nat → ByteArray)
theorem seat_yes : saysTrue ((evO Tryz.prog (seatOrc true true 14 2 6) 200).call 3 (absArgs true true bv iv sv seatSh 0) ⟨.leaf, 0⟩) = true := by kernel_rfl
theorem seat_no1 : saysTrue ((evO Tryz.prog (seatOrc true false 14 2 6) 200).call 3 (absArgs true false bv iv sv seatSh 0) ⟨.leaf, 0⟩) = true := by kernel_rfl
theorem seat_no2 (c : Bool) : saysTrue ((evO Tryz.prog (seatOrc false c 14 2 6) 200).call 3 (absArgs true false bv iv sv seatSh 0) ⟨.leaf, 0⟩) = true := by kernel_rfl
end Go.Proofs.YtibbgmimjdbcfaaGreat
