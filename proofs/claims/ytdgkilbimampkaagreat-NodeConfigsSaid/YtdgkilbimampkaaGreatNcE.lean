import Derived.Test.YtdgkilbimampkaaGreatEvT11
import Derived.Test.YtdgkilbimampkaaGreatProg
import Derived.KernelRfl
namespace Go.Proofs.YtdgkilbimampkaaGreat
open Go Go.Ev Go.RowKit
def B : Int := 9223372036854775808
def L : Int := 1048576
def hl (i : Nat) : Value := .pointer (some ⟨holeAt + i, 0, some 0⟩)
abbrev Case := List (Option (Int × Int)) × List Rule
def kk : Option (Int × Int) := some (1, 16)
def hh : Option (Int × Int) := some (0, 4)
def aa : Option (Int × Int) := some (1, L)
def conf1 : Case := ([some (-B, 0)], [])
def conf2 : Case := ([some (17, B)], [])
def conf3 : Case := ([kk, some (-B, -1)], [])
def conf4 : Case := ([kk, some (5, B)], [])
def conf5 : Case := ([kk, hh, some (-B, 0), none, none, none, none, none, none, some (-B, 0)], [])
def conf6 : Case := ([kk, hh, some (L + 1, B), none, none, none, none, none, none, some (-B, 0)], [])
def conf7 : Case := ([kk, hh, some (L + 1, B), none, none, none, none, none, none, some (1, B), some (L + 1, B)], [])
def conf8 : Case := ([kk, hh, aa, some (-B, 0), none, none, none, none, none, some (-B, 0)], [])
def conf9 : Case := ([kk, hh, aa, some (L + 1, B), none, none, none, none, none, some (1, B), some (L + 1, B)], [])
def conf10 : Case := ([kk, hh, aa, aa, some (-B, 0), none, none, none, none, aa, aa], [])
def conf11 : Case := ([kk, hh, aa, aa, some (9, B), none, none, none, none, aa, aa], [])
def conf12 : Case := ([kk, hh, aa, aa, some (1, 8), some (-B, -1), none, none, none, aa, aa], [])
def conf13 : Case := ([kk, hh, aa, aa, some (1, 8), some (0, B), none, none, none, aa, aa], [(.bin .lss, .h 5, .h 4, .bool false), (.bin .geq, .h 5, .h 4, .bool true)])
def conf14 : Case := ([kk, hh, aa, aa, some (1, 8), some (0, 7), none, some (2, 32), some (2, 65536), aa, aa], [(.bin .lss, .h 5, .h 4, .bool true), (.bin .geq, .h 5, .h 4, .bool false), (.bin .mul, .c 2, .h 0, hl 7), (.bin .shl, .c 1, .h 0, hl 8)])
def rules : List Rule := [(.min, .h 2, .h 3, hl 9), (.max, .h 2, .h 3, hl 10)]
noncomputable def runs (c : Case) (b : Bool) : Bool := saysTrue ((evQ Tryz.prog (knowsOrc 10) (tellT (orTab (ruleTab (rules ++ c.2)) (rngTab (rngOf c.1)))) 300).call 3 [hl 0, hl 1, hl 2, hl 3, hl 4, hl 5, .bool b] ⟨.leaf, 0⟩)
theorem run1 (b : Bool) : runs conf1 b = true := by cases b <;> kernel_rfl
theorem run2 (b : Bool) : runs conf2 b = true := by cases b <;> kernel_rfl
theorem run3 (b : Bool) : runs conf3 b = true := by cases b <;> kernel_rfl
theorem run4 (b : Bool) : runs conf4 b = true := by cases b <;> kernel_rfl
theorem run5 (b : Bool) : runs conf5 b = true := by cases b <;> kernel_rfl
theorem run6 (b : Bool) : runs conf6 b = true := by cases b <;> kernel_rfl
theorem run7 (b : Bool) : runs conf7 b = true := by cases b <;> kernel_rfl
theorem run8 (b : Bool) : runs conf8 b = true := by cases b <;> kernel_rfl
theorem run9 (b : Bool) : runs conf9 b = true := by cases b <;> kernel_rfl
theorem run10 (b : Bool) : runs conf10 b = true := by cases b <;> kernel_rfl
theorem run11 (b : Bool) : runs conf11 b = true := by cases b <;> kernel_rfl
theorem run12 (b : Bool) : runs conf12 b = true := by cases b <;> kernel_rfl
theorem run13 (b : Bool) : runs conf13 b = true := by cases b <;> kernel_rfl
theorem run14 (b : Bool) : runs conf14 b = true := by cases b <;> kernel_rfl
end Go.Proofs.YtdgkilbimampkaaGreat
