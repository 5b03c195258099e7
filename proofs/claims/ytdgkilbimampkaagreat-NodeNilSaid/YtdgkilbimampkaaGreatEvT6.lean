import Derived.Test.YtdgkilbimampkaaGreatEvT5
namespace Go.Ev
open Go Go.RowKit
variable {P : Program}

/-! ## Whole numbers that are not told -/
inductive IOp where
  | bin (o : BinOp) | min | max

/-- what an operation on two numbers gives -/
def iop : IOp → Int → Int → Option Value
  | .bin .add, a, b => some (.int .i64 (IntKind.i64.wrap (a + b)))
  | .bin .sub, a, b => some (.int .i64 (IntKind.i64.wrap (a - b)))
  | .bin .mul, a, b => some (.int .i64 (IntKind.i64.wrap (a * b)))
  | .bin .eql, a, b => some (.bool (a == b))
  | .bin .neq, a, b => some (.bool (a != b))
  | .bin .lss, a, b => some (.bool (a < b))
  | .bin .leq, a, b => some (.bool (a ≤ b))
  | .bin .gtr, a, b => some (.bool (a > b))
  | .bin .geq, a, b => some (.bool (a ≥ b))
  | .bin .shl, a, b => if b < 0 then none else some (.int .i64 (IntKind.i64.wrap (a * 2 ^ (Min.min b.toNat 64))))
  | .bin .shr, a, b => if b < 0 then none else some (.int .i64 (a.fdiv (2 ^ (Min.min b.toNat 64))))
  | .bin .quo, a, b => if b = 0 then none else some (.int .i64 (IntKind.i64.wrap (a.tdiv b)))
  | .bin .rem, a, b => if b = 0 then none else some (.int .i64 (a.tmod b))
  | .bin .and, a, b => some (.int .i64 (IntKind.i64.wrap ((BitVec.ofInt 64 a &&& BitVec.ofInt 64 b).toNat : Int)))
  | .min, a, b => some (.int .i64 (if b < a then b else a))
  | .max, a, b => some (.int .i64 (if b > a then b else a))
  | _, _, _ => none

def opOf : Op → Option IOp
  | .binOp o _ _ _ _ => some (.bin o)
  | .call c => match c.callee with
    | .builtin .min => some .min
    | .builtin .max => some .max
    | _ => none
  | _ => none

theorem eqGuard_int (o : BinOp) (t : TypeId) (x y : Operand) (k k' : IntKind) (a b : Int) (w : World) : (eqGuard o t x y (.int k a) (.int k' b)).run P w = .ok () w := by
  unfold eqGuard
  split <;> rfl

theorem binOp_int {o : BinOp} {a b : Int} {v : Value} (h : iop (.bin o) a b = some v) (t : TypeId) (w : World) : (binOp o t (.int .i64 a) (.int .i64 b)).run P w = .ok v w := by
  cases o <;> simp only [iop, reduceCtorEq, Option.some.injEq] at h
  case shl =>
    split at h
    · cases h
    · rename_i hb; cases h; simp only [binOp, Op.shift, if_neg hb]; rfl
  case shr =>
    split at h
    · cases h
    · rename_i hb; cases h; simp only [binOp, Op.shift, if_neg hb]; rfl
  case quo =>
    split at h
    · cases h
    · rename_i hb; cases h; simp only [binOp, Op.intDiv, if_neg hb]; rfl
  case rem =>
    split at h
    · cases h
    · rename_i hb; cases h; simp only [binOp, Op.intDiv, if_neg hb]; rfl
  all_goals (subst h; rfl)

/-- the numbers among what is given -/
def denOf (l : List Kept) (i : Nat) : Option Int := match l[i]? with
  | some k => match k.v with
    | some (.int .i64 n) => some n
    | _ => none
  | none => none
def valOf (den : Nat → Option Int) : Value → Option Int
  | .int .i64 n => some n
  | .pointer (some ⟨b, 0, some 0⟩) => bif Nat.ble holeAt b then den (b - holeAt) else none
  | _ => none

theorem valOf_rel {l : List Kept} {ι : Inj} (hι : ∀ b j, holes l b = some j → ι b = some j) {v v' : Value} {n : Int} (h : VRel ι v v') (hv : valOf (denOf l) v = some n) : v' = .int .i64 n := by
  unfold valOf at hv
  split at hv
  · cases hv; cases h; rfl
  · rename_i b
    cases hb : Nat.ble holeAt b with
    | false => rw [hb] at hv; cases hv
    | true =>
      rw [hb, cond_true] at hv
      have hle : holeAt ≤ b := Nat.le_of_ble_eq_true hb
      unfold denOf at hv
      split at hv
      · rename_i k hk
        split at hv
        · rename_i m hm
          cases hv
          cases h with
          | hole hj hkv _ _ _ =>
            have h0 : holes l b = some (@J.mk 0 0 0 k) := by unfold holes; rw [if_pos hle, hk]
            have := hι _ _ h0
            rw [hj] at this
            cases this
            rw [hm] at hkv
            cases hkv
            rfl
        · cases hv
      · cases hv
  · cases hv

/-- a result that stands for a value -/
def ResOk (l : List Kept) (r v : Value) : Prop := (ground r = true ∧ r = v) ∨ ∃ j, r = .pointer (some ⟨holeAt + j, 0, some 0⟩) ∧ l[j]? = some { v := some v }

theorem resOk_rel {l : List Kept} {ι : Inj} (hι : ∀ b j, holes l b = some j → ι b = some j) {r v : Value} (h : ResOk l r v) (hc : v.cells = #[v]) (h1 : v.oneCell' = true) : VRel ι r v := by
  rcases h with ⟨hg, rfl⟩ | ⟨j, rfl, hj⟩
  · exact ground_rel ι hg
  · exact (holes_rel hj hc h1).mono hι

abbrev Tab := IOp → Value → Value → Option Value
def tellT (tab : Tab) : Tell := fun op vs => match opOf op, vs with
  | some o, [x, y] => tab o x y
  | _, _ => none
def TabOk (l : List Kept) (tab : Tab) : Prop := ∀ o x y r, tab o x y = some r → ∃ a b v, valOf (denOf l) x = some a ∧ valOf (denOf l) y = some b ∧ iop o a b = some v ∧ ResOk l r v

theorem iop_form {o : IOp} {a b : Int} {v : Value} (h : iop o a b = some v) : v.cells = #[v] ∧ v.oneCell' = true := by
  cases o with
  | bin o =>
    cases o <;> simp only [iop, reduceCtorEq, Option.some.injEq] at h
    all_goals first
      | (subst h; exact ⟨rfl, rfl⟩)
      | (split at h <;> first | (cases h; done) | (cases h; exact ⟨rfl, rfl⟩))
  | min => simp only [iop, Option.some.injEq] at h; subst h; exact ⟨rfl, rfl⟩
  | max => simp only [iop, Option.some.injEq] at h; subst h; exact ⟨rfl, rfl⟩

theorem two_of {ρ ρ' : Operand → Value} {ι : Inj} {l : List Operand} {x y : Value} (h : l.map ρ = [x, y]) (hr : ∀ z ∈ l, VRel ι (ρ z) (ρ' z)) : ∃ z1 z2, l = [z1, z2] ∧ VRel ι x (ρ' z1) ∧ VRel ι y (ρ' z2) := by
  match l, h with
  | [z1, z2], h =>
    simp only [List.map_cons, List.map_nil, List.cons.injEq, and_true] at h
    obtain ⟨rfl, rfl⟩ := h
    exact ⟨z1, z2, rfl, hr z1 (by simp), hr z2 (by simp)⟩

theorem tellT_sound {l : List Kept} {w0 : World} (hr : RowsOk l w0) {tab : Tab} (ht : TabOk l tab) : @TellSound (base hr) P (tellT tab) := by
  letI : Base := base hr
  intro op vals v h ι hι o ρ ρ' ho hv hrel w
  replace h : tellT tab op vals = some v := h
  unfold tellT at h
  split at h
  case h_2 => cases h
  case h_1 _ _ i x y hop =>
    obtain ⟨a, b, vr, g1, g2, g3, g4⟩ := ht _ _ _ _ h
    obtain ⟨z1, z2, hz, r1, r2⟩ := two_of hv (fun z hz => hrel z (by simpa using hz))
    have e1 := valOf_rel hι r1 g1
    have e2 := valOf_rel hι r2 g2
    obtain ⟨f1, f2⟩ := iop_form g3
    refine ⟨vr, ?_, resOk_rel hι g4 f1 f2⟩
    obtain ⟨dst, op', type, pos, after, guard⟩ := o
    simp only at ho hz
    subst ho
    unfold opOf at hop
    split at hop
    case h_1 o' t x' y' u =>
      cases hop
      simp only [Op.operands] at hz
      obtain ⟨rfl, rfl⟩ : x' = z1 ∧ y' = z2 := by simpa using hz
      simp only [execOp, e1, e2]
      rw [Sem.run_bind, Sem.run_bind, eqGuard_int, Result.andThen_ok, binOp_int g3]
      rfl
    case h_2 c =>
      obtain ⟨callee, args, argTypes⟩ := c
      simp only at hop
      split at hop
      case h_1 =>
        cases hop
        simp only [Op.operands, Call.operands] at hz
        have : args = #[z1, z2] := by
          apply Array.toList_inj.1
          simpa using hz
        subst this
        simp only [iop, Option.some.injEq] at g3
        subst g3
        simp [execOp, resolve, invoke, builtin, Builtin.min_, Builtin.min2, e1, e2]
        done
      case h_2 =>
        cases hop
        simp only [Op.operands, Call.operands] at hz
        have : args = #[z1, z2] := by
          apply Array.toList_inj.1
          simpa using hz
        subst this
        simp only [iop, Option.some.injEq] at g3
        subst g3
        simp [execOp, resolve, invoke, builtin, Builtin.max_, Builtin.max2, e1, e2]
        done
      case h_3 => cases hop
    case h_3 => cases hop
end Go.Ev
