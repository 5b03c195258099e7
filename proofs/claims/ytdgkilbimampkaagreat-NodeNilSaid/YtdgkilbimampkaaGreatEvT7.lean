import Derived.Test.YtdgkilbimampkaaGreatEvT6
namespace Go.Ev
open Go Go.RowKit

/-! ## Tables of what is told of whole numbers -/
abbrev Rng := Nat → Option (Int × Int)
def rangeOf (rng : Rng) : Value → Option (Int × Int)
  | .int .i64 n => some (n, n)
  | .pointer (some ⟨b, 0, some 0⟩) => bif Nat.ble holeAt b then rng (b - holeAt) else none
  | _ => none
def cmpR (o : BinOp) (a b : Int × Int) : Option Bool := match o with
  | .lss => bif decide (a.2 < b.1) then some true else bif decide (b.2 ≤ a.1) then some false else none
  | .leq => bif decide (a.2 ≤ b.1) then some true else bif decide (b.2 < a.1) then some false else none
  | .gtr => bif decide (b.2 < a.1) then some true else bif decide (a.2 ≤ b.1) then some false else none
  | .geq => bif decide (b.2 ≤ a.1) then some true else bif decide (a.2 < b.1) then some false else none
  | .eql => bif decide (a.2 < b.1) || decide (b.2 < a.1) then some false else none
  | .neq => bif decide (a.2 < b.1) || decide (b.2 < a.1) then some true else none
  | _ => none
def selfR (o : BinOp) : Option Bool := match o with
  | .eql | .leq | .geq => some true
  | .neq | .lss | .gtr => some false
  | _ => none
def sameHole : Value → Value → Bool
  | .pointer (some ⟨i, 0, some 0⟩), .pointer (some ⟨j, 0, some 0⟩) => Nat.beq i j
  | _, _ => false
/-- comparisons that the numbers' bounds decide -/
def rngTab (rng : Rng) : Tab := fun o x y => match o with
  | .bin b => match rangeOf rng x, rangeOf rng y with
    | some p, some q => (bif sameHole x y then selfR b else cmpR b p q).map .bool
    | _, _ => none
  | _ => none
def RngOk (l : List Kept) (rng : Rng) : Prop := ∀ i lo hi, rng i = some (lo, hi) → ∃ n, denOf l i = some n ∧ lo ≤ n ∧ n ≤ hi

theorem valOf_hole (den : Nat → Option Int) (b : Nat) : valOf den (.pointer (some ⟨b, 0, some 0⟩)) = bif Nat.ble holeAt b then den (b - holeAt) else none := rfl

theorem rangeOf_ok {l : List Kept} {rng : Rng} (h : RngOk l rng) {x : Value} {lo hi : Int} (hx : rangeOf rng x = some (lo, hi)) : ∃ n, valOf (denOf l) x = some n ∧ lo ≤ n ∧ n ≤ hi := by
  unfold rangeOf at hx
  split at hx
  · cases hx; exact ⟨_, rfl, Int.le_refl _, Int.le_refl _⟩
  · rename_i b
    cases hb : Nat.ble holeAt b with
    | false => rw [hb] at hx; cases hx
    | true =>
      rw [hb, cond_true] at hx
      obtain ⟨n, h1, h2, h3⟩ := h _ _ _ hx
      exact ⟨n, by rw [valOf_hole, hb, cond_true]; exact h1, h2, h3⟩
  · cases hx

theorem cmpR_ok {o : BinOp} {a b c d m n : Int} {r : Bool} (h : cmpR o (a, b) (c, d) = some r) (h1 : a ≤ m) (h2 : m ≤ b) (h3 : c ≤ n) (h4 : n ≤ d) : iop (.bin o) m n = some (.bool r) := by
  unfold cmpR at h
  cases o <;> simp only [reduceCtorEq] at h
  all_goals
    simp only [Bool.cond_eq_ite] at h
    repeat' split at h
    all_goals simp only [Option.some.injEq, reduceCtorEq, Bool.or_eq_true, decide_eq_true_eq] at *
    all_goals (subst h; simp only [iop, Option.some.injEq, Value.bool.injEq])
    all_goals first
      | (simp only [decide_eq_true_eq, decide_eq_false_iff_not]; omega)
      | (simp only [beq_eq_false_iff_ne, ne_eq, bne_iff_ne]; omega)

theorem selfR_ok {o : BinOp} {m : Int} {r : Bool} (h : selfR o = some r) : iop (.bin o) m m = some (.bool r) := by
  unfold selfR at h
  cases o <;> simp only [reduceCtorEq, Option.some.injEq] at h
  all_goals (subst h; simp [iop])

theorem rngTab_ok {l : List Kept} {rng : Rng} (h : RngOk l rng) : TabOk l (rngTab rng) := by
  intro o x y r hr
  unfold rngTab at hr
  split at hr
  case h_2 => cases hr
  case h_1 b =>
    split at hr
    case h_2 => cases hr
    case h_1 p q hp hq =>
      obtain ⟨p1, p2⟩ := p
      obtain ⟨q1, q2⟩ := q
      obtain ⟨m, a1, a2, a3⟩ := rangeOf_ok h hp
      obtain ⟨n, b1, b2, b3⟩ := rangeOf_ok h hq
      obtain ⟨c, hc, rfl⟩ := Option.map_eq_some_iff.1 hr
      refine ⟨m, n, .bool c, a1, b1, ?_, .inl ⟨rfl, rfl⟩⟩
      cases hs : sameHole x y with
      | false => rw [hs, cond_false] at hc; exact cmpR_ok hc a2 a3 b2 b3
      | true =>
        rw [hs, cond_true] at hc
        have hxy : x = y := by
          unfold sameHole at hs
          split at hs
          · have := Nat.eq_of_beq_eq_true hs; subst this; rfl
          · cases hs
        subst hxy
        rw [a1] at b1
        cases b1
        exact selfR_ok hc

/-- a number, or a place among what is given -/
inductive Tm where
  | c (n : Int) | h (i : Nat)
def isTm : Tm → Value → Bool
  | .c n, .int .i64 m => decide (n = m)
  | .h i, .pointer (some ⟨b, 0, some 0⟩) => Nat.beq b (holeAt + i)
  | _, _ => false
def isOp : IOp → IOp → Bool
  | .bin a, .bin b => decide (a = b)
  | .min, .min => true
  | .max, .max => true
  | _, _ => false
def tmVal (den : Nat → Option Int) : Tm → Option Int
  | .c n => some n
  | .h i => den i
abbrev Rule := IOp × Tm × Tm × Value
def ruleTab : List Rule → Tab
  | [], _, _, _ => none
  | (o', p, q, r) :: l, o, x, y => bif isOp o' o && isTm p x && isTm q y then some r else ruleTab l o x y
def RuleOk (l : List Kept) (r : Rule) : Prop := ∃ a b v, tmVal (denOf l) r.2.1 = some a ∧ tmVal (denOf l) r.2.2.1 = some b ∧ iop r.1 a b = some v ∧ ResOk l r.2.2.2 v

theorem isTm_val {den : Nat → Option Int} {p : Tm} {x : Value} (h : isTm p x = true) : valOf den x = tmVal den p := by
  unfold isTm at h
  split at h
  · have := of_decide_eq_true h; subst this; rfl
  · rename_i i b
    have := Nat.eq_of_beq_eq_true h
    subst this
    rw [valOf_hole, Nat.ble_eq_true_of_le (Nat.le_add_right _ _), cond_true, Nat.add_sub_cancel_left]
    rfl
  · cases h
theorem isOp_eq {a b : IOp} (h : isOp a b = true) : a = b := by
  unfold isOp at h
  split at h
  · rw [of_decide_eq_true h]
  · rfl
  · rfl
  · cases h

theorem ruleTab_ok {l : List Kept} : ∀ {rs : List Rule}, (∀ r ∈ rs, RuleOk l r) → TabOk l (ruleTab rs)
  | [], _ => fun o x y r h => by cases h
  | (o', p, q, r') :: rs, h => fun o x y r hr => by
    unfold ruleTab at hr
    cases hm : isOp o' o && isTm p x && isTm q y with
    | true =>
      rw [hm, cond_true] at hr
      cases hr
      simp only [Bool.and_eq_true] at hm
      obtain ⟨⟨e1, e2⟩, e3⟩ := hm
      obtain ⟨a, b, v, g1, g2, g3, g4⟩ := h _ List.mem_cons_self
      rw [← isOp_eq e1]
      exact ⟨a, b, v, by rw [isTm_val e2]; exact g1, by rw [isTm_val e3]; exact g2, g3, g4⟩
    | false =>
      rw [hm, cond_false] at hr
      exact ruleTab_ok (fun r hr => h r (List.mem_cons_of_mem _ hr)) o x y r hr

def orTab (s t : Tab) : Tab := fun o x y => match s o x y with
  | some r => some r
  | none => t o x y
theorem orTab_ok {l : List Kept} {s t : Tab} (hs : TabOk l s) (ht : TabOk l t) : TabOk l (orTab s t) := by
  intro o x y r h
  unfold orTab at h
  split at h
  · rename_i r' hr; cases h; exact hs _ _ _ _ hr
  · exact ht _ _ _ _ h

/-- bounds, one by one -/
def RngAll : List Kept → List (Option (Int × Int)) → Prop
  | _, [] => True
  | k :: l, some (lo, hi) :: r => (∃ n, k.v = some (.int .i64 n) ∧ lo ≤ n ∧ n ≤ hi) ∧ RngAll l r
  | _ :: l, none :: r => RngAll l r
  | [], _ :: _ => False
def rngOf : List (Option (Int × Int)) → Rng
  | [], _ => none
  | o :: r, i => match i with
    | 0 => o
    | j + 1 => rngOf r j
theorem rngOf_ok : ∀ (l : List Kept) (r : List (Option (Int × Int))), RngAll l r → RngOk l (rngOf r)
  | _, [], _ => fun i lo hi h => by cases h
  | k :: l, some (lo', hi') :: r, h => fun i lo hi e => by
    cases i with
    | zero =>
      cases e
      obtain ⟨⟨n, h1, h2, h3⟩, _⟩ := h
      exact ⟨n, by unfold denOf; rw [List.getElem?_cons_zero]; simp only; rw [h1], h2, h3⟩
    | succ i =>
      obtain ⟨n, h1, h2⟩ := rngOf_ok l r h.2 i lo hi e
      exact ⟨n, by rw [← h1]; unfold denOf; rw [List.getElem?_cons_succ], h2⟩
  | k :: l, none :: r, h => fun i lo hi e => by
    cases i with
    | zero => cases e
    | succ i =>
      obtain ⟨n, h1, h2⟩ := rngOf_ok l r h i lo hi e
      exact ⟨n, by rw [← h1]; unfold denOf; rw [List.getElem?_cons_succ], h2⟩
  | [], o :: _, h => by cases o <;> exact False.elim h

/-- one function that is true, from outside -/
def knowsOrc (k : FuncId) : Orc := fun f args m => bif Nat.beq f k then match args with
  | [] => some (.bool true, m)
  | _ => none
  else none
theorem knowsOrc_sound {P : Program} {l : List Kept} {w0 : World} (hw0 : 0 < w0.heap.size) (hr : RowsOk l w0) {k : FuncId} (hk : ∀ w : World, 0 < w.heap.size → Calls P k #[] w (fun e w' => e = .returned (.bool true) ∧ Below w.heap.size w w')) : @OrcSound (base hr) P (knowsOrc k) := by
  letI : Base := base hr
  refine orc_of fun f args m v m' h => ?_
  unfold knowsOrc at h
  cases hfk : Nat.beq f k with
  | true =>
    rw [hfk, cond_true] at h
    have hfk' : f = k := Nat.eq_of_beq_eq_true hfk
    subst hfk'
    split at h
    · cases h
      refine answers_true fun w ι argsC ha hf => ?_
      have : argsC = #[] := by
        cases argsC with | mk l => cases ha; rfl
      subst this
      exact hk w (Nat.lt_of_lt_of_le hw0 hf.size)
    · cases h
  | false => rw [hfk, cond_false] at h; cases h
end Go.Ev
