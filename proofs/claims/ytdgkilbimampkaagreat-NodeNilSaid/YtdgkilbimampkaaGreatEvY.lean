import Derived.Test.YtdgkilbimampkaaGreatEvX
namespace Go.Ev
open Go
variable {P : Program}

/-! ## What must come ahead -/
theorem befOf_bit (acc : List Nat) (j : Nat) : ∀ (l : List Edge) (s : Nat), (l.foldl (fun s e => bif Region.binds .any e then s ||| 2 ^ e.on ||| (nth acc e.on).getD 0 else s) s).testBit j = true ↔
    s.testBit j = true ∨ ∃ e ∈ l, Region.binds .any e = true ∧ (e.on = j ∨ ((nth acc e.on).getD 0).testBit j = true)
  | [], s => by simp
  | e :: l, s => by
    rw [List.foldl_cons, befOf_bit acc j l]
    cases hb : Region.binds .any e with
    | false =>
      simp only [cond_false, List.mem_cons, exists_eq_or_imp, hb]
      simp
    | true =>
      simp only [cond_true, Nat.testBit_or, Bool.or_eq_true, List.mem_cons, exists_eq_or_imp, hb, true_and, Nat.testBit_two_pow, decide_eq_true_eq]
      constructor
      · rintro ((( h | h) | h) | h)
        · exact .inl h
        · exact .inr (.inl (.inl h))
        · exact .inr (.inl (.inr h))
        · exact .inr (.inr h)
      · rintro (h | (h | h) | h)
        · exact .inl (.inl (.inl h))
        · exact .inl (.inl (.inr h))
        · exact .inl (.inr h)
        · exact .inr h

theorem before_go (l : List Oper) : ∀ (acc : List Nat), ∃ r : List Nat, l.foldl (fun acc o => acc ++ [befOf acc o]) acc = acc ++ r ∧ r.length = l.length ∧
    ∀ i o, l[i]? = some o → r[i]? = some (befOf (acc ++ r.take i) o) := by
  induction l with
  | nil => intro acc; exact ⟨[], by simp, rfl, fun i o h => by simp at h⟩
  | cons a l ih =>
    intro acc
    obtain ⟨r, h1, h2, h3⟩ := ih (acc ++ [befOf acc a])
    refine ⟨befOf acc a :: r, by rw [List.foldl_cons, h1]; simp, by simp [h2], fun i o h => ?_⟩
    cases i with
    | zero => simp at h; subst h; simp
    | succ i =>
      simp at h
      have := h3 i o h
      simp only [List.getElem?_cons_succ, List.take_succ_cons]
      rw [this]
      simp

theorem before_spec (ops : List Oper) : (before ops).length = ops.length ∧ ∀ i o, ops[i]? = some o → (before ops)[i]? = some (befOf ((before ops).take i) o) := by
  obtain ⟨r, h1, h2, h3⟩ := before_go ops []
  have : before ops = r := by unfold before; rw [h1]; simp
  rw [this]
  exact ⟨h2, fun i o h => by simpa using h3 i o h⟩

structure OrderOk (ops : List Oper) (bef : List Nat) : Prop where
  back : ∀ i o, ops[i]? = some o → ∀ e ∈ o.after, Region.binds .any e = true → e.on < i
  guard : ∀ i o g w, ops[i]? = some o → o.guard = some (g, w) → has bef i g = true
  apart : ∀ i j p o, ops[i]? = some p → ops[j]? = some o → i < j → has bef j i = true ∨ apartOk ops p o = true

theorem orderOk_spec {ops : List Oper} {bef : List Nat} (h : orderOk ops bef = true) : OrderOk ops bef := by
  unfold orderOk at h
  rw [List.all_eq_true] at h
  have at_ : ∀ i o, ops[i]? = some o → (o, i) ∈ ops.zipIdx := fun i o ho => List.mem_zipIdx_iff_getElem?.2 ho
  refine ⟨fun i o ho e he hb => ?_, fun i o g w ho hg => ?_, fun i j p o hp ho hlt => ?_⟩
  · have := h _ (at_ i o ho)
    simp only [Bool.and_eq_true, List.all_eq_true] at this
    have := this.1.1 e (by simpa using he)
    simp only [hb, Bool.not_true, Bool.false_or] at this
    exact Nat.le_of_ble_eq_true this
  · have := h _ (at_ i o ho)
    simp only [Bool.and_eq_true, List.all_eq_true, hg] at this
    exact this.1.2
  · have := h _ (at_ j o ho)
    simp only [Bool.and_eq_true, List.all_eq_true] at this
    have := this.2 _ (at_ i p hp)
    simp only [Bool.or_eq_true, Bool.not_eq_true'] at this
    rcases this with (h1 | h1) | h1
    · have : Nat.blt i j = true := Nat.ble_eq_true_of_le hlt
      rw [this] at h1; cases h1
    · exact .inl h1
    · exact .inr h1

section
variable {ops : List Oper} (hO : OrderOk ops (before ops))
include hO

theorem has_iff {i j : Nat} {o : Oper} (ho : ops[i]? = some o) : has (before ops) i j = true ↔ ∃ e ∈ o.after, Region.binds .any e = true ∧ (e.on = j ∨ has (before ops) e.on j = true) := by
  obtain ⟨h1, h2⟩ := before_spec ops
  unfold has
  rw [nth_eq, h2 i o ho]
  simp only [Option.getD_some]
  unfold befOf
  rw [befOf_bit]
  simp only [Nat.zero_testBit, Bool.false_eq_true, false_or, Array.mem_toList_iff]
  constructor
  · rintro ⟨e, he, hb, h⟩
    refine ⟨e, he, hb, h.imp id fun h => ?_⟩
    have hlt := hO.back i o ho e he hb
    rw [nth_eq, List.getElem?_take, if_pos hlt] at h
    rw [nth_eq]; exact h
  · rintro ⟨e, he, hb, h⟩
    refine ⟨e, he, hb, h.imp id fun h => ?_⟩
    have hlt := hO.back i o ho e he hb
    rw [nth_eq] at h
    rw [nth_eq, List.getElem?_take, if_pos hlt]; exact h

omit hO in
theorem has_some {i j : Nat} (h : has (before ops) i j = true) : ∃ o, ops[i]? = some o := by
  obtain ⟨h1, _⟩ := before_spec ops
  unfold has at h
  rw [nth_eq] at h
  cases hb : (before ops)[i]? with
  | none => rw [hb] at h; simp at h
  | some x =>
    have := (List.getElem?_eq_some_iff.1 hb).1
    exact ⟨ops[i]'(by omega), List.getElem?_eq_getElem (by omega)⟩

theorem has_lt : ∀ {i j : Nat}, has (before ops) i j = true → j < i := by
  intro i
  induction i using Nat.strongRecOn with
  | _ i ih =>
    intro j h
    obtain ⟨o, ho⟩ := has_some h
    obtain ⟨e, he, hb, h⟩ := (has_iff hO ho).1 h
    have hlt := hO.back i o ho e he hb
    rcases h with rfl | h
    · exact hlt
    · exact Nat.lt_trans (ih _ hlt h) hlt

theorem has_trans : ∀ {i j k : Nat}, has (before ops) i j = true → has (before ops) j k = true → has (before ops) i k = true := by
  intro i
  induction i using Nat.strongRecOn with
  | _ i ih =>
    intro j k h h'
    obtain ⟨o, ho⟩ := has_some h
    obtain ⟨e, he, hb, h⟩ := (has_iff hO ho).1 h
    have hlt := hO.back i o ho e he hb
    refine (has_iff hO ho).2 ⟨e, he, hb, ?_⟩
    rcases h with rfl | h
    · exact .inr h'
    · exact .inr (ih _ hlt h h')

/-- what is listed with all that comes ahead -/
def Closed (ops : List Oper) (L : Nat → Bool) : Prop := ∀ i o, ops[i]? = some o → L i = true → ∀ e ∈ o.after, Region.binds .any e = true → L e.on = true
/-- may be listed next -/
def Ready (ops : List Oper) (L : Nat → Bool) (i : Nat) : Prop := ∃ o, ops[i]? = some o ∧ L i = false ∧ ∀ e ∈ o.after, Region.binds .any e = true → L e.on = true

theorem closed_has {L : Nat → Bool} (hc : Closed ops L) : ∀ {i j : Nat}, L i = true → has (before ops) i j = true → L j = true := by
  intro i
  induction i using Nat.strongRecOn with
  | _ i ih =>
    intro j hi h
    obtain ⟨o, ho⟩ := has_some h
    obtain ⟨e, he, hb, h⟩ := (has_iff hO ho).1 h
    have hlt := hO.back i o ho e he hb
    have hl := hc i o ho hi e he hb
    rcases h with rfl | h
    · exact hl
    · exact ih _ hlt hl h

theorem ready_has {L : Nat → Bool} (hc : Closed ops L) {i j : Nat} (hr : Ready ops L i) (h : has (before ops) i j = true) : L j = true := by
  obtain ⟨o, ho, _, hall⟩ := hr
  obtain ⟨e, he, hb, h⟩ := (has_iff hO ho).1 h
  rcases h with rfl | h
  · exact hall e he hb
  · exact closed_has hO hc (hall e he hb) h
end
end Go.Ev
