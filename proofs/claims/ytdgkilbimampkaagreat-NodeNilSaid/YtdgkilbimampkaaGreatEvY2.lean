import Derived.Test.YtdgkilbimampkaaGreatEvY
namespace Go.Ev
open Go
variable {P : Program}

def Tat (d : Dr) (i : Nat) : Tr Value := match d.log[i]? with | some e => e.T | none => d.T
def Nx (d : Dr) (i : Nat) : Nat := match d.log[i]? with | some e => e.nx | none => d.next

def MadeAt (d : Dr) (j b : Nat) (x : AObj) : Prop := ∃ (e : Lg) (v : Value), d.log[j]? = some e ∧ e.k = .made v b x
def okAll (o : Oper) : Prop := ∀ x ∈ o.op.operands, okOpnd x = true
def fineB (nx : Nat) (rest : List (Nat × AObj × Nat)) (b : Nat) : Bool := (Nat.blt b nx || Nat.ble holeAt b) && rest.all fun (c, _, _) => !Nat.beq b c

def EntryOk (P : Program) (R : Rec) (ops : List Oper) (bef : List Nat) (d : Dr) (i : Nat) (e : Lg) (o : Oper) : Prop :=
  match e.k with
  | .val v => (wantA ops e.T o = some false ∧ v = undef) ∨ (wantA ops e.T o = some true ∧ okAll o ∧ cls P o = .pure ∧ pureX P R (opnd e.T) o = some v)
  | .made v b x => wantA ops e.T o = some true ∧ okAll o ∧ cls P o = .alloc ∧ b = e.nx ∧ Nx d (i + 1) = e.nx + 1 ∧ ∃ f, allocA P (opnd e.T) o = some (x, f) ∧ v = f b
  | .read _ => wantA ops e.T o = some true ∧ okAll o ∧ cls P o = .read
  | .wrote v p => wantA ops e.T o = some true ∧ okAll o ∧ cls P o = .write ∧ ∃ (m m1 : AMem) (fl rest : List (Nat × AObj × Nat)), d.bases[p]? = some m ∧ d.bases[p + 1]? = some m1 ∧ writeA P R (opnd e.T) o (withFloats m fl e.nx) = some (v, m1) ∧ Nx d (i + 1) = m1.next ∧
      (∀ b x j, (b, x, j) ∈ fl ↔ (j < i ∧ MadeAt d j b x) ∧ (∀ (q w : Nat), q < p → d.wr[q]? = some w → has bef w j = false) ∧ has bef i j = true) ∧
      (∀ b x j, (b, x, j) ∈ rest ↔ (j < i ∧ MadeAt d j b x) ∧ (∀ (q w : Nat), q < p → d.wr[q]? = some w → has bef w j = false) ∧ has bef i j = false) ∧
      (∀ (q w : Nat), q < p → d.wr[q]? = some w → has bef i w = true) ∧ (∀ x ∈ o.op.operands, idsV (fineB e.nx rest) 20 (opnd e.T x) = true) ∧ (∀ b x j, (b, x, j) ∈ fl → idsO (fineB e.nx rest) x = true)

structure Trac (P : Program) (R : Rec) (nt : Nat) (ops : List Oper) (bef : List Nat) (T0 : Tr Value) (m0 : AMem) (n : Nat) (d : Dr) : Prop where
  len : d.log.length = n
  t0 : Tat d 0 = T0
  put : ∀ (i : Nat) (e : Lg) (o : Oper), d.log[i]? = some e → ops[i]? = some o → putT nt e.T o.dst e.k.value = some (Tat d (i + 1))
  n0 : Nx d 0 = m0.next
  mono : ∀ i, i < n → Nx d i ≤ Nx d (i + 1)
  basesLen : d.bases.length = d.wr.length + 1
  base0 : d.bases[0]? = some m0
  wrSpec : ∀ (p i : Nat), d.wr[p]? = some i ↔ ∃ (e : Lg) (v : Value), d.log[i]? = some e ∧ e.k = .wrote v p
  wrAsc : ∀ (p q i j : Nat), p < q → d.wr[p]? = some i → d.wr[q]? = some j → i < j
  un : ∀ (b : Nat) (x : AObj) (j : Nat), (b, x, j) ∈ d.un ↔ MadeAt d j b x ∧ ∀ (q w : Nat), d.wr[q]? = some w → has bef w j = false
  entry : ∀ (i : Nat) (e : Lg) (o : Oper), d.log[i]? = some e → ops[i]? = some o → EntryOk P R ops bef d i e o

/-- one entry more -/
structure Grows (d d' : Dr) (k : Lk) : Prop where
  log : d'.log = d.log ++ [⟨d.T, d.next, k⟩]
  bases : ∃ l, d'.bases = d.bases ++ l
  wr : ∃ l, d'.wr = d.wr ++ l

theorem Grows.get {d d' : Dr} {k : Lk} (h : Grows d d' k) {i : Nat} {e : Lg} (he : d.log[i]? = some e) : d'.log[i]? = some e := by
  rw [h.log, List.getElem?_append_left (List.getElem?_eq_some_iff.1 he).1]; exact he
theorem Grows.last {d d' : Dr} {k : Lk} (h : Grows d d' k) : d'.log[d.log.length]? = some ⟨d.T, d.next, k⟩ := by
  rw [h.log]; simp
theorem Grows.inv {d d' : Dr} {k : Lk} (h : Grows d d' k) {i : Nat} {e : Lg} (he : d'.log[i]? = some e) : d.log[i]? = some e ∨ (i = d.log.length ∧ e = ⟨d.T, d.next, k⟩) := by
  rw [h.log] at he
  by_cases hi : i < d.log.length
  · rw [List.getElem?_append_left hi] at he; exact .inl he
  · rw [List.getElem?_append_right (by omega)] at he
    have hlt := (List.getElem?_eq_some_iff.1 he).1
    simp at hlt
    have : i = d.log.length := by omega
    subst this
    simp at he
    exact .inr ⟨rfl, he.symm⟩
theorem Grows.tat {d d' : Dr} {k : Lk} (h : Grows d d' k) {i : Nat} (hi : i ≤ d.log.length) : Tat d' i = Tat d i := by
  unfold Tat
  by_cases hl : i = d.log.length
  · subst hl; rw [h.last, List.getElem?_eq_none (Nat.le_refl _)]
  · rw [h.log, List.getElem?_append_left (by omega)]
    have : i < d.log.length := by omega
    rw [List.getElem?_eq_getElem this]
theorem Grows.nx {d d' : Dr} {k : Lk} (h : Grows d d' k) {i : Nat} (hi : i ≤ d.log.length) : Nx d' i = Nx d i := by
  unfold Nx
  by_cases hl : i = d.log.length
  · subst hl; rw [h.last, List.getElem?_eq_none (Nat.le_refl _)]
  · rw [h.log, List.getElem?_append_left (by omega)]
    have : i < d.log.length := by omega
    rw [List.getElem?_eq_getElem this]
theorem Grows.wrGet {d d' : Dr} {k : Lk} (h : Grows d d' k) {q : Nat} (hq : q < d.wr.length) : d'.wr[q]? = d.wr[q]? := by
  obtain ⟨l, hl⟩ := h.wr
  rw [hl, List.getElem?_append_left hq]
theorem Grows.baseGet {d d' : Dr} {k : Lk} (h : Grows d d' k) {q : Nat} {m : AMem} (hq : d.bases[q]? = some m) : d'.bases[q]? = some m := by
  obtain ⟨l, hl⟩ := h.bases
  rw [hl, List.getElem?_append_left (List.getElem?_eq_some_iff.1 hq).1]; exact hq
theorem Grows.made {d d' : Dr} {k : Lk} (h : Grows d d' k) {j b : Nat} {x : AObj} (hj : j < d.log.length) : MadeAt d' j b x ↔ MadeAt d j b x := by
  constructor
  · rintro ⟨e, v, he, hk⟩
    rcases h.inv he with h1 | ⟨h1, _⟩
    · exact ⟨e, v, h1, hk⟩
    · omega
  · rintro ⟨e, v, he, hk⟩
    exact ⟨e, v, h.get he, hk⟩

theorem EntryOk.grow {R : Rec} {ops : List Oper} {bef : List Nat} {d d' : Dr} {k : Lk} (h : Grows d d' k) {i : Nat} {e : Lg} {o : Oper} (hi : i < d.log.length) (hp : ∀ v p, e.k = .wrote v p → p ≤ d.wr.length) (he : EntryOk P R ops bef d i e o) : EntryOk P R ops bef d' i e o := by
  unfold EntryOk at he ⊢
  cases hk : e.k with
  | val v => rw [hk] at he; exact he
  | read v => rw [hk] at he; exact he
  | made v b x =>
    rw [hk] at he
    obtain ⟨h1, h2, h3, h4, h5, h6⟩ := he
    exact ⟨h1, h2, h3, h4, by rw [h.nx (by omega)]; exact h5, h6⟩
  | wrote v p =>
    rw [hk] at he
    have hpl := hp v p hk
    obtain ⟨h1, h2, h3, m, m1, fl, rest, h4, h5, h6, h7, h8, h9, h10, h11, h12⟩ := he
    have wreq : ∀ (q w : Nat), q < p → (d'.wr[q]? = some w ↔ d.wr[q]? = some w) := fun q w hq => by rw [h.wrGet (by omega)]
    refine ⟨h1, h2, h3, m, m1, fl, rest, h.baseGet h4, h.baseGet h5, h6, by rw [h.nx (by omega)]; exact h7, fun b x j => ?_, fun b x j => ?_, fun q w hq hw => h10 q w hq ((wreq q w hq).1 hw), h11, h12⟩
    · rw [h8]
      constructor
      · rintro ⟨⟨a1, a2⟩, a3, a4⟩
        exact ⟨⟨a1, (h.made (by omega)).2 a2⟩, fun q w hq hw => a3 q w hq ((wreq q w hq).1 hw), a4⟩
      · rintro ⟨⟨a1, a2⟩, a3, a4⟩
        exact ⟨⟨a1, (h.made (by omega)).1 a2⟩, fun q w hq hw => a3 q w hq ((wreq q w hq).2 hw), a4⟩
    · rw [h9]
      constructor
      · rintro ⟨⟨a1, a2⟩, a3, a4⟩
        exact ⟨⟨a1, (h.made (by omega)).2 a2⟩, fun q w hq hw => a3 q w hq ((wreq q w hq).1 hw), a4⟩
      · rintro ⟨⟨a1, a2⟩, a3, a4⟩
        exact ⟨⟨a1, (h.made (by omega)).1 a2⟩, fun q w hq hw => a3 q w hq ((wreq q w hq).2 hw), a4⟩

/-- the common part of a step -/
theorem Trac.grow {R : Rec} {nt : Nat} {ops : List Oper} {bef : List Nat} {T0 : Tr Value} {m0 : AMem} {n : Nat} {d d' : Dr} {k : Lk} {o : Oper} (t : Trac P R nt ops bef T0 m0 n d) (ho : ops[n]? = some o) (h : Grows d d' k)
    (hT : putT nt d.T o.dst k.value = some d'.T) (hn : d.next ≤ d'.next) (hb : d'.bases.length = d'.wr.length + 1) (hw : ∀ (p i : Nat), d'.wr[p]? = some i ↔ ∃ (e : Lg) (v : Value), d'.log[i]? = some e ∧ e.k = .wrote v p)
    (ha : ∀ (p q i j : Nat), p < q → d'.wr[p]? = some i → d'.wr[q]? = some j → i < j) (hu : ∀ (b : Nat) (x : AObj) (j : Nat), (b, x, j) ∈ d'.un ↔ MadeAt d' j b x ∧ ∀ (q w : Nat), d'.wr[q]? = some w → has bef w j = false)
    (he : EntryOk P R ops bef d' n ⟨d.T, d.next, k⟩ o) : Trac P R nt ops bef T0 m0 (n + 1) d' := by
  have hlen : d'.log.length = n + 1 := by rw [h.log]; simp [t.len]
  have tn : Tat d' (n + 1) = d'.T := by unfold Tat; rw [List.getElem?_eq_none (by omega)]
  have nn : Nx d' (n + 1) = d'.next := by unfold Nx; rw [List.getElem?_eq_none (by omega)]
  have dn : Nx d n = d.next := by unfold Nx; rw [List.getElem?_eq_none (by rw [t.len]; exact Nat.le_refl _)]
  refine ⟨hlen, by rw [h.tat (by omega)]; exact t.t0, fun i e o' he' ho' => ?_, by rw [h.nx (by omega)]; exact t.n0, fun i hi => ?_, hb, h.baseGet t.base0, hw, ha, hu, fun i e o' he' ho' => ?_⟩
  · rcases h.inv he' with h1 | ⟨rfl, rfl⟩
    · have hi := (List.getElem?_eq_some_iff.1 h1).1
      rw [h.tat (by omega)]
      exact t.put i e o' h1 ho'
    · rw [t.len] at ho' ⊢
      rw [ho] at ho'; cases ho'
      rw [tn]; exact hT
  · by_cases hin : i = n
    · subst hin
      rw [nn, h.nx (by rw [t.len]; exact Nat.le_refl _), dn]; exact hn
    · rw [h.nx (by rw [t.len]; omega), h.nx (by rw [t.len]; omega)]
      exact t.mono i (by omega)
  · rcases h.inv he' with h1 | ⟨rfl, rfl⟩
    · have hi := (List.getElem?_eq_some_iff.1 h1).1
      refine (t.entry i e o' h1 ho').grow h hi fun v p hk => ?_
      have := (t.wrSpec p i).2 ⟨e, v, h1, hk⟩
      exact Nat.le_of_lt (List.getElem?_eq_some_iff.1 this).1
    · rw [t.len] at ho' ⊢
      rw [ho] at ho'; cases ho'
      exact he
end Go.Ev
