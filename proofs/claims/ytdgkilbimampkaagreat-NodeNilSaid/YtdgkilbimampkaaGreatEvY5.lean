import Derived.Test.YtdgkilbimampkaaGreatEvY4
namespace Go.Ev
open Go
variable {P : Program}

/-! ## Fewer ids -/
def fnFine (f : Nat → Bool) : Fn → Bool | .yield l => f l | _ => true
theorem FnRel.less {ι ι' : Inj} {f : Nat → Bool} (hi : ∀ b, f b = true → ∀ j, ι b = some j → ι' b = some j) {g g' : Fn} (h : FnRel ι g g') (hf : fnFine f g = true) : FnRel ι' g g' := by
  cases g <;> cases g' <;> simp only [FnRel] at h ⊢ <;> first | exact h | (obtain ⟨j, h1, h2, h3⟩ := h; exact ⟨j, hi _ hf _ h1, h2, h3⟩) | exact h.elim

theorem LRel.lessOf {ι ι' : Inj} {g : Value → Bool} (hg : ∀ v v', VRel ι v v' → g v = true → VRel ι' v v') : ∀ {l l' : List Value}, LRel ι l l' → l.all g = true → LRel ι' l l'
  | _, _, .nil, _ => .nil
  | _, _, .cons h t, ha => by
    rw [List.all_cons, Bool.and_eq_true] at ha
    exact .cons (hg _ _ h ha.1) (LRel.lessOf hg t ha.2)

theorem VRel.less {ι ι' : Inj} {f : Nat → Bool} (hi : ∀ b, f b = true → ∀ j, ι b = some j → ι' b = some j) : ∀ (n : Nat) (v v' : Value), VRel ι v v' → idsV f n v = true → VRel ι' v v'
  | 0, _, _, _, h => by simp [idsV] at h
  | n + 1, v, v', h, hf => by
    have ih := VRel.less hi n
    cases h with
    | bool b => exact .bool b
    | int k n => exact .int k n
    | float k n => exact .float k n
    | complex k a b => exact .complex k a b
    | string s => exact .string s
    | pnil => exact .pnil
    | ptr h => exact .ptr (hi _ hf _ h)
    | snil n c => exact .snil n c
    | slice n c h => exact .slice n c (hi _ hf _ h)
    | loose h ho hc hr => exact .loose (hi _ hf _ h) ho hc hr
    | hole h hv hc h1 hr => exact .hole (hi _ hf _ h) hv hc h1 hr
    | mnil => exact .mnil
    | map h ho => exact .map (hi _ hf _ h) ho
    | cnil => exact .cnil
    | chan h ho => exact .chan (hi _ hf _ h) ho
    | func hfn ha hc =>
      simp only [idsV, Bool.and_eq_true] at hf
      rename_i fn _ _ _ _ _
      have h1 : fnFine f fn = true := by cases fn <;> first | rfl | exact hf.1.1
      exact .func (hfn.less hi h1) (ha.lessOf ih hf.1.2) (hc.lessOf ih hf.2)
    | nilFunc => exact .nilFunc
    | iface t h => exact .iface t (ih _ _ h hf)
    | nilIface => exact .nilIface
    | agg h => exact .agg (h.lessOf ih hf)
    | tuple h => exact .tuple (h.lessOf ih hf)

theorem EsRel.less {ι ι' : Inj} {f : Nat → Bool} (hi : ∀ b, f b = true → ∀ j, ι b = some j → ι' b = some j) : ∀ {l l' : List MapEntry}, EsRel ι l l' → (l.all fun e => idsV f 20 e.val) = true → EsRel ι' l l'
  | [], [], _, _ => trivial
  | _ :: _, _ :: _, ⟨h1, h2, h3, h4, h5⟩, ha => by
    rw [List.all_cons, Bool.and_eq_true] at ha
    exact ⟨h1, h2, h3, h4.less hi 20 _ _ ha.1, EsRel.less hi h5 ha.2⟩
  | [], _ :: _, h, _ => h.elim
  | _ :: _, [], h, _ => h.elim

theorem ORel.less {ι ι' : Inj} {f : Nat → Bool} (hi : ∀ b, f b = true → ∀ j, ι b = some j → ι' b = some j) {o : AObj} {j : J} {c : Obj} (h : ORel ι o j c) (hf : idsO f o = true) : ORel ι' o j c := by
  cases o <;> simp only [idsO] at hf <;> try (cases hf; done)
  all_goals cases c <;> simp only [ORel] at h ⊢ <;> try (exact h.elim)
  case cells.cells =>
    rw [List.all_eq_true] at hf
    exact ⟨h.1, fun i v hv => (h.2.1 i v hv).imp fun v' ⟨h1, h2⟩ => ⟨h1, h2.less hi 20 _ _ (hf v (List.mem_of_getElem? hv))⟩, h.2.2⟩
  case map.map => exact ⟨h.1, h.2.1, h.2.2.less hi hf⟩
  case chan.chan => exact ⟨h.1, h.2.1, h.2.2.1, h.2.2.2.1, h.2.2.2.2.1, h.2.2.2.2.2.1, h.2.2.2.2.2.2.lessOf (fun v v' hv hg => hv.less hi 20 _ _ hg) hf⟩

/-! ## Floats -/
theorem fold_get (fl : List (Nat × AObj × Nat)) : ∀ (h : Tr AObj) (k : Nat), (∃ x j, (k, x, j) ∈ fl ∧ (fl.foldl (fun h (b, x, _) => h.set b (some x)) h).get k = some x) ∨
    ((∀ x j, (k, x, j) ∉ fl) ∧ (fl.foldl (fun h (b, x, _) => h.set b (some x)) h).get k = h.get k) := by
  induction fl with
  | nil => intro h k; exact .inr ⟨fun x j => by simp, rfl⟩
  | cons a l ih =>
    intro h k
    obtain ⟨b, x, j⟩ := a
    rw [List.foldl_cons]
    rcases ih (h.set b (some x)) k with ⟨y, i, h1, h2⟩ | ⟨h1, h2⟩
    · exact .inl ⟨y, i, List.mem_cons_of_mem _ h1, h2⟩
    · rw [h2, Tr.get_set]
      by_cases e : k = b
      · subst e
        rw [if_pos rfl]
        exact .inl ⟨x, j, List.mem_cons_self .., rfl⟩
      · rw [if_neg e]
        refine .inr ⟨fun y i hm => ?_, rfl⟩
        rcases List.mem_cons.1 hm with hm | hm
        · cases hm; exact e rfl
        · exact h1 y i hm

theorem floats_get (m : AMem) (fl : List (Nat × AObj × Nat)) (nx k : Nat) : (∃ x j, (k, x, j) ∈ fl ∧ (withFloats m fl nx).get k = some x) ∨ ((∀ x j, (k, x, j) ∉ fl) ∧ (withFloats m fl nx).get k = m.get k) :=
  fold_get fl m.heap k

theorem floatsAt_mem {bef wr : List Nat} {p : Nat} : ∀ (l : List Lg) (s : Nat) (b : Nat) (x : AObj) (j : Nat), (b, x, j) ∈ floatsAt bef wr p l s ↔
    ∃ i e v, l[i]? = some e ∧ e.k = .made v b x ∧ j = s + i ∧ ∀ (q w : Nat), q < p → wr[q]? = some w → has bef w j = false
  | [], s, b, x, j => by simp [floatsAt]
  | e :: l, s, b, x, j => by
    have tl := floatsAt_mem (bef := bef) (wr := wr) (p := p) l (s + 1) b x j
    have shift : (∃ i e' v, l[i]? = some e' ∧ e'.k = .made v b x ∧ j = s + 1 + i ∧ ∀ (q w : Nat), q < p → wr[q]? = some w → has bef w j = false) ↔
        (∃ i e' v, (e :: l)[i + 1]? = some e' ∧ e'.k = .made v b x ∧ j = s + (i + 1) ∧ ∀ (q w : Nat), q < p → wr[q]? = some w → has bef w j = false) := by
      simp only [List.getElem?_cons_succ]
      constructor
      · rintro ⟨i, e', v, h1, h2, h3, h4⟩; exact ⟨i, e', v, h1, h2, by omega, h4⟩
      · rintro ⟨i, e', v, h1, h2, h3, h4⟩; exact ⟨i, e', v, h1, h2, by omega, h4⟩
    have split : (∃ i e' v, (e :: l)[i]? = some e' ∧ e'.k = .made v b x ∧ j = s + i ∧ ∀ (q w : Nat), q < p → wr[q]? = some w → has bef w j = false) ↔
        ((∃ v, e.k = .made v b x ∧ j = s ∧ ∀ (q w : Nat), q < p → wr[q]? = some w → has bef w s = false) ∨ (b, x, j) ∈ floatsAt bef wr p l (s + 1)) := by
      rw [tl, shift]
      constructor
      · rintro ⟨i, e', v, h1, h2, h3, h4⟩
        cases i with
        | zero =>
          simp at h1; subst h1
          have : j = s := by omega
          subst this
          exact .inl ⟨v, h2, rfl, h4⟩
        | succ i => exact .inr ⟨i, e', v, h1, h2, h3, h4⟩
      · rintro (⟨v, h1, h2, h3⟩ | ⟨i, e', v, h1, h2, h3, h4⟩)
        · subst h2; exact ⟨0, e, v, rfl, h1, rfl, h3⟩
        · exact ⟨i + 1, e', v, h1, h2, h3, h4⟩
    rw [split]
    simp only [floatsAt]
    cases hk : e.k with
    | made v b' x' =>
      simp only
      cases ha : (wr.take p).any fun w => has bef w s with
      | true =>
        rw [cond_true]
        constructor
        · intro h; exact .inr h
        · rintro (⟨v', h1, h2, h3⟩ | h)
          · rw [List.any_eq_true] at ha
            obtain ⟨w, hw, hh⟩ := ha
            obtain ⟨q, hq⟩ := List.getElem?_of_mem hw
            rw [List.getElem?_take] at hq
            split at hq
            · have := h3 q w (by assumption) hq; rw [hh] at this; cases this
            · cases hq
          · exact h
      | false =>
        rw [cond_false, List.mem_cons]
        constructor
        · rintro (h | h)
          · cases h
            refine .inl ⟨v, rfl, rfl, fun q w hq hw => ?_⟩
            cases hh : has bef w s with
            | false => rfl
            | true =>
              rw [List.any_eq_false] at ha
              exact absurd hh (ha w (List.mem_of_getElem? (i := q) (by rw [List.getElem?_take, if_pos hq]; exact hw)))
          · exact .inr h
        · rintro (⟨v', h1, h2, h3⟩ | h)
          · cases h1; subst h2; exact .inl rfl
          · exact .inr h
    | val v => simp
    | read v => simp
    | wrote v q => simp

/-! ## What is made, and not yet in a base -/
def Unc (ops : List Oper) (d : Dr) (p b : Nat) : Prop := ∃ (j : Nat) (x : AObj), MadeAt d j b x ∧ ∀ (q w : Nat), q < p → d.wr[q]? = some w → has (before ops) w j = false

open Classical in
noncomputable def rst (ops : List Oper) (d : Dr) (p : Nat) (ι : Inj) : Inj := fun b => if Unc ops d p b then none else ι b

theorem rst_unc {ops : List Oper} {d : Dr} {p : Nat} {ι : Inj} {b : Nat} (h : Unc ops d p b) : rst ops d p ι b = none := by unfold rst; rw [if_pos h]
theorem rst_not {ops : List Oper} {d : Dr} {p : Nat} {ι : Inj} {b : Nat} (h : ¬ Unc ops d p b) : rst ops d p ι b = ι b := by unfold rst; rw [if_neg h]
theorem rst_some {ops : List Oper} {d : Dr} {p : Nat} {ι : Inj} {b : Nat} {j : J} (h : rst ops d p ι b = some j) : ¬ Unc ops d p b ∧ ι b = some j := by
  by_cases hu : Unc ops d p b
  · rw [rst_unc hu] at h; cases h
  · rw [rst_not hu] at h; exact ⟨hu, h⟩
theorem Unc.le {ops : List Oper} {d : Dr} {p q b : Nat} (h : Unc ops d q b) (hp : p ≤ q) : Unc ops d p b := by
  obtain ⟨j, x, h1, h2⟩ := h
  exact ⟨j, x, h1, fun r w hr hw => h2 r w (by omega) hw⟩

section
variable {R : Rec} {nt : Nat} {ops : List Oper} {T0 : Tr Value} {m0 : AMem} {n : Nat} {d : Dr}

theorem Trac.nx_mono (t : Trac P R nt ops (before ops) T0 m0 n d) {i : Nat} : ∀ {j : Nat}, i ≤ j → j ≤ n → Nx d i ≤ Nx d j := by
  intro j
  induction j with
  | zero => intro h _; have : i = 0 := by omega
            subst this; exact Nat.le_refl _
  | succ j ih =>
    intro h h2
    by_cases e : i = j + 1
    · subst e; exact Nat.le_refl _
    · exact Nat.le_trans (ih (by omega) (by omega)) (t.mono j (by omega))

theorem Trac.nx_end (t : Trac P R nt ops (before ops) T0 m0 n d) : Nx d n = d.next := by
  unfold Nx; rw [List.getElem?_eq_none (by rw [t.len]; exact Nat.le_refl _)]

theorem Trac.made (t : Trac P R nt ops (before ops) T0 m0 n d) (hn : n = ops.length) {j b : Nat} {x : AObj} (h : MadeAt d j b x) : j < n ∧ b = Nx d j ∧ Nx d (j + 1) = b + 1 := by
  have hj : j < n := by rw [← t.len]; exact made_lt h
  obtain ⟨e, v, he, hk⟩ := h
  have ho : ops[j]? = some ops[j] := List.getElem?_eq_getElem (by omega)
  obtain ⟨e', he', h1, h2, h3, h4, h5⟩ := t.step hj ho
  rw [he] at he'; cases he'
  unfold EntryOk at h5
  rw [hk] at h5
  obtain ⟨_, _, _, h6, h7, _⟩ := h5
  exact ⟨hj, by rw [h2, h6], by rw [h7, h6]⟩

theorem Trac.made_inj (t : Trac P R nt ops (before ops) T0 m0 n d) (hn : n = ops.length) {j j' b : Nat} {x x' : AObj} (h : MadeAt d j b x) (h' : MadeAt d j' b x') : j = j' ∧ x = x' := by
  obtain ⟨a1, a2, a3⟩ := t.made hn h
  obtain ⟨b1, b2, b3⟩ := t.made hn h'
  have e : j = j' := by
    rcases Nat.lt_trichotomy j j' with hl | hl | hl
    · have := t.nx_mono (i := j + 1) (j := j') hl (by omega); omega
    · exact hl
    · have := t.nx_mono (i := j' + 1) (j := j) hl (by omega); omega
  subst e
  obtain ⟨e, v, he, hk⟩ := h
  obtain ⟨e', v', he', hk'⟩ := h'
  rw [he] at he'; cases he'
  rw [hk] at hk'; cases hk'
  exact ⟨rfl, rfl⟩

/-- the entry of a write -/
theorem Trac.write (t : Trac P R nt ops (before ops) T0 m0 n d) (hn : n = ops.length) {p i : Nat} (h : d.wr[p]? = some i) :
    i < n ∧ ∃ m1, d.bases[p + 1]? = some m1 ∧ Nx d (i + 1) = m1.next := by
  have hi := t.wrLt h
  obtain ⟨e, v, he, hk⟩ := (t.wrSpec p i).1 h
  have ho : ops[i]? = some ops[i] := List.getElem?_eq_getElem (by omega)
  obtain ⟨e', he', _, _, _, _, h5⟩ := t.step hi ho
  rw [he] at he'; cases he'
  unfold EntryOk at h5
  rw [hk] at h5
  obtain ⟨_, _, _, m, m1, fl, rest, _, h6, _, h7, _⟩ := h5
  exact ⟨hi, m1, h6, h7⟩

/-- the next number of a base -/
theorem Trac.base_next (t : Trac P R nt ops (before ops) T0 m0 n d) (hn : n = ops.length) {p : Nat} {m : AMem} (h : d.bases[p]? = some m) {i : Nat} (hi : i ≤ n) (hw : ∀ (q w : Nat), q < p → d.wr[q]? = some w → w < i) : m.next ≤ Nx d i := by
  cases p with
  | zero =>
    rw [t.base0] at h; cases h
    rw [← t.n0]; exact t.nx_mono (Nat.zero_le _) hi
  | succ p =>
    have hl := (List.getElem?_eq_some_iff.1 h).1
    rw [t.basesLen] at hl
    have hp : d.wr[p]? = some (d.wr[p]'(by omega)) := List.getElem?_eq_getElem _
    obtain ⟨h1, m1, h2, h3⟩ := t.write hn hp
    rw [h] at h2; cases h2
    rw [← h3]
    exact t.nx_mono (hw p _ (Nat.lt_succ_self p) hp) hi
end
end Go.Ev
