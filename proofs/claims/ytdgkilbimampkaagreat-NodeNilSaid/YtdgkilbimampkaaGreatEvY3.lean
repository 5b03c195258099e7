import Derived.Test.YtdgkilbimampkaaGreatEvY2
namespace Go.Ev
open Go
variable {P : Program} [Base]

omit [Base] in
theorem made_lt {d : Dr} {j b : Nat} {x : AObj} (h : MadeAt d j b x) : j < d.log.length := by
  obtain ⟨e, v, he, _⟩ := h
  exact (List.getElem?_eq_some_iff.1 he).1

omit [Base] in
theorem Trac.wrLt {R : Rec} {nt : Nat} {ops : List Oper} {bef : List Nat} {T0 : Tr Value} {m0 : AMem} {n : Nat} {d : Dr} (t : Trac P R nt ops bef T0 m0 n d) {q w : Nat} (h : d.wr[q]? = some w) : w < n := by
  obtain ⟨e, v, he, _⟩ := (t.wrSpec q w).1 h
  rw [← t.len]
  exact (List.getElem?_eq_some_iff.1 he).1

omit [Base] in
/-- an entry that makes and writes nothing -/
theorem Trac.still {R : Rec} {nt : Nat} {ops : List Oper} {bef : List Nat} {T0 : Tr Value} {m0 : AMem} {n : Nat} {d : Dr} (t : Trac P R nt ops bef T0 m0 n d) {o : Oper} {k : Lk} {T' : Tr Value} (ho : ops[n]? = some o)
    (hk1 : ∀ v b x, k ≠ .made v b x) (hk2 : ∀ v p, k ≠ .wrote v p) (hT : putT nt d.T o.dst k.value = some T') (he : EntryOk P R ops bef { d with T := T', log := d.log ++ [⟨d.T, d.next, k⟩] } n ⟨d.T, d.next, k⟩ o) :
    Trac P R nt ops bef T0 m0 (n + 1) { d with T := T', log := d.log ++ [⟨d.T, d.next, k⟩] } := by
  have g : Grows d { d with T := T', log := d.log ++ [⟨d.T, d.next, k⟩] } k := ⟨rfl, ⟨[], by simp⟩, ⟨[], by simp⟩⟩
  refine t.grow ho g hT (Nat.le_refl _) t.basesLen (fun p i => ?_) t.wrAsc (fun b x j => ?_) he
  · rw [show (({ d with T := T', log := d.log ++ [⟨d.T, d.next, k⟩] } : Dr).wr[p]? = some i) = (d.wr[p]? = some i) from rfl, t.wrSpec]
    constructor
    · rintro ⟨e, v, h1, h2⟩; exact ⟨e, v, g.get h1, h2⟩
    · rintro ⟨e, v, h1, h2⟩
      rcases g.inv h1 with h3 | ⟨_, rfl⟩
      · exact ⟨e, v, h3, h2⟩
      · exact absurd h2 (hk2 _ _)
  · rw [show ((b, x, j) ∈ ({ d with T := T', log := d.log ++ [⟨d.T, d.next, k⟩] } : Dr).un) = ((b, x, j) ∈ d.un) from rfl, t.un]
    constructor
    · rintro ⟨h1, h2⟩; exact ⟨(g.made (made_lt h1)).2 h1, h2⟩
    · rintro ⟨⟨e, v, h1, h3⟩, h2⟩
      refine ⟨?_, h2⟩
      rcases g.inv h1 with h4 | ⟨_, rfl⟩
      · exact ⟨e, v, h4, h3⟩
      · exact absurd h3 (hk1 _ _ _)

theorem drawStep_trac {R : Rec} (hR : CallSound P R) (hC : CodeSound P R) {nt : Nat} {ops : List Oper} (hO : OrderOk ops (before ops)) {T0 : Tr Value} {m0 : AMem} {n : Nat} {d d' : Dr} {o : Oper} (t : Trac P R nt ops (before ops) T0 m0 n d) (ho : ops[n]? = some o)
    (h : drawStep P R nt ops (before ops) o n d = some d') : Trac P R nt ops (before ops) T0 m0 (n + 1) d' := by
  unfold drawStep at h
  simp only [Option.bind_eq_bind] at h
  cases hw : wantA ops d.T o with
  | none => rw [hw] at h; cases h
  | some bw => cases bw with
  | false =>
    rw [hw] at h
    obtain ⟨T', hT, rfl⟩ := Option.map_eq_some_iff.1 h
    exact t.still ho (by simp) (by simp) hT (.inl ⟨hw, rfl⟩)
  | true =>
    rw [hw] at h
    obtain ⟨hok, h⟩ := cond_some h
    have hok : okAll o := Array.all_eq_true_iff_forall_mem.1 hok
    cases hcl : cls P o with
    | pure =>
      rw [hcl] at h
      simp only [Option.bind_eq_some_iff] at h
      obtain ⟨v, hv, h⟩ := h
      obtain ⟨T', hT, rfl⟩ := Option.map_eq_some_iff.1 h
      exact t.still ho (by simp) (by simp) hT (.inr ⟨hw, hok, hcl, hv⟩)
    | read =>
      rw [hcl] at h
      simp only [Option.bind_eq_some_iff] at h
      obtain ⟨mm, hmm, v, hv, h⟩ := h
      obtain ⟨T', hT, rfl⟩ := Option.map_eq_some_iff.1 h
      exact t.still ho (by simp) (by simp) hT ⟨hw, hok, hcl⟩
    | alloc =>
      rw [hcl] at h
      simp only [Option.bind_eq_some_iff] at h
      obtain ⟨⟨x, f⟩, hx, d1, hd1, h⟩ := h
      obtain ⟨T', hT, rfl⟩ := Option.map_eq_some_iff.1 hd1
      cases h
      have g : Grows d { d with T := T', log := d.log ++ [⟨d.T, d.next, .made (f d.next) d.next x⟩], un := (d.next, x, n) :: d.un, next := d.next + 1 } (.made (f d.next) d.next x) := ⟨rfl, ⟨[], by simp⟩, ⟨[], by simp⟩⟩
      have nn : Nx { d with T := T', log := d.log ++ [⟨d.T, d.next, .made (f d.next) d.next x⟩], un := (d.next, x, n) :: d.un, next := d.next + 1 } (n + 1) = d.next + 1 := by
        unfold Nx; rw [List.getElem?_eq_none (by simp [t.len])]
      refine t.grow ho g hT (Nat.le_succ _) t.basesLen (fun p i => ?_) t.wrAsc (fun b y j => ?_) ⟨hw, hok, hcl, rfl, nn, f, hx, rfl⟩
      · show d.wr[p]? = some i ↔ _
        rw [t.wrSpec]
        constructor
        · rintro ⟨e, v, h1, h2⟩; exact ⟨e, v, g.get h1, h2⟩
        · rintro ⟨e, v, h1, h2⟩
          rcases g.inv h1 with h3 | ⟨_, rfl⟩
          · exact ⟨e, v, h3, h2⟩
          · cases h2
      · show (b, y, j) ∈ (d.next, x, n) :: d.un ↔ _
        rw [List.mem_cons, t.un]
        constructor
        · rintro (h1 | ⟨h1, h2⟩)
          · cases h1
            refine ⟨⟨_, _, by have := g.last; rw [t.len] at this; exact this, rfl⟩, fun q w hq => ?_⟩
            have hlt := t.wrLt hq
            cases hh : has (before ops) w n with
            | false => rfl
            | true => have := has_lt hO hh; omega
          · exact ⟨(g.made (made_lt h1)).2 h1, h2⟩
        · rintro ⟨⟨e, v, h1, h3⟩, h2⟩
          rcases g.inv h1 with h4 | ⟨hj, rfl⟩
          · exact .inr ⟨⟨e, v, h4, h3⟩, h2⟩
          · cases h3
            rw [t.len] at hj
            subst hj
            exact .inl rfl
    | write =>
      rw [hcl] at h
      obtain ⟨hchk, h⟩ := cond_some h
      simp only [Option.bind_eq_some_iff] at h
      obtain ⟨mm, hmm, ⟨v, m1⟩, hv, d1, hd1, h⟩ := h
      obtain ⟨T', hT, rfl⟩ := Option.map_eq_some_iff.1 hd1
      cases h
      rw [nth_eq] at hmm
      simp only [Bool.and_eq_true, List.all_eq_true] at hchk
      obtain ⟨⟨c1, c2⟩, c3⟩ := hchk
      have hnext := (write_step hR hC hv).1
      have hnext : d.next ≤ m1.next := hnext
      have g : Grows d { d with T := T', log := d.log ++ [⟨d.T, d.next, .wrote v d.wr.length⟩], bases := d.bases ++ [m1], wr := d.wr ++ [n], un := d.un.filter fun (_, _, j) => !has (before ops) n j, next := m1.next } (.wrote v d.wr.length) := ⟨rfl, ⟨[m1], rfl⟩, ⟨[n], rfl⟩⟩
      have wold : ∀ {q w : Nat}, q < d.wr.length → (d.wr ++ [n])[q]? = some w → d.wr[q]? = some w := fun hq h => by rwa [List.getElem?_append_left hq] at h
      have wany : ∀ {q w : Nat}, (d.wr ++ [n])[q]? = some w → d.wr[q]? = some w ∨ (q = d.wr.length ∧ w = n) := by
        intro q w h
        by_cases hq : q < d.wr.length
        · exact .inl (wold hq h)
        · rw [List.getElem?_append_right (by omega)] at h
          have := (List.getElem?_eq_some_iff.1 h).1
          simp at this
          have hq : q = d.wr.length := by omega
          subst hq
          simp at h
          exact .inr ⟨rfl, h.symm⟩
      have nn : Nx { d with T := T', log := d.log ++ [⟨d.T, d.next, .wrote v d.wr.length⟩], bases := d.bases ++ [m1], wr := d.wr ++ [n], un := d.un.filter fun (_, _, j) => !has (before ops) n j, next := m1.next } (n + 1) = m1.next := by
        unfold Nx; rw [List.getElem?_eq_none (by simp [t.len])]
      have un0 : ∀ b x j, (b, x, j) ∈ d.un ↔ (j < n ∧ MadeAt d j b x) ∧ ∀ (q w : Nat), q < d.wr.length → d.wr[q]? = some w → has (before ops) w j = false := by
        intro b x j
        rw [t.un]
        constructor
        · rintro ⟨h1, h2⟩; exact ⟨⟨by rw [← t.len]; exact made_lt h1, h1⟩, fun q w _ hq => h2 q w hq⟩
        · rintro ⟨⟨_, h1⟩, h2⟩; exact ⟨h1, fun q w hq => h2 q w (List.getElem?_eq_some_iff.1 hq).1 hq⟩
      refine t.grow ho g hT hnext (by simp [t.basesLen]) (fun p i => ?_) (fun p q i j hpq hp hq => ?_) (fun b y j => ?_) ⟨hw, hok, hcl, mm, m1, d.un.filter (fun (_, _, j) => has (before ops) n j), d.un.filter (fun (_, _, j) => !has (before ops) n j), ?_, ?_, hv, nn, fun b x j => ?_, fun b x j => ?_, fun q w hq hw' => ?_, ?_, ?_⟩
      · show (d.wr ++ [n])[p]? = some i ↔ _
        constructor
        · intro h1
          rcases wany h1 with h2 | ⟨rfl, rfl⟩
          · obtain ⟨e, u, h3, h4⟩ := (t.wrSpec p i).1 h2
            exact ⟨e, u, g.get h3, h4⟩
          · exact ⟨_, v, by have := g.last; rw [t.len] at this; exact this, rfl⟩
        · rintro ⟨e, u, h1, h2⟩
          rcases g.inv h1 with h3 | ⟨hi, rfl⟩
          · have := (t.wrSpec p i).2 ⟨e, u, h3, h2⟩
            rw [List.getElem?_append_left (List.getElem?_eq_some_iff.1 this).1]; exact this
          · cases h2
            rw [hi, t.len]
            simp
      · rcases wany hq with h2 | ⟨rfl, rfl⟩
        · have hql := (List.getElem?_eq_some_iff.1 h2).1
          exact t.wrAsc p q i j hpq (wold (by omega) hp) h2
        · exact t.wrLt (wold hpq hp)
      · show (b, y, j) ∈ d.un.filter (fun (_, _, j) => !has (before ops) n j) ↔ MadeAt _ j b y ∧ ∀ (q w : Nat), (d.wr ++ [n])[q]? = some w → _
        rw [List.mem_filter, t.un]
        constructor
        · rintro ⟨⟨h1, h2⟩, h3⟩
          refine ⟨(g.made (made_lt h1)).2 h1, fun q w hq => ?_⟩
          rcases wany hq with h4 | ⟨_, rfl⟩
          · exact h2 q w h4
          · simpa using h3
        · rintro ⟨⟨e, u, h1, h3⟩, h2⟩
          rcases g.inv h1 with h4 | ⟨_, rfl⟩
          · refine ⟨⟨⟨e, u, h4, h3⟩, fun q w hq => h2 q w (by rw [List.getElem?_append_left (List.getElem?_eq_some_iff.1 hq).1]; exact hq)⟩, ?_⟩
            have := h2 d.wr.length n (by simp)
            simp [this]
          · cases h3
      · exact g.baseGet hmm
      · show (d.bases ++ [m1])[d.wr.length + 1]? = some m1
        rw [← t.basesLen]; simp
      · rw [List.mem_filter, un0]
        constructor
        · rintro ⟨⟨⟨h1, h2⟩, h3⟩, h4⟩
          exact ⟨⟨h1, (g.made (by rw [t.len]; exact h1)).2 h2⟩, fun q w hq hw' => h3 q w hq (wold hq hw'), h4⟩
        · rintro ⟨⟨h1, h2⟩, h3, h4⟩
          exact ⟨⟨⟨h1, (g.made (by rw [t.len]; exact h1)).1 h2⟩, fun q w hq hw' => h3 q w hq (by show (d.wr ++ [n])[q]? = _; rw [List.getElem?_append_left hq]; exact hw')⟩, h4⟩
      · rw [List.mem_filter, un0]
        constructor
        · rintro ⟨⟨⟨h1, h2⟩, h3⟩, h4⟩
          exact ⟨⟨h1, (g.made (by rw [t.len]; exact h1)).2 h2⟩, fun q w hq hw' => h3 q w hq (wold hq hw'), by simpa using h4⟩
        · rintro ⟨⟨h1, h2⟩, h3, h4⟩
          exact ⟨⟨⟨h1, (g.made (by rw [t.len]; exact h1)).1 h2⟩, fun q w hq hw' => h3 q w hq (by show (d.wr ++ [n])[q]? = _; rw [List.getElem?_append_left hq]; exact hw')⟩, by simp [h4]⟩
      · exact c1 w (List.mem_of_getElem? (wold hq hw'))
      · intro x hx; exact c2 x (by simpa using hx)
      · intro b x j hx; exact c3 (b, x, j) hx

theorem drawGo_trac {R : Rec} (hR : CallSound P R) (hC : CodeSound P R) {nt : Nat} {ops : List Oper} (hO : OrderOk ops (before ops)) {T0 : Tr Value} {m0 : AMem} : ∀ (l : List Oper) (n : Nat) (d d' : Dr), ops.drop n = l → Trac P R nt ops (before ops) T0 m0 n d →
    drawGo P R nt ops (before ops) l n d = some d' → Trac P R nt ops (before ops) T0 m0 (n + l.length) d'
  | [], n, d, d', _, t, h => by cases h; exact t
  | o :: l, n, d, d', hl, t, h => by
    simp only [drawGo, Option.bind_eq_bind, Option.bind_eq_some_iff] at h
    obtain ⟨d1, h1, h2⟩ := h
    have ho : ops[n]? = some o := by
      have := congrArg (fun l => l[0]?) hl
      simpa using this
    have hl' : ops.drop (n + 1) = l := by rw [← List.drop_drop, hl]; rfl
    have := drawGo_trac hR hC hO l (n + 1) d1 d' hl' (drawStep_trac hR hC hO t ho h1) h2
    rw [show n + (o :: l).length = n + 1 + l.length by simp; omega]
    exact this

omit [Base] in
theorem trac_start {R : Rec} (nt : Nat) (ops : List Oper) (bef : List Nat) (T : Tr Value) (m : AMem) : Trac P R nt ops bef T m 0 { T, log := [], bases := [m], wr := [], un := [], next := m.next } := by
  refine ⟨rfl, rfl, fun i e o h => by simp at h, rfl, fun i h => by omega, rfl, rfl, fun p i => ?_, fun p q i j _ h => by simp at h, fun b x j => ?_, fun i e o h => by simp at h⟩
  · constructor
    · intro h; simp at h
    · rintro ⟨e, v, h, _⟩; simp at h
  · constructor
    · intro h; simp at h
    · rintro ⟨⟨e, v, h, _⟩, _⟩; simp at h
end Go.Ev
