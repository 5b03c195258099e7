import Derived.Test.YtdgkilbimampkaaGreatEvY3
namespace Go.Ev
open Go
variable {P : Program}

/-! ## Slots, in whatever order -/
def valAt (d : Dr) (i : Nat) : Value := ((d.log[i]?).map (·.k.value)).getD undef
def Writes (ops : List Oper) (i t : Nat) : Prop := ∃ o, ops[i]? = some o ∧ o.dst = some t
def ins (L : Nat → Bool) (i : Nat) : Nat → Bool := fun j => j == i || L j
theorem ins_same (L : Nat → Bool) (i : Nat) : ins L i i = true := by simp [ins]
theorem ins_ne {L : Nat → Bool} {i j : Nat} (h : j ≠ i) : ins L i j = L j := by simp [ins, h]
theorem ins_sub {L : Nat → Bool} {i j : Nat} (h : L j = true) : ins L i j = true := by simp [ins, h]

theorem closed_ins {ops : List Oper} {L : Nat → Bool} {i : Nat} (hc : Closed ops L) (hr : Ready ops L i) : Closed ops (ins L i) := by
  intro j o ho hj e he hb
  obtain ⟨o', ho', _, hall⟩ := hr
  by_cases hji : j = i
  · subst hji
    rw [ho] at ho'; cases ho'
    exact ins_sub (hall e he hb)
  · rw [ins_ne hji] at hj
    exact ins_sub (hc j o ho hj e he hb)

section
variable {R : Rec} {nt : Nat} {ops : List Oper} {T0 : Tr Value} {m0 : AMem} {n : Nat} {d : Dr}

theorem Trac.step (t : Trac P R nt ops (before ops) T0 m0 n d) {i : Nat} {o : Oper} (hi : i < n) (ho : ops[i]? = some o) :
    ∃ e, d.log[i]? = some e ∧ Tat d i = e.T ∧ Nx d i = e.nx ∧ valAt d i = e.k.value ∧ putT nt (Tat d i) o.dst (valAt d i) = some (Tat d (i + 1)) ∧ EntryOk P R ops (before ops) d i e o := by
  have hl : i < d.log.length := by rw [t.len]; exact hi
  refine ⟨d.log[i], List.getElem?_eq_getElem hl, ?_, ?_, ?_, ?_, t.entry i _ o (List.getElem?_eq_getElem hl) ho⟩
  · unfold Tat; rw [List.getElem?_eq_getElem hl]
  · unfold Nx; rw [List.getElem?_eq_getElem hl]
  · unfold valAt; rw [List.getElem?_eq_getElem hl]; rfl
  · have h := t.put i _ o (List.getElem?_eq_getElem hl) ho
    have h1 : Tat d i = (d.log[i]).T := by unfold Tat; rw [List.getElem?_eq_getElem hl]
    have h2 : valAt d i = (d.log[i]).k.value := by unfold valAt; rw [List.getElem?_eq_getElem hl]; rfl
    rw [h1, h2]; exact h

/-- who wrote a slot -/
def Last (ops : List Oper) (A : Nat → Prop) (t i : Nat) : Prop := A i ∧ Writes ops i t ∧ ∀ j, A j → Writes ops j t → j ≤ i

theorem tat_spec (t : Trac P R nt ops (before ops) T0 m0 n d) (hn : n ≤ ops.length) (s : Nat) : ∀ i, i ≤ n →
    (∃ j, Last ops (· < i) s j ∧ (Tat d i).get s = some (valAt d j)) ∨ ((∀ j, j < i → ¬ Writes ops j s) ∧ (Tat d i).get s = T0.get s) := by
  intro i
  induction i with
  | zero => intro _; exact .inr ⟨fun j h => by omega, by rw [t.t0]⟩
  | succ i ih =>
    intro hi
    have hlt : i < ops.length := by omega
    have ho : ops[i]? = some ops[i] := List.getElem?_eq_getElem hlt
    obtain ⟨e, he, h1, h2, h3, h4, _⟩ := t.step (by omega) ho
    unfold putT at h4
    cases hd : (ops[i]).dst with
    | none =>
      rw [hd] at h4
      simp only [Option.some.injEq] at h4
      rw [← h4]
      have nw : ¬ Writes ops i s := by rintro ⟨o, h5, h6⟩; rw [ho] at h5; cases h5; rw [hd] at h6; cases h6
      rcases ih (by omega) with ⟨j, ⟨l1, l2, l3⟩, hj⟩ | ⟨hn', hj⟩
      · refine .inl ⟨j, ⟨Nat.lt_succ_of_lt l1, l2, fun k hk hw => ?_⟩, hj⟩
        by_cases hki : k = i
        · subst hki; exact absurd hw nw
        · exact l3 k (by show k < i; have : k < i + 1 := hk; omega) hw
      · refine .inr ⟨fun j hjl hw => ?_, hj⟩
        by_cases hji : j = i
        · subst hji; exact nw hw
        · exact hn' j (by omega) hw
    | some dd =>
      rw [hd] at h4
      obtain ⟨hb, h4⟩ := cond_some h4
      rw [← Option.some.inj h4]
      by_cases hs : s = dd
      · subst hs
        refine .inl ⟨i, ⟨Nat.lt_succ_self i, ⟨_, ho, hd⟩, fun k hk _ => by have : k < i + 1 := hk; omega⟩, ?_⟩
        rw [Tr.get_set, if_pos rfl]
      · have nw : ¬ Writes ops i s := by rintro ⟨o, h5, h6⟩; rw [ho] at h5; cases h5; rw [hd] at h6; cases h6; exact hs rfl
        rw [Tr.get_set, if_neg hs]
        rcases ih (by omega) with ⟨j, ⟨l1, l2, l3⟩, hj⟩ | ⟨hn', hj⟩
        · refine .inl ⟨j, ⟨Nat.lt_succ_of_lt l1, l2, fun k hk hw => ?_⟩, hj⟩
          by_cases hki : k = i
          · subst hki; exact absurd hw nw
          · exact l3 k (by show k < i; have : k < i + 1 := hk; omega) hw
        · refine .inr ⟨fun j hjl hw => ?_, hj⟩
          by_cases hji : j = i
          · subst hji; exact nw hw
          · exact hn' j (by omega) hw

/-- the slots when these were done -/
structure Slots (ops : List Oper) (nt : Nat) (T0 : Tr Value) (d : Dr) (L : Nat → Bool) (ι : Inj) (tmps : Array Value) : Prop where
  closed : Closed ops L
  size : tmps.size = nt
  slot : ∀ s, (∃ j, Last ops (fun j => L j = true) s j ∧ VRel ι (valAt d j) (tmps.getD s undef)) ∨ ((∀ j, L j = true → ¬ Writes ops j s) ∧ VRel ι ((T0.get s).getD undef) (tmps.getD s undef))

theorem apart_names {p o : Oper} {s : Nat} (h : apartOk ops p o = true) (hp : p.dst = some s) : s ∉ names ops o ∧ o.dst ≠ some s := by
  unfold apartOk at h
  rw [hp] at h
  simp only [Bool.and_eq_true, Bool.not_eq_true', bne_iff_ne, ne_eq] at h
  exact ⟨fun hm => by simp [hm] at h, h.1.2⟩
theorem apart_names' {p o : Oper} {s : Nat} (h : apartOk ops p o = true) (ho : o.dst = some s) : s ∉ names ops p := by
  unfold apartOk at h
  rw [ho] at h
  simp only [Bool.and_eq_true, Bool.not_eq_true'] at h
  exact fun hm => by simp [hm] at h

theorem Slots.named (hO : OrderOk ops (before ops)) (t : Trac P R nt ops (before ops) T0 m0 n d) (hn : n = ops.length) {L : Nat → Bool} {ι : Inj} {tmps : Array Value} (hs : Slots ops nt T0 d L ι tmps) {i : Nat} {o : Oper} (hr : Ready ops L i) (ho : ops[i]? = some o) {s : Nat} (hm : s ∈ names ops o) :
    VRel ι (((Tat d i).get s).getD undef) (tmps.getD s undef) := by
  have hi : i < n := by rw [hn]; exact (List.getElem?_eq_some_iff.1 ho).1
  have hiL : L i = false := by obtain ⟨_, _, h, _⟩ := hr; exact h
  -- nobody later who is listed
  have later : ∀ k, L k = true → Writes ops k s → k < i := by
    intro k hk ⟨ok, hok, hd⟩
    rcases Nat.lt_trichotomy k i with h | h | h
    · exact h
    · subst h; rw [hiL] at hk; cases hk
    · rcases hO.apart i k o ok ho hok h with h1 | h1
      · have := closed_has hO hs.closed hk h1; rw [hiL] at this; cases this
      · exact absurd hm (apart_names' h1 hd)
  have earlier : ∀ k, k < i → Writes ops k s → L k = true := by
    intro k hk ⟨ok, hok, hd⟩
    rcases hO.apart k i ok o hok ho hk with h1 | h1
    · exact ready_has hO hs.closed hr h1
    · exact absurd hm (apart_names h1 hd).1
  rcases tat_spec t (by omega) s i (by omega) with ⟨j, ⟨l1, l2, l3⟩, hj⟩ | ⟨hno, hj⟩
  · rw [hj]
    rcases hs.slot s with ⟨k, ⟨k1, k2, k3⟩, hk⟩ | ⟨hno, _⟩
    · have e : k = j := Nat.le_antisymm (l3 k (later k k1 k2) k2) (k3 j (earlier j l1 l2) l2)
      subst e; exact hk
    · exact absurd l2 (hno j (earlier j l1 l2))
  · rw [hj]
    rcases hs.slot s with ⟨k, ⟨k1, k2, k3⟩, hk⟩ | ⟨_, hk⟩
    · exact absurd k2 (hno k (later k k1 k2))
    · exact hk

theorem Slots.all (t : Trac P R nt ops (before ops) T0 m0 n d) (hn : n = ops.length) {L : Nat → Bool} {ι : Inj} {tmps : Array Value} (hs : Slots ops nt T0 d L ι tmps) (hall : ∀ i, i < n → L i = true) : TRel ι nt d.T tmps := by
  refine ⟨hs.size, fun s => ?_⟩
  have hT : Tat d n = d.T := by unfold Tat; rw [List.getElem?_eq_none (by rw [t.len]; exact Nat.le_refl _)]
  have lt : ∀ k, Writes ops k s → k < n := by rintro k ⟨o, ho, _⟩; rw [hn]; exact (List.getElem?_eq_some_iff.1 ho).1
  rw [← hT]
  rcases tat_spec t (by omega) s n (Nat.le_refl _) with ⟨j, ⟨l1, l2, l3⟩, hj⟩ | ⟨hno, hj⟩
  · rw [hj]
    rcases hs.slot s with ⟨k, ⟨k1, k2, k3⟩, hk⟩ | ⟨hno, _⟩
    · have e : k = j := Nat.le_antisymm (l3 k (lt k k2) k2) (k3 j (hall j l1) l2)
      subst e; exact hk
    · exact absurd l2 (hno j (hall j l1))
  · rw [hj]
    rcases hs.slot s with ⟨k, ⟨k1, k2, k3⟩, hk⟩ | ⟨_, hk⟩
    · exact absurd k2 (hno k (lt k k2))
    · exact hk

theorem Slots.put (hO : OrderOk ops (before ops)) (t : Trac P R nt ops (before ops) T0 m0 n d) (hn : n = ops.length) {L : Nat → Bool} {ι ι' : Inj} {tmps : Array Value} (hs : Slots ops nt T0 d L ι tmps) (hi : ∀ b j, ι b = some j → ι' b = some j) {i : Nat} {o : Oper} (hr : Ready ops L i) (ho : ops[i]? = some o) {v' : Value} (hv : VRel ι' (valAt d i) v') :
    Slots ops nt T0 d (ins L i) ι' (putC tmps o.dst v') := by
  have hin : i < n := by rw [hn]; exact (List.getElem?_eq_some_iff.1 ho).1
  have hiL : L i = false := by obtain ⟨_, _, h, _⟩ := hr; exact h
  obtain ⟨_, _, _, _, _, hput, _⟩ := t.step hin ho
  refine ⟨closed_ins hs.closed hr, ?_, fun s => ?_⟩
  · unfold putC; cases o.dst <;> simp [hs.size]
  · have insW : ∀ j, ins L i j = true → j = i ∨ L j = true := fun j h => by simpa [ins] using h
    cases hd : o.dst with
    | none =>
      have nw : ¬ Writes ops i s := by rintro ⟨o', h5, h6⟩; rw [ho] at h5; cases h5; rw [hd] at h6; cases h6
      simp only [putC]
      rcases hs.slot s with ⟨k, ⟨k1, k2, k3⟩, hk⟩ | ⟨h1, hk⟩
      · refine .inl ⟨k, ⟨ins_sub k1, k2, fun j hj hw => ?_⟩, hk.mono hi⟩
        rcases insW j hj with rfl | h
        · exact absurd hw nw
        · exact k3 j h hw
      · refine .inr ⟨fun j hj hw => ?_, hk.mono hi⟩
        rcases insW j hj with rfl | h
        · exact nw hw
        · exact h1 j h hw
    | some dd =>
      unfold putT at hput
      rw [hd] at hput
      obtain ⟨hb, _⟩ := cond_some hput
      have hb : dd < nt := Nat.le_of_ble_eq_true hb
      simp only [putC]
      by_cases hsd : s = dd
      · subst hsd
        have w : Writes ops i s := ⟨o, ho, hd⟩
        refine .inl ⟨i, ⟨ins_same L i, w, fun j hj hw => ?_⟩, ?_⟩
        · rcases insW j hj with rfl | h
          · exact Nat.le_refl _
          · obtain ⟨oj, hoj, hdj⟩ := hw
            rcases Nat.lt_or_ge i j with hlt | hge
            · rcases hO.apart i j o oj ho hoj hlt with h1 | h1
              · have := closed_has hO hs.closed h h1; rw [hiL] at this; cases this
              · exact absurd hdj (apart_names h1 hd).2
            · exact hge
        · simp only [Array.getD_eq_getD_getElem?, Array.getElem?_setIfInBounds_self_of_lt (show s < tmps.size by rw [hs.size]; exact hb)]
          exact hv
      · have nw : ¬ Writes ops i s := by rintro ⟨o', h5, h6⟩; rw [ho] at h5; cases h5; rw [hd] at h6; cases h6; exact hsd rfl
        have hg : (tmps.setIfInBounds dd v').getD s undef = tmps.getD s undef := by
          simp only [Array.getD_eq_getD_getElem?]
          rw [Array.getElem?_setIfInBounds_ne (fun e' => hsd e'.symm)]
        rw [hg]
        rcases hs.slot s with ⟨k, ⟨k1, k2, k3⟩, hk⟩ | ⟨h1, hk⟩
        · refine .inl ⟨k, ⟨ins_sub k1, k2, fun j hj hw => ?_⟩, hk.mono hi⟩
          rcases insW j hj with rfl | h
          · exact absurd hw nw
          · exact k3 j h hw
        · refine .inr ⟨fun j hj hw => ?_, hk.mono hi⟩
          rcases insW j hj with rfl | h
          · exact nw hw
          · exact h1 j h hw

theorem slots_start {tmps : Array Value} {ι : Inj} (h : TRel ι nt T0 tmps) : Slots ops nt T0 d (fun _ => false) ι tmps :=
  ⟨fun _ _ _ h => Bool.noConfusion h, h.size, fun s => .inr ⟨fun _ h => Bool.noConfusion h, h.rel s⟩⟩

theorem Slots.opnd (hO : OrderOk ops (before ops)) (t : Trac P R nt ops (before ops) T0 m0 n d) (hn : n = ops.length) {L : Nat → Bool} {ι : Inj} {fr : Frame} (hs : Slots ops nt T0 d L ι fr.tmps) {i : Nat} {o : Oper} (hr : Ready ops L i) (ho : ops[i]? = some o) (hok : okAll o) :
    ∀ x ∈ o.op.operands, VRel ι (Ev.opnd (Tat d i) x) (fr.eval x) := by
  intro x hx
  have hx' := hok x hx
  cases x with
  | tmp s =>
    refine hs.named hO t hn hr ho ?_
    unfold names
    refine List.mem_append.2 (.inl (List.mem_filterMap.2 ⟨.tmp s, by simpa using hx, rfl⟩))
  | const v => exact ground_rel ι hx'
  | global g => simp [okOpnd] at hx'
  | func f => exact .func rfl .nil .nil

theorem Slots.wanted (hO : OrderOk ops (before ops)) (t : Trac P R nt ops (before ops) T0 m0 n d) (hn : n = ops.length) {L : Nat → Bool} {ι : Inj} {tmps : Array Value} (hs : Slots ops nt T0 d L ι tmps) {i : Nat} {o : Oper} (hr : Ready ops L i) (ho : ops[i]? = some o) {b : Bool} (hw : wantA ops (Tat d i) o = some b) :
    Region.wanted o (yielded ops.toArray tmps) = b := by
  unfold wantA at hw
  unfold Region.wanted
  cases hg : o.guard with
  | none => rw [hg] at hw; cases hw; rfl
  | some g =>
    obtain ⟨j, want⟩ := g
    rw [hg] at hw
    simp only [yielded, nth_eq, List.getElem?_toArray] at hw ⊢
    cases hd : (ops[j]?).bind (·.dst) with
    | none => rw [hd] at hw; cases hw; rfl
    | some s =>
      rw [hd] at hw
      have hr := hs.named hO t hn hr ho (s := s) (by
        unfold names
        refine List.mem_append.2 (.inr ?_)
        rw [hg]
        simp only [nth_eq, hd]
        simp)
      simp only [Option.bind_some] at hw ⊢
      rw [Array.getD_eq_getD_getElem?] at hr
      exact want_rel hw hr
end
end Go.Ev
