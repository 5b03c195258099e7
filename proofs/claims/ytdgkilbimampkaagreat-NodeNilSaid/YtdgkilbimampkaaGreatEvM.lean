import Derived.Test.YtdgkilbimampkaaGreatEvL
namespace Go.Ev
open Go
variable {P : Program}

theorem MRel.drop {ι : Inj} {m : AMem} {w : World} (h : MRel ι m w) (b : Nat) : MRel ι (m.drop b) w where
  obj k o j hk hj := by
    rw [AMem.get_drop] at hk
    by_cases e : k = b
    · rw [if_pos e] at hk; cases hk
    · rw [if_neg e] at hk; exact h.obj k o j hk hj
  inj k k' o o' j j' hk hk' hj hj' e := by
    rw [AMem.get_drop] at hk hk'
    by_cases e1 : k = b
    · rw [if_pos e1] at hk; cases hk
    · by_cases e2 : k' = b
      · rw [if_pos e2] at hk'; cases hk'
      · rw [if_neg e1] at hk; rw [if_neg e2] at hk'; exact h.inj _ _ _ _ _ _ hk hk' hj hj' e
  bound := h.bound
  fresh k hk := by
    rw [AMem.get_drop]
    by_cases e : k = b
    · rw [if_pos e]
    · rw [if_neg e]; exact h.fresh k hk

theorem live_lt {ι : Inj} {m : AMem} {w : World} (h : MRel ι m w) {b : Nat} {o : AObj} (hb : m.get b = some o) : b < m.next := by
  rcases Nat.lt_or_ge b m.next with hl | hl
  · exact hl
  · have := h.fresh b hl; rw [hb] at this; cases this

/-- Ext looks at the next number alone -/
theorem Ext.of_next {ι ι' : Inj} {m m' m0 m0' : AMem} {w w' : World} (h : Ext ι m m' w w' ι') (e : m0.next = m.next) (e' : m0'.next = m'.next) : Ext ι m0 m0' w w' ι' :=
  ⟨by rw [e, e']; exact h.next, h.sub, by rw [e, e']; exact h.out, by rw [e, e']; exact h.new, h.size, by rw [e]; exact h.keep, h.os, h.tape, h.output⟩
theorem Ext.of_heap {ι ι' : Inj} {m m' : AMem} {w w' w2 : World} (h : Ext ι m m' w w' ι') (e : w2.heap = w'.heap) (eo : w2.os = w'.os) (et : w2.tape = w'.tape) (ep : w2.output = w'.output) : Ext ι m m' w w2 ι' :=
  ⟨h.next, h.sub, h.out, h.new, by rw [e]; exact h.size, by rw [e]; exact h.keep, by rw [eo]; exact h.os, by rw [et]; exact h.tape, by rw [ep]; exact h.output⟩

/-! ## rows that are handed on -/
theorem lenA_run {ι : Inj} {x x' : Value} {k : Nat} (hx : VRel ι x x') (h : lenA x = some k) (w : World) : (Builtin.lenOf x').run P w = .ok k w := by
  unfold lenA at h
  cases hx <;> simp only [reduceCtorEq, Option.some.injEq] at h <;> subst h <;> rfl

theorem bytes_rel (ι : Inj) (l : List UInt8) : LRel ι (l.map fun c => Value.int .u8 c.toNat) (l.map fun c => Value.int .u8 c.toNat) := by
  induction l with
  | nil => exact .nil
  | cons a l ih => exact .cons (.int _ _) ih

theorem rowA_run {ι : Inj} {m : AMem} {w : World} (hm : MRel ι m w) {elem : TypeId} {s n k : Nat} {x x' : Value} {l l1 : List Value} (hx : VRel ι x x') (hs : sizeT P elem = some s) (h : rowA P m elem x = some l) (hn : lenA x = some n) (hk : k ≤ n) (h1 : sub l 0 (k * s) = some l1) :
    ∃ l1', LRel ι l1 l1' ∧ ∀ w1 : World, w1.heap = w.heap → (Builtin.firstCells s k x').run P w1 = .ok l1'.toArray w1 := by
  obtain ⟨s1, s2⟩ := sub_some h1
  rw [List.drop_zero] at s1
  unfold rowA at h
  split at h
  case h_1 n' c' =>
    cases h
    cases hx
    simp at s1
    subst s1
    exact ⟨[], .nil, fun _ _ => rfl⟩
  case h_2 b o sp n' c' =>
    cases hn
    split at h
    case h_2 => cases h
    case h_1 c e hb =>
      simp only [hs, Option.bind_some] at h
      have key : ∀ {o' c' : Nat} {j : J}, ι b = some j → (o' = o + j.off ∨ n = 0) → x' = .slice (some ⟨j.blk, o', none⟩) n c' → ∃ l1', LRel ι l1 l1' ∧ ∀ w1 : World, w1.heap = w.heap → (Builtin.firstCells s k x').run P w1 = .ok l1'.toArray w1 := by
        intro o' c' j hj ho hxe
        subst hxe
        obtain ⟨cc, hcc, hor⟩ := hm.obj _ _ _ hb hj
        cases cc with
        | cells cC eC fz =>
          obtain ⟨l', r1, r2, r3⟩ := sub_rel hor.2.1 h
          refine ⟨l'.take (k * s), by rw [s1]; exact r1.take _, fun w1 hw1 => ?_⟩
          unfold Builtin.firstCells
          have hlen : (l'.take (k * s)).length = k * s := by
            rw [List.length_take, r2]
            exact Nat.min_eq_left (Nat.mul_le_mul_right _ hk)
          have := run_cells (P := P) (w := w1) (o := o') (by rw [hw1]; exact hcc) (l := l'.take (k * s)) (fun i v hv => by
            have hi : i < k * s := by have := (List.getElem?_eq_some_iff.1 hv).1; omega
            rw [List.getElem?_take, if_pos hi] at hv
            rcases ho with ho | ho
            · subst ho; exact r3 i v hv
            · subst ho; have : k = 0 := by omega
              subst this; simp at hi)
          rw [hlen] at this
          exact this
        | _ => simp [ORel] at hor
      cases hx with
      | slice _ _ hj => exact key hj (.inl rfl) rfl
      | loose hj ho hc hr => exact key hj (ho.imp id (fun h => h.1)) rfl
  case h_3 b =>
    obtain ⟨hsz, h⟩ := cond_some h
    rw [hs] at hsz
    have hsz := beq_of hsz
    subst hsz
    cases h
    cases hx
    cases hn
    refine ⟨l1, by rw [s1]; exact (bytes_rel ι _).take _, fun w1 _ => ?_⟩
    unfold Builtin.firstCells
    simp only [Sem.run_pure]
    congr 1
    apply Array.ext'
    rw [s1]
    simp [ByteArray.data_extract]
  case h_4 => cases h

theorem run_firstCells_zero {ι : Inj} {x x' : Value} {n : Nat} (hx : VRel ι x x') (hn : lenA x = some n) (s : Nat) (w : World) : (Builtin.firstCells s 0 x').run P w = .ok #[] w := by
  unfold lenA at hn
  cases hx <;> simp only [reduceCtorEq] at hn <;> unfold Builtin.firstCells
  case string b =>
    simp only [Sem.run_pure]
    congr 1
    apply Array.ext'
    simp
  all_goals first | rfl | (simp only [Nat.zero_mul]; rfl)

theorem copyA_run {ι : Inj} {m m' : AMem} {w : World} (hm : MRel ι m w) {t ty : TypeId} {argTypes : Array TypeId} {args : Array Value} {d d' x x' v : Value} (hd : VRel ι d d') (hx : VRel ι x x')
    (ht : argTypes[0]? = some t) (ha0 : args[0]? = some d') (ha1 : args[1]? = some x') (h : copyA P m t d x = some (v, m')) :
    ∃ w', (Builtin.copy_ argTypes ty args).run P w = .ok v w' ∧ VRel ι v v ∧ MRel ι m' w' ∧ Ext ι m m' w w' ι := by
  unfold copyA at h
  split at h
  case h_2 => cases h
  case h_1 elem base n c hu =>
    simp only [Option.bind_eq_bind, Option.bind_eq_some_iff] at h
    obtain ⟨s, hs, row, hrow, k, hk, h⟩ := h
    have hshape : ∃ base' c', d' = .slice base' n c' := by cases hd <;> exact ⟨_, _, rfl⟩
    obtain ⟨base', c', hde⟩ := hshape
    have start : (Builtin.copy_ argTypes ty args).run P w = ((Builtin.firstCells s (Nat.min k n) x' >>= fun cells => (match base' with | some a => storeCells a cells.toList | none => pure ()) >>= fun _ => pure (goInt (Nat.min k n)))).run P w := by
      unfold Builtin.copy_
      simp only [ht, ha0, ha1, hde]
      rw [Sem.run_bind, run_underlying hu, Result.andThen_ok]
      simp only []
      rw [Sem.run_bind, lenA_run hx hk, Result.andThen_ok]
      try simp only []
      rw [Sem.run_bind, run_sizeOfT hs, Result.andThen_ok]
      cases base' <;> rfl
    cases hz : Nat.beq (Nat.min k n) 0 with
    | true =>
      rw [hz] at h
      cases h
      have hz := beq_of hz
      refine ⟨w, ?_, .int _ _, hm, Ext.refl _ _ _⟩
      rw [start, hz, Sem.run_bind, run_firstCells_zero hx hk, Result.andThen_ok]
      cases base' <;> rfl
    | false =>
      rw [hz] at h
      simp only [cond_false] at h
      cases base with
      | none => cases h
      | some a =>
        obtain ⟨b, o, sp⟩ := a
        simp only at h
        split at h
        case h_2 => cases h
        case h_1 cs e hb =>
          simp only [Option.bind_eq_some_iff] at h
          obtain ⟨new, hnew, h⟩ := h
          obtain ⟨hone, h⟩ := cond_some h
          obtain ⟨r, hr, h⟩ := Option.bind_eq_some_iff.1 h
          cases h
          obtain ⟨l', hl', hrun⟩ := rowA_run (P := P) hm hx hs hrow hk (Nat.min_le_left k n) hnew
          have hz := beq_ne hz
          have hpos : n ≠ 0 := by intro e; subst e; exact hz (Nat.min_zero _)
          have key : ∀ {j : J}, ι b = some j → base' = some ⟨j.blk, o + j.off, none⟩ → ∃ w', (Builtin.copy_ argTypes ty args).run P w = .ok (goInt (Nat.min k n)) w' ∧ VRel ι (goInt (Nat.min k n)) (goInt (Nat.min k n)) ∧ MRel ι (m.put b (.cells r e)) w' ∧ Ext ι m (m.put b (.cells r e)) w w' ι := by
            intro j hj hbase
            obtain ⟨w', h1, h2, h3⟩ := put_cells (P := P) hm hb hj hl' (by simpa using hone) hr
            refine ⟨w', ?_, .int _ _, h2, h3⟩
            rw [start, Sem.run_bind, hrun w rfl, Result.andThen_ok, hbase]
            simp only []
            rw [Sem.run_bind, h1]
            rfl
          subst hde
          cases hd with
          | slice _ _ hj => exact key hj rfl
          | loose hj ho hc hrr => exact key hj (by rw [ho.resolve_right (fun e => hpos e.1)])
end Go.Ev
