import Derived.Test.YtdgkilbimampkaaGreatEvN
namespace Go.Ev
open Go
variable {P : Program} [Base]

omit [Base] in
/-- the row that a growing append made -/
theorem grown_rel {ι : Inj} {m0 : AMem} {w w' : World} (hm : MRel ι m0 w) (hf : ι m0.next = none) {l l' : List Value} (hl : LRel ι l l') {rest : Array Value} {elem : TypeId} {s need cap2 : Nat} (hw : w'.heap = w.heap.push (.cells (l'.toArray ++ rest) elem)) (hsz : (l'.toArray ++ rest).size = cap2 * s) (hle : need ≤ cap2)
    (ho : w'.os = w.os) (ht : w'.tape = w.tape) (hp : w'.output = w.output) :
    ∃ ι', VRel ι' (.slice (some ⟨m0.next, 0, some s⟩) need need) (.slice (some ⟨w.heap.size, 0, none⟩) need cap2) ∧ MRel ι' (m0.new (.cells l elem)) w' ∧ Ext ι m0 (m0.new (.cells l elem)) w w' ι' := by
  have hj : (⟨w.heap.size, 0, (l'.toArray ++ rest).size⟩ : J).blk = w.heap.size := rfl
  have hor : ORel (upd ι m0.next ⟨w.heap.size, 0, (l'.toArray ++ rest).size⟩) (.cells l elem) ⟨w.heap.size, 0, (l'.toArray ++ rest).size⟩ (.cells (l'.toArray ++ rest) elem (0, 0)) := by
    refine ⟨rfl, fun i v hv => ?_, .inl (Nat.le_refl _)⟩
    obtain ⟨v', h1, h2⟩ := hl.get hv
    refine ⟨v', ?_, h2.mono (upd_sub hf)⟩
    have hi := (List.getElem?_eq_some_iff.1 h1).1
    show (l'.toArray ++ rest)[i + 0]? = some v'
    rw [Nat.add_zero, Array.getElem?_append_left (by simpa using hi)]
    simpa using h1
  refine ⟨_, .loose (j := ⟨w.heap.size, 0, (l'.toArray ++ rest).size⟩) (upd_same _ _ _) (.inl rfl) hle (by simp only [Nat.zero_add, hsz]; exact Nat.le_refl _), (hm.new hf hj hor).of_heap hw, (Ext.alloc hf hj).of_heap hw ho ht hp⟩

omit [Base] in
/-- an append in place behind a slice whose room was not known -/
theorem taken_rel {ι : Inj} {m : AMem} {w : World} (hm : MRel ι m w) (hf : ι m.next = none) {b o' : Nat} {c : List Value} {e elem : TypeId} {j : J} (hb : m.get b = some (.cells c e)) (hj : ι b = some j) {old new new' : List Value} (hold : ∀ (i : Nat) (v : Value), old[i]? = some v → ∀ cC : Array Value, (∀ (k : Nat) (x : Value), c[k]? = some x → ∃ x', cC[k + j.off]? = some x' ∧ VRel ι x x') → ∃ v', cC[o' + i]? = some v' ∧ VRel ι v v')
    (hnew : LRel ι new new') (h1 : ∀ v ∈ new, v.oneCell' = true) {s need cap' : Nat} (hroom : o' + cap' * s ≤ j.size) (hneed : need ≤ cap') (hlen : old.length + new.length = need * s) :
    ∃ w' ι', (storeCells ⟨j.blk, o' + old.length, none⟩ new').run P w = .ok () w' ∧ VRel ι' (.slice (some ⟨m.next, 0, some s⟩) need need) (.slice (some ⟨j.blk, o', none⟩) need cap') ∧
      MRel ι' ((m.drop b).new (.cells (old ++ new) elem)) w' ∧ Ext ι m ((m.drop b).new (.cells (old ++ new) elem)) w w' ι' := by
  obtain ⟨cc, hcc, hor⟩ := hm.obj _ _ _ hb hj
  cases cc with
  | cells cC eC fz =>
    obtain ⟨s1, s2, s3⟩ := hor
    have hmul : need * s ≤ cap' * s := Nat.mul_le_mul_right _ hneed
    have hnl := hnew.length
    obtain ⟨cur', r1, r2, r3⟩ := run_storeCells_blk (P := P) new' (o' + old.length) 0 cC w hcc (by rw [s1]; exact s3) (fun _ => by omega) (lrel_oneCell hnew h1)
    have hbl := hm.bound _ _ hj
    have hbn := live_lt hm hb
    refine ⟨_, upd ι m.next ⟨j.blk, o', j.size⟩, r1, .loose (j := ⟨j.blk, o', j.size⟩) (upd_same _ _ _) (.inl (by simp)) hneed hroom, ?_, ?_⟩
    · refine ⟨?_, ?_, ?_, ?_⟩
      · intro k x jk hk hjk
        rw [AMem.get_new] at hk
        unfold upd at hjk
        rw [wr_heap _ _ _ _ hbl]
        by_cases ek : k = m.next
        · rw [if_pos (by simpa using ek)] at hk
          rw [if_pos ek] at hjk
          cases hk; cases hjk
          refine ⟨.cells cur' eC fz, by rw [if_pos rfl], by rw [r2, s1], fun i v hv => ?_, s3⟩
          show ∃ v', cur'[i + o']? = some v' ∧ _
          rw [r3]
          by_cases hi : i < old.length
          · rw [List.getElem?_append_left hi] at hv
            rw [if_neg (by omega)]
            obtain ⟨v', h2, h3⟩ := hold i v hv cC s2
            exact ⟨v', by rw [← h2]; congr 1; omega, h3.mono (upd_sub hf)⟩
          · rw [List.getElem?_append_right (by omega)] at hv
            obtain ⟨v', h2, h3⟩ := hnew.get hv
            have hi2 := (List.getElem?_eq_some_iff.1 h2).1
            rw [if_pos (by omega), show i + o' - (o' + old.length + 0) = i - old.length by omega]
            exact ⟨v', h2, h3.mono (upd_sub hf)⟩
        · rw [if_neg (by simpa using ek)] at hk
          rw [if_neg ek] at hjk
          rw [AMem.get_drop] at hk
          by_cases eb : k = b
          · rw [if_pos eb] at hk; cases hk
          · rw [if_neg eb] at hk
            have hne : jk.blk ≠ j.blk := fun e' => eb (hm.inj _ _ _ _ _ _ hk hb hjk hj e')
            rw [if_neg hne]
            obtain ⟨c', h4, h5⟩ := hm.obj _ _ _ hk hjk
            exact ⟨c', h4, h5.mono (upd_sub hf)⟩
      · intro k k' x x' jk jk' hk hk' hjk hjk' he
        rw [AMem.get_new] at hk hk'
        unfold upd at hjk hjk'
        have other : ∀ {k : Nat} {x : AObj} {jk : J}, k ≠ m.next → (m.drop b).get k = some x → ι k = some jk → jk.blk ≠ j.blk := by
          intro k x jk _ hk hjk e'
          rw [AMem.get_drop] at hk
          by_cases eb : k = b
          · rw [if_pos eb] at hk; cases hk
          · rw [if_neg eb] at hk
            exact eb (hm.inj _ _ _ _ _ _ hk hb hjk hj e')
        by_cases e1 : k = m.next
        · by_cases e2 : k' = m.next
          · rw [e1, e2]
          · rw [if_pos e1] at hjk
            rw [if_neg e2] at hjk'
            rw [if_neg (by simpa using e2)] at hk'
            cases hjk
            exact absurd he.symm (other e2 hk' hjk')
        · rw [if_neg e1] at hjk
          rw [if_neg (by simpa using e1)] at hk
          by_cases e2 : k' = m.next
          · rw [if_pos e2] at hjk'
            cases hjk'
            exact absurd he (other e1 hk hjk)
          · rw [if_neg e2] at hjk'
            rw [if_neg (by simpa using e2)] at hk'
            exact (hm.drop b).inj _ _ _ _ _ _ hk hk' hjk hjk' he
      · intro k jk hk
        unfold upd at hk
        show jk.blk < (w.heap.setIfInBounds _ _).size
        rw [Array.size_setIfInBounds]
        by_cases e1 : k = m.next
        · rw [if_pos e1] at hk; cases hk; exact hbl
        · rw [if_neg e1] at hk; exact hm.bound _ _ hk
      · intro k hk
        simp only [AMem.next_new, AMem.next_drop] at hk
        rw [AMem.get_new, if_neg (by simp; omega)]
        exact (hm.drop b).fresh k (by simp; omega)
    · refine ⟨by simp, upd_sub hf, ?_, ?_, ?_, ?_, rfl, rfl, rfl⟩
      · intro k hk
        unfold upd
        simp only [AMem.next_new, AMem.next_drop] at hk
        rw [if_neg (by omega)]
      · intro k jk h2 h3 hk
        simp only [AMem.next_new, AMem.next_drop] at h3
        have : k = m.next := by omega
        subst this
        rw [upd_same] at hk; cases hk
        exact .inr ⟨b, j, hbn, hj, rfl⟩
      · show w.heap.size ≤ (w.heap.setIfInBounds _ _).size
        simp
      · intro k hk hn
        rw [wr_heap _ _ _ _ hbl, if_neg]
        exact fun e => hn b j hbn hj e.symm
  | _ => simp [ORel] at hor

theorem appendA_run {ι : Inj} {m m' : AMem} {w : World} (hm : MRel ι m w) (hf : Free ι m m' w) {t t1 ty : TypeId} {argTypes : Array TypeId} {args : Array Value} {s s' x x' v : Value} (hs : VRel ι s s') (hx : VRel ι x x')
    (ht : argTypes[0]? = some t) (ht1 : argTypes[1]? = some t1) (hnt : (∃ e, P.underlying t1 = some (.slice e)) ∨ P.underlying t1 = some .string) (ha0 : args[0]? = some s') (ha1 : args[1]? = some x') (h : appendA P m t s x = some (v, m')) :
    ∃ v' w' ι', (Builtin.append_ argTypes ty args).run P w = .ok v' w' ∧ VRel ι' v v' ∧ MRel ι' m' w' ∧ Ext ι m m' w w' ι' := by
  unfold appendA at h
  split at h
  case h_2 => cases h
  case h_1 elem base n cap hu =>
    simp only [Option.bind_eq_bind, Option.bind_eq_some_iff] at h
    obtain ⟨i, hi, z, hz, row, hrow, k, hk, h⟩ := h
    have hsz : sizeT P elem = some i.size := by simp [sizeT, hi]
    obtain ⟨hg, hzr⟩ := zeroT_some hz
    have hshape : ∃ base' c', s' = .slice base' n c' ∧ cap ≤ c' := by
      cases hs with
      | snil => exact ⟨_, _, rfl, Nat.le_refl _⟩
      | slice => exact ⟨_, _, rfl, Nat.le_refl _⟩
      | loose _ _ hc _ => exact ⟨_, _, rfl, hc⟩
    obtain ⟨base', c', hse, hcc⟩ := hshape
    subst hse
    cases hk0 : Nat.beq k 0 with
    | true =>
      rw [hk0, cond_true] at h
      obtain ⟨hnc, h⟩ := cond_some h
      have hnc : n ≤ cap := Nat.le_of_ble_eq_true hnc
      cases h
      have hk0 := beq_of hk0
      subst hk0
      refine ⟨_, w, ι, ?_, hs, hm, Ext.refl _ _ _⟩
      exact room_run (new := []) hu hsz ht ht1 hnt ha0 ha1 (lenA_run hx hk w) (by omega) (run_firstCells_zero hx hk _ w) (by cases base' <;> rfl)
    | false =>
      rw [hk0, cond_false] at h
      have hk0 := beq_ne hk0
      obtain ⟨hc, h⟩ := cond_some h
      simp only [Bool.and_eq_true, decide_eq_true_eq] at hc
      obtain ⟨⟨⟨⟨hb1, hb2⟩, hnl⟩, hzs⟩, hone⟩ := hc
      have hnl := beq_of hnl
      have hzs := beq_of hzs
      have hone : ∀ v ∈ row, v.oneCell' = true := by simpa using hone
      have hsub : sub row 0 (k * i.size) = some row := by
        unfold sub
        rw [List.drop_zero, List.take_of_length_le (by omega)]
        simp only [hnl, Nat.beq_refl, cond_true]
      obtain ⟨new', hnew, hnewr⟩ := rowA_run (P := P) hm hx hsz hrow hk (Nat.le_refl k) hsub
      have hnl' : new'.length = k * i.size := by rw [hnew.length, hnl]
      -- a growing append
      have grow : ∀ {m0 : AMem} {old : List Value}, MRel ι m0 w → m0.next = m.next → m' = m0.new (.cells (old ++ row) elem) → v = .slice (some ⟨m.next, 0, some i.size⟩) (n + k) (n + k) → c' < n + k →
          (∃ old', LRel ι old old' ∧ old'.length = n * i.size ∧ ∀ w1 : World, w1.heap = w.heap → (Builtin.firstCells i.size n (.slice base' n c')).run P w1 = .ok old'.toArray w1) →
          ∃ v' w' ι', (Builtin.append_ argTypes ty args).run P w = .ok v' w' ∧ VRel ι' v v' ∧ MRel ι' m' w' ∧ Ext ι m m' w w' ι' := by
        intro m0 old hm0 hnx hme hve hlt ⟨old', ho1, ho2, ho3⟩
        subst hme; subst hve
        obtain ⟨rest, cap2, w', g1, g2, g3, g4, g5, g6, g7⟩ := grow_run (P := P) (ty := ty) hu hi hzr hzs ht ht1 hnt ha0 ha1 (lenA_run hx hk w) hlt hb1 hb2 ho3 hnewr ho2 hnl'
        have hfree : ι m0.next = none := hf _ (by omega) (by simp)
        have e1 : old'.toArray ++ new'.toArray ++ rest = (old' ++ new').toArray ++ rest := by simp
        rw [e1] at g3 g4
        obtain ⟨ι', q1, q2, q3⟩ := grown_rel hm0 hfree (ho1.append hnew) g3 g4 g2 g5 g6 g7
        rw [hnx] at q1
        exact ⟨_, w', ι', g1, q1, q2, q3.of_next hnx.symm rfl⟩
      cases base with
      | none =>
        obtain ⟨hcz, h⟩ := cond_some h
        simp only [Bool.and_eq_true] at hcz
        have hcz1 := beq_of hcz.1
        have hcz2 := beq_of hcz.2
        subst hcz1; subst hcz2
        cases h
        cases hs
        exact grow (old := []) hm rfl rfl rfl (by omega) ⟨[], .nil, by simp, fun _ _ => rfl⟩
      | some a =>
        obtain ⟨b, o, sp⟩ := a
        simp only at h
        split at h
        case h_2 => cases h
        case h_1 cs e hb =>
          cases hle : Nat.ble (n + k) cap with
          | true =>
            rw [hle, cond_true] at h
            have hle : n + k ≤ cap := Nat.le_of_ble_eq_true hle
            obtain ⟨r, hr, h⟩ := Option.bind_eq_some_iff.1 h
            cases h
            have key : ∀ {j : J}, ι b = some j → base' = some ⟨j.blk, o + j.off, none⟩ → VRel ι (.slice (some ⟨b, o, sp⟩) (n + k) cap) (.slice base' (n + k) c') → ∃ v' w' ι', (Builtin.append_ argTypes ty args).run P w = .ok v' w' ∧ VRel ι' (.slice (some ⟨b, o, sp⟩) (n + k) cap) v' ∧ MRel ι' (m.put b (.cells r e)) w' ∧ Ext ι m (m.put b (.cells r e)) w w' ι' := by
              intro j hj hbase hrel
              obtain ⟨w', h1, h2, h3⟩ := put_cells (P := P) hm hb hj hnew hone hr
              refine ⟨_, w', ι, ?_, hrel, h2, h3⟩
              refine room_run hu hsz ht ht1 hnt ha0 ha1 (lenA_run hx hk w) (by omega) (hnewr w rfl) ?_
              rw [hbase]
              simp only [add_eq]
              rw [show o + j.off + n * i.size = o + n * i.size + j.off by omega]
              exact h1
            cases hs with
            | slice _ _ hj => exact key hj rfl (.slice _ _ hj)
            | loose hj ho hc hrr =>
              have ho := ho.resolve_right (fun e => by omega)
              subst ho
              exact key hj rfl (.loose hj (.inl rfl) hc hrr)
          | false =>
            rw [hle, cond_false] at h
            have hgt : cap < n + k := by
              rcases Nat.lt_or_ge cap (n + k) with h | h
              · exact h
              · rw [Nat.ble_eq_true_of_le h] at hle; cases hle
            obtain ⟨old, hold, h⟩ := Option.bind_eq_some_iff.1 h
            have oldrow : ∀ {m0 : AMem} {o' : Nat} {j : J}, MRel ι m0 w → m0.get b = some (.cells cs e) → ι b = some j → (o' = o + j.off ∨ n = 0) → ∃ old', LRel ι old old' ∧ old'.length = n * i.size ∧ ∀ w1 : World, w1.heap = w.heap → (Builtin.firstCells i.size n (.slice (some ⟨j.blk, o', none⟩) n c')).run P w1 = .ok old'.toArray w1 := by
              intro m0 o' j hm0 hb0 hj ho
              obtain ⟨cc, hcc2, hor⟩ := hm0.obj _ _ _ hb0 hj
              cases cc with
              | cells cC eC fz =>
                obtain ⟨l', r1, r2, r3⟩ := sub_rel hor.2.1 hold
                refine ⟨l', r1, r2, fun w1 hw1 => ?_⟩
                unfold Builtin.firstCells
                have := run_cells (P := P) (w := w1) (o := o') (by rw [hw1]; exact hcc2) (l := l') (fun i v hv => by
                  rcases ho with ho | ho
                  · subst ho; exact r3 i v hv
                  · subst ho; have : l' = [] := by simpa using r2
                    subst this; simp at hv)
                rw [r2] at this
                exact this
              | _ => simp [ORel] at hor
            cases sp with
            | none =>
              cases h
              cases hs with
              | slice _ _ hj => exact grow hm rfl rfl rfl hgt (oldrow hm hb hj (.inl rfl))
            | some sq =>
              obtain ⟨hsq, h2⟩ := cond_some h
              clear h
              have hsq := beq_of hsq
              subst hsq
              cases h2
              cases hs with
              | loose hj ho hc hrr =>
                rename_i o' j
                by_cases hroom : n + k ≤ c'
                · -- there was room
                  have hol : old.length = n * i.size := (sub_some hold).2
                  obtain ⟨w', ι', t1, t2, t3, t4⟩ := taken_rel (P := P) (elem := elem) (s := i.size) (need := n + k) (cap' := c') (o' := o') hm (hf _ (Nat.le_refl _) (by simp)) hb hj (old := old) (fun q v hv cC hcC => by
                      obtain ⟨l', r1, r2, r3⟩ := sub_rel hcC hold
                      obtain ⟨v', h5, h6⟩ := r1.get hv
                      rcases ho with ho | ho
                      · exact ⟨v', by rw [ho]; exact r3 _ _ h5, h6⟩
                      · have : old = [] := by
                          have : n = 0 := ho.1
                          subst this; simpa using hol
                        subst this; simp at hv) hnew hone hrr hroom (by rw [hol, hnl, Nat.add_mul])
                  refine ⟨_, w', ι', ?_, t2, t3, t4⟩
                  refine room_run hu hsz ht ht1 hnt ha0 ha1 (lenA_run hx hk w) hroom (hnewr w rfl) ?_
                  simp only [add_eq]
                  rw [← hol]
                  exact t1
                · exact grow (hm.drop b) rfl rfl rfl (by omega) (oldrow hm hb hj (ho.imp id (fun h => h.1)))
omit [Base] in
theorem appendA_next {m m' : AMem} {t : TypeId} {s x v : Value} (happ : appendA P m t s x = some (v, m')) : m.next ≤ m'.next := by
  unfold appendA at happ
  split at happ
  case h_2 => cases happ
  case h_1 =>
    simp only [Option.bind_eq_bind, Option.bind_eq_some_iff] at happ
    obtain ⟨_, _, _, _, _, _, k, _, happ⟩ := happ
    cases hk : Nat.beq k 0 with
    | true => rw [hk, cond_true] at happ; cases (cond_some happ).2; exact Nat.le_refl _
    | false =>
      rw [hk, cond_false] at happ
      obtain ⟨_, happ⟩ := cond_some happ
      split at happ
      case h_1 =>
        split at happ
        case h_2 => cases happ
        case h_1 =>
          cases hle : Nat.ble _ _ with
          | true =>
            rw [hle, cond_true] at happ
            obtain ⟨_, _, happ⟩ := Option.bind_eq_some_iff.1 happ
            cases happ; simp
          | false =>
            rw [hle, cond_false] at happ
            obtain ⟨_, _, happ⟩ := Option.bind_eq_some_iff.1 happ
            split at happ
            case h_1 => cases happ; simp
            case h_2 => cases (cond_some happ).2; simp
      case h_2 => cases (cond_some happ).2; simp

omit [Base] in
theorem appendH_spec {m m' : AMem} {t : TypeId} {s x v : Value} (h : appendH P m t s x = some (v, m')) : ∃ b o hh elem i z c e, s = .slice (some ⟨b, o, none⟩) 0 0 ∧ x = .pointer (some ⟨hh, i.size + 1, some 0⟩) ∧ P.underlying t = some (.slice elem) ∧ m.get b = some (.cells c e) ∧
    P.info? elem = some i ∧ zeroT P elem = some z ∧ holeAt ≤ hh ∧ i.bytes ≤ 2 ^ 20 ∧ z.cells.size = i.size ∧ v = .pointer (some ⟨m.next, 0, some 0⟩) ∧ m' = { m with next := m.next + 1 } := by
  unfold appendH at h
  split at h
  case h_2 => cases h
  case h_1 b o n cap hh k =>
    split at h
    case h_2 => cases h
    case h_1 elem c e hu hb =>
      simp only [Option.bind_eq_bind, Option.bind_eq_some_iff] at h
      obtain ⟨i, hi, z, hz, h⟩ := h
      obtain ⟨hc, hq⟩ := cond_some h
      clear h
      simp only [Bool.and_eq_true, decide_eq_true_eq] at hc
      obtain ⟨⟨⟨⟨⟨h1, h2⟩, h3⟩, h4⟩, h5⟩, h6⟩ := hc
      have h1 := beq_of h1
      have h2 := beq_of h2
      have h3 := beq_of h3
      subst h1; subst h2; subst h3
      obtain ⟨rfl, rfl⟩ := Prod.mk.inj (Option.some.inj hq)
      exact ⟨b, o, hh, elem, i, z, c, e, rfl, rfl, hu, hb, hi, hz, Nat.le_of_ble_eq_true h4, h5, beq_of h6, rfl, rfl⟩

omit [Base] in
theorem appendX_next {m m' : AMem} {t : TypeId} {s x v : Value} (h : appendX P m t s x = some (v, m')) : m.next ≤ m'.next := by
  unfold appendX at h
  split at h
  case h_1 r hr =>
    cases h
    obtain ⟨_, _, _, _, _, _, _, _, _, _, _, _, _, _, _, _, _, _, rfl⟩ := appendH_spec hr
    exact Nat.le_succ _
  case h_2 => exact appendA_next h

theorem appendH_run {ι : Inj} {m m' : AMem} {w : World} (hm : MRel ι m w) (hf : Free ι m m' w) {t t1 ty : TypeId} {argTypes : Array TypeId} {args : Array Value} {s s' x x' v : Value} (hs : VRel ι s s') (hx : VRel ι x x')
    (ht : argTypes[0]? = some t) (ht1 : argTypes[1]? = some t1) (hnt : (∃ e, P.underlying t1 = some (.slice e)) ∨ P.underlying t1 = some .string) (ha0 : args[0]? = some s') (ha1 : args[1]? = some x') (h : appendH P m t s x = some (v, m')) :
    ∃ v' w' ι', (Builtin.append_ argTypes ty args).run P w = .ok v' w' ∧ VRel ι' v v' ∧ MRel ι' m' w' ∧ Ext ι m m' w w' ι' := by
  obtain ⟨b, o, hh, elem, i, z, cc, e, rfl, rfl, hu, hb, hi, hz, hle, hby, hzs, rfl, rfl⟩ := appendH_spec h
  obtain ⟨hg, hzr⟩ := zeroT_some hz
  have hsz : sizeT P elem = some i.size := by simp [sizeT, hi]
  cases hs with
  | slice _ _ hjb =>
    rename_i jb
    cases hx with
    | hole hj hv hc h1 hr =>
      rename_i j
      obtain ⟨j0, hj0⟩ := Base.full hh hle
      have e0 := hf.old _ _ hj0
      rw [hj] at e0
      cases e0
      obtain ⟨a, n, c, hv2, hn, l, hl, hrd⟩ := Base.rows hh j i.size hj0 (hr _ rfl)
      rw [hv] at hv2
      cases hv2
      have hbn := live_lt hm hb
      -- what is new stands beside the slice's own block
      have fin : ∀ (v' : Value) (w' : World), v'.cells = #[v'] → v'.oneCell' = true → w.heap.size ≤ w'.heap.size → (∀ c, c < w.heap.size → w'.heap[c]? = w.heap[c]?) → w'.os = w.os → w'.tape = w.tape → w'.output = w.output →
          ∃ ι', VRel ι' (.pointer (some ⟨m.next, 0, some 0⟩)) v' ∧ MRel ι' { m with next := m.next + 1 } w' ∧ Ext ι m { m with next := m.next + 1 } w w' ι' := by
        intro v' w' k1 k2 k4 k5 k6 k7 k8
        have hfr : ι m.next = none := hf _ (Nat.le_refl _) (Nat.lt_succ_self _)
        refine ⟨upd ι m.next (@J.mk jb.blk 0 0 { v := some v' }), .hole (j := @J.mk jb.blk 0 0 { v := some v' }) (upd_same _ _ _) rfl k1 k2 (fun s e => by cases e), ⟨fun b' ob j' g1 g2 => ?_, fun b1 b2 o1 o2 j1 j2 g1 g2 g3 g4 g5 => ?_, fun b' j' g1 => ?_, fun b' g1 => ?_⟩, ⟨Nat.le_succ _, upd_sub hfr, fun b' g1 => ?_, fun b' j' g1 g2 g3 => .inr ⟨b, jb, hbn, hjb, ?_⟩, k4, fun c' g1 _ => k5 c' g1, k6, k7, k8⟩⟩
        · have g1 : m.get b' = some ob := g1
          have := live_lt hm g1
          unfold upd at g2
          rw [if_neg (by omega)] at g2
          obtain ⟨c', g3, g4⟩ := hm.obj _ _ _ g1 g2
          exact ⟨c', by rw [k5 _ (hm.bound _ _ g2)]; exact g3, g4.mono (upd_sub hfr)⟩
        · have a1 : m.get b1 = some o1 := g1
          have a2 : m.get b2 = some o2 := g2
          have c1 := live_lt hm a1
          have c2 := live_lt hm a2
          unfold upd at g3 g4
          rw [if_neg (by omega)] at g3 g4
          exact hm.inj _ _ _ _ _ _ a1 a2 g3 g4 g5
        · unfold upd at g1
          by_cases e1 : b' = m.next
          · rw [if_pos e1] at g1; cases g1; exact Nat.lt_of_lt_of_le (show jb.blk < _ from hm.bound _ _ hjb) k4
          · rw [if_neg e1] at g1; exact Nat.lt_of_lt_of_le (hm.bound _ _ g1) k4
        · exact hm.fresh b' (Nat.le_of_succ_le g1)
        · simp only at g1
          unfold upd; rw [if_neg (by omega)]
        · simp only at g2
          unfold upd at g3; rw [if_pos (by omega)] at g3; cases g3; rfl
      have hmem := hf.mem
      by_cases hz0 : n = 0
      · subst hz0
        have hl0 : l = [] := by simpa using hl
        subst hl0
        obtain ⟨ι', q1, q2, q3⟩ := fin (.slice (some ⟨jb.blk, o + jb.off, none⟩) (0 + 0) 0) w rfl rfl (Nat.le_refl _) (fun _ _ => rfl) rfl rfl rfl
        refine ⟨_, w, ι', room_run (new := []) hu hsz ht ht1 hnt ha0 ha1 rfl (Nat.le_refl _) (hrd P w hmem) rfl, q1, q2, q3⟩
      · obtain ⟨rest, cap2, w', g1, g2, g3, g4, g5, g6, g7⟩ := grow_run (P := P) (ty := ty) (k := n) (n := 0) (cap := 0) (old := []) (new := l) (w := w) hu hi hzr hzs ht ht1 hnt ha0 ha1 rfl (by omega) (by omega) hby (fun w1 _ => run_firstCells_zero (.slice 0 0 hjb) rfl _ w1) (fun w1 hw1 => hrd P w1 (fun c hc => by rw [hw1]; exact hmem c hc)) (by simp) hl
        obtain ⟨ι', q1, q2, q3⟩ := fin (.slice (some ⟨w.heap.size, 0, none⟩) (0 + n) cap2) w' rfl rfl (by rw [g3]; simp) (fun c hc => by rw [g3, Array.getElem?_push, if_neg (by omega)]) g5 g6 g7
        exact ⟨_, w', ι', g1, q1, q2, q3⟩

theorem appendX_run {ι : Inj} {m m' : AMem} {w : World} (hm : MRel ι m w) (hf : Free ι m m' w) {t t1 ty : TypeId} {argTypes : Array TypeId} {args : Array Value} {s s' x x' v : Value} (hs : VRel ι s s') (hx : VRel ι x x')
    (ht : argTypes[0]? = some t) (ht1 : argTypes[1]? = some t1) (hnt : (∃ e, P.underlying t1 = some (.slice e)) ∨ P.underlying t1 = some .string) (ha0 : args[0]? = some s') (ha1 : args[1]? = some x') (h : appendX P m t s x = some (v, m')) :
    ∃ v' w' ι', (Builtin.append_ argTypes ty args).run P w = .ok v' w' ∧ VRel ι' v v' ∧ MRel ι' m' w' ∧ Ext ι m m' w w' ι' := by
  unfold appendX at h
  split at h
  case h_1 r hr => cases h; exact appendH_run hm hf hs hx ht ht1 hnt ha0 ha1 hr
  case h_2 => exact appendA_run hm hf hs hx ht ht1 hnt ha0 ha1 h
end Go.Ev
