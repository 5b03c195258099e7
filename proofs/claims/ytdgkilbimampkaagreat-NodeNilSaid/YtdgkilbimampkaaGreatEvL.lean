import Derived.Test.YtdgkilbimampkaaGreatEvK
namespace Go.Ev
open Go
variable {P : Program}

theorem over_one {α : Type} {l r : List α} {i : Nat} {a : α} (h : over l i [a] = some r) : r = l.set i a := by
  obtain ⟨h1, _, h3, h4⟩ := over_spec _ _ _ _ h
  have h3 := h3 (by simp)
  simp at h3
  apply List.ext_getElem?
  intro k
  rw [h4, List.getElem?_set]
  by_cases e : i = k
  · subst e
    rw [if_pos (by simp), if_pos rfl, if_pos (by omega)]
    simp
  · rw [if_neg (by simp; omega), if_neg e]

theorem run_setObj {w : World} {r : Nat} {o o' : Obj} (h : w.heap[r]? = some o) (hc : ∀ a b c, o ≠ .cells a b c) : (setObj r o').run P w = .ok () (wr w r o') := by
  cases o <;> first | exact absurd rfl (hc _ _ _) | simp [setObj, Sem.run, h, wr]

theorem modify_list (es : Array MapEntry) (i : Nat) (f : MapEntry → MapEntry) {e : MapEntry} (h : es[i]? = some e) : (es.modify i f).toList = es.toList.set i (f e) := by
  apply List.ext_getElem?
  intro k
  have hl := (Array.getElem?_eq_some_iff.1 h).1
  rw [List.getElem?_set]
  simp only [Array.getElem?_toList, Array.getElem?_modify]
  by_cases e' : i = k
  · subst e'; rw [if_pos rfl, if_pos rfl, if_pos (by simpa using hl), h]; rfl
  · rw [if_neg e', if_neg e']

theorem keyThatStays_run {a b : Value} (h : Instr.sameBits 10000 a b = true) (w : World) : (Instr.keyThatStays a b).run P w = .ok b w := by
  unfold Instr.keyThatStays
  rw [if_pos h]; rfl

/-- the found place, on both sides -/
theorem found {ι : Inj} {es : List MapEntry} {esC : Array MapEntry} (he : EsRel ι es esC.toList) {i : Nat} {e : MapEntry} (h : nth es i = some e) : ∃ e', esC[i]? = some e' ∧ ground e.key = true ∧ e'.key = e.key ∧ e'.born = e.born ∧ VRel ι e.val e'.val := by
  rw [nth_eq] at h
  obtain ⟨e', h1, h2⟩ := he.get h
  exact ⟨e', by simpa using h1, h2⟩

theorem mapSetA_run {ι : Inj} {m m' : AMem} {w : World} (hm : MRel ι m w) {t : TypeId} {x x' k k' v v' : Value} (hx : VRel ι x x') (hk : VRel ι k k') (hv : VRel ι v v') (h : mapSetA P m t x k v = some m') :
    ∃ w', (Instr.mapUpdate t x' k' v').run P w = .ok () w' ∧ MRel ι m' w' ∧ Ext ι m m' w w' ι := by
  unfold mapSetA at h
  split at h
  case h_2 => cases h
  case h_1 kt et b hu =>
    split at h
    case h_2 => cases h
    case h_1 es clock hb =>
      simp only [Option.bind_eq_bind, Option.bind_eq_some_iff] at h
      obtain ⟨_, hkey, r, hr, h⟩ := h
      obtain ⟨hg, hck⟩ := keyA_some hkey
      obtain ⟨d, hd⟩ := keyT_underlying hkey
      have hkk := ground_eq hg hk
      subst hkk
      cases hx with
      | map hj ho =>
        rename_i j
        obtain ⟨cc, hcc, hor⟩ := hm.obj _ _ _ hb hj
        cases cc with
        | map esC clkC =>
          obtain ⟨_, rfl, hes⟩ := hor
          obtain ⟨r', h1, h2⟩ := findKey_run hd w hes hr
          unfold Instr.mapUpdate
          rw [Sem.run_bind, run_underlying hu, Result.andThen_ok]
          simp only []
          rw [Sem.run_bind, run_getObj hcc (by simp), Result.andThen_ok]
          simp only []
          rw [Sem.run_bind, hck, Result.andThen_ok, Sem.run_bind, h1, Result.andThen_ok]
          cases r with
          | none =>
            cases r' with
            | some _ => exact h2.elim
            | none =>
              cases h
              refine ⟨_, run_setObj hcc (by simp), hm.put hb hj ⟨ho, rfl, ?_⟩, Ext.wr hm hb hj⟩
              rw [Array.toList_push]
              exact hes.snoc hg rfl rfl hv
          | some iv =>
            obtain ⟨i, y⟩ := iv
            cases r' with
            | none => exact h2.elim
            | some jv =>
              obtain ⟨i', y'⟩ := jv
              obtain ⟨rfl, _⟩ := h2
              simp only at h
              split at h
              case h_2 => cases h
              case h_1 e hn =>
                obtain ⟨hsb, h⟩ := cond_some h
                obtain ⟨es', ho', rfl⟩ := Option.map_eq_some_iff.1 h
                have ho' := over_one ho'
                subst ho'
                obtain ⟨e', f1, f2, f3, f4, f5⟩ := found hes hn
                simp only [f1, Option.map_some, Option.getD_some, f3]
                rw [Sem.run_bind, keyThatStays_run hsb, Result.andThen_ok]
                refine ⟨_, run_setObj hcc (by simp), hm.put hb hj ⟨ho, rfl, ?_⟩, Ext.wr hm hb hj⟩
                rw [modify_list _ _ _ f1]
                exact hes.set _ hg rfl f4 hv
        | _ => simp [ORel] at hor

theorem mapEntryA_run {ι : Inj} {m m' : AMem} {w : World} (hm : MRel ι m w) {t : TypeId} {x x' k k' v : Value} (hx : VRel ι x x') (hk : VRel ι k k') (h : mapEntryA P m t x k = some (v, m')) :
    ∃ v' w', (Instr.mapEntry t x' k').run P w = .ok v' w' ∧ VRel ι v v' ∧ MRel ι m' w' ∧ Ext ι m m' w w' ι := by
  unfold mapEntryA at h
  split at h
  case h_2 => cases h
  case h_1 kt et b hu =>
    split at h
    case h_2 => cases h
    case h_1 es clock hb =>
      simp only [Option.bind_eq_bind, Option.bind_eq_some_iff] at h
      obtain ⟨_, hkey, r, hr, h⟩ := h
      obtain ⟨hg, hck⟩ := keyA_some hkey
      obtain ⟨d, hd⟩ := keyT_underlying hkey
      have hkk := ground_eq hg hk
      subst hkk
      cases hx with
      | map hj ho =>
        rename_i j
        obtain ⟨cc, hcc, hor⟩ := hm.obj _ _ _ hb hj
        cases cc with
        | map esC clkC =>
          obtain ⟨_, rfl, hes⟩ := hor
          obtain ⟨r', h1, h2⟩ := findKey_run hd w hes hr
          unfold Instr.mapEntry
          rw [Sem.run_bind, run_underlying hu, Result.andThen_ok]
          simp only []
          rw [Sem.run_bind, run_getObj hcc (by simp), Result.andThen_ok]
          simp only []
          rw [Sem.run_bind, hck, Result.andThen_ok, Sem.run_bind, h1, Result.andThen_ok]
          cases r with
          | none =>
            cases r' with
            | some _ => exact h2.elim
            | none =>
              simp only [Option.bind_eq_some_iff] at h
              obtain ⟨z, hz, h⟩ := h
              cases h
              obtain ⟨hgz, hzr⟩ := zeroT_some hz
              simp only []
              rw [Sem.run_bind, hzr, Result.andThen_ok, Sem.run_bind, run_setObj hcc (by simp), Result.andThen_ok]
              refine ⟨_, _, rfl, .tuple (.cons (ground_rel ι hgz) (.cons (.int _ _) .nil)), hm.put hb hj ⟨ho, rfl, ?_⟩, Ext.wr hm hb hj⟩
              rw [Array.toList_push]
              exact hes.snoc hg rfl rfl (ground_rel ι hgz)
          | some iv =>
            obtain ⟨i, y⟩ := iv
            cases r' with
            | none => exact h2.elim
            | some jv =>
              obtain ⟨i', y'⟩ := jv
              obtain ⟨rfl, hy⟩ := h2
              simp only at h
              split at h
              case h_2 => cases h
              case h_1 e hn =>
                obtain ⟨hsb, h⟩ := cond_some h
                obtain ⟨es', ho', h⟩ := Option.map_eq_some_iff.1 h
                cases h
                have ho' := over_one ho'
                subst ho'
                obtain ⟨e', f1, f2, f3, f4, f5⟩ := found hes hn
                simp only [f1, Option.map_some, Option.getD_some, f3]
                rw [Sem.run_bind, keyThatStays_run hsb, Result.andThen_ok, Sem.run_bind, run_setObj hcc (by simp), Result.andThen_ok]
                refine ⟨_, _, rfl, .tuple (.cons hy (.cons (by rw [f4]; exact .int _ _) .nil)), hm.put hb hj ⟨ho, rfl, ?_⟩, Ext.wr hm hb hj⟩
                rw [modify_list _ _ _ f1]
                exact hes.set _ hg rfl f4 f5
        | _ => simp [ORel] at hor

theorem bornAt_spec {ι : Inj} {n : Int} : ∀ {es : List MapEntry} {l : List MapEntry} {i r : Nat}, EsRel ι es l → bornAt n es i = some r → ∃ q, r = i + q ∧ l.findIdx? (fun e => (e.born : Int) == n) = some q
  | [], [], _, _, _, h => by simp [bornAt] at h
  | e :: es, e' :: l, i, r, ⟨_, _, h3, _, h5⟩, h => by
    simp only [bornAt] at h
    rw [List.findIdx?_cons, h3]
    cases hb : decide ((e.born : Int) = n) with
    | true =>
      rw [hb] at h; cases h
      have : ((e.born : Int) == n) = true := by simpa using hb
      exact ⟨0, rfl, by rw [if_pos this]⟩
    | false =>
      rw [hb] at h
      have : ((e.born : Int) == n) = false := by simpa using hb
      obtain ⟨q, h6, h7⟩ := bornAt_spec h5 h
      refine ⟨q + 1, by omega, ?_⟩
      rw [this, h7]; rfl
  | [], _ :: _, _, _, h, _ => h.elim
  | _ :: _, [], _, _, h, _ => h.elim

theorem entryStoreA_run {ι : Inj} {m m' : AMem} {w : World} (hm : MRel ι m w) {t : TypeId} {x x' s s' v v' : Value} (hx : VRel ι x x') (hs : VRel ι s s') (hv : VRel ι v v') (h : entryStoreA m x s v = some m') :
    ∃ w', (Instr.entryStore t x' s' v').run P w = .ok () w' ∧ MRel ι m' w' ∧ Ext ι m m' w w' ι := by
  unfold entryStoreA at h
  split at h
  case h_2 => cases h
  case h_1 b =>
    split at h
    case h_2 => cases h
    case h_1 es clock hb =>
      simp only [Option.bind_eq_bind, Option.bind_eq_some_iff] at h
      obtain ⟨n, hn, i, hi, e, he, es', ho', h⟩ := h
      cases h
      have ho' := over_one ho'
      subst ho'
      obtain ⟨kd, _, rfl⟩ := asI_rel hs hn
      cases hx with
      | map hj ho =>
        rename_i j
        obtain ⟨cc, hcc, hor⟩ := hm.obj _ _ _ hb hj
        cases cc with
        | map esC clkC =>
          obtain ⟨_, rfl, hes⟩ := hor
          obtain ⟨q, hq, hfi⟩ := bornAt_spec hes hi
          have hq : i = q := by omega
          subst hq
          obtain ⟨e', f1, f2, f3, f4, f5⟩ := found hes he
          unfold Instr.entryStore
          simp only []
          rw [Sem.run_bind, run_getObj hcc (by simp), Result.andThen_ok]
          simp only []
          rw [Sem.run_bind, show (asInt (.int kd n)).run P w = .ok n w from rfl, Result.andThen_ok]
          have hfi' : esC.findIdx? (fun e => (e.born : Int) == n) = some i := by rw [← hfi]; cases esC; simp
          simp only [hfi']
          refine ⟨_, run_setObj hcc (by simp), hm.put hb hj ⟨ho, rfl, ?_⟩, Ext.wr hm hb hj⟩
          rw [modify_list _ _ _ f1]
          exact hes.set _ f2 f3 f4 hv
        | _ => simp [ORel] at hor

theorem mapDelA_run {ι : Inj} {m m' : AMem} {w : World} (hm : MRel ι m w) {t ty : TypeId} {argTypes : Array TypeId} {args : Array Value} {x x' k k' : Value} (hx : VRel ι x x') (hk : VRel ι k k')
    (ht : argTypes[0]? = some t) (ha0 : args[0]? = some x') (ha1 : args[1]? = some k') (h : mapDelA P m t x k = some m') :
    ∃ w', (Builtin.delete_ argTypes ty args).run P w = .ok undef w' ∧ MRel ι m' w' ∧ Ext ι m m' w w' ι := by
  unfold mapDelA at h
  split at h
  case h_1 kt et hu =>
    cases hx
    obtain ⟨_, hkey, h⟩ := Option.map_eq_some_iff.1 h
    subst h
    obtain ⟨hg, hck⟩ := keyA_some hkey
    have hkk := ground_eq hg hk
    subst hkk
    refine ⟨w, ?_, hm, Ext.refl _ _ _⟩
    unfold Builtin.delete_
    simp only [ht, ha0, ha1]
    rw [Sem.run_bind, run_underlying hu, Result.andThen_ok]
    simp only []
    rw [Sem.run_bind, hck, Result.andThen_ok]
    rfl
  case h_2 kt et b hu =>
    split at h
    case h_2 => cases h
    case h_1 es clock hb =>
      simp only [Option.bind_eq_bind, Option.bind_eq_some_iff] at h
      obtain ⟨_, hkey, r, hr, h⟩ := h
      obtain ⟨hg, hck⟩ := keyA_some hkey
      obtain ⟨d, hd⟩ := keyT_underlying hkey
      have hkk := ground_eq hg hk
      subst hkk
      cases hx with
      | map hj ho =>
        rename_i j
        obtain ⟨cc, hcc, hor⟩ := hm.obj _ _ _ hb hj
        cases cc with
        | map esC clkC =>
          obtain ⟨_, rfl, hes⟩ := hor
          obtain ⟨r', h1, h2⟩ := findKey_run hd w hes hr
          have hemp : esC.isEmpty = es.isEmpty := by
            have := hes.length
            cases es with
            | nil => simp at this; simp [this]
            | cons a l => simp at this; simp; intro e; rw [e] at this; simp at this
          unfold Builtin.delete_
          simp only [ht, ha0, ha1]
          rw [Sem.run_bind, run_underlying hu, Result.andThen_ok]
          simp only []
          rw [Sem.run_bind, run_getObj hcc (by simp), Result.andThen_ok]
          simp only []
          rw [hemp, Sem.run_bind, hck, Result.andThen_ok, Sem.run_bind, h1, Result.andThen_ok]
          cases r with
          | none =>
            cases r' with
            | some _ => exact h2.elim
            | none =>
              cases h
              refine ⟨w, ?_, hm, Ext.refl _ _ _⟩
              simp only []
              rw [Sem.run_bind, run_setObj hcc (by simp), Result.andThen_ok, wr_self hcc]
              rfl
          | some iv =>
            obtain ⟨i, y⟩ := iv
            cases r' with
            | none => exact h2.elim
            | some jv =>
              obtain ⟨i', y'⟩ := jv
              obtain ⟨rfl, _⟩ := h2
              cases h
              refine ⟨wr w j.blk (.map (esC.eraseIdxIfInBounds i') clkC), ?_, hm.put hb hj ⟨ho, rfl, ?_⟩, Ext.wr hm hb hj⟩
              · simp only []
                rw [Sem.run_bind, run_setObj hcc (by simp), Result.andThen_ok]
                rfl
              · have : (esC.eraseIdxIfInBounds i').toList = esC.toList.eraseIdx i' := by
                  unfold Array.eraseIdxIfInBounds
                  split
                  · simp
                  · rw [List.eraseIdx_of_length_le (by simp; omega)]
                rw [this]
                exact hes.erase i'
        | _ => simp [ORel] at hor
  case h_3 => cases h

theorem zeroCells_rep (zero : Array Value) (n : Nat) (h0 : zero.size ≠ 0) : Builtin.zeroCells zero n = (rep n zero.toList).toArray := range_rep zero n zero.size rfl h0

theorem rep_all {α : Type} {p : α → Bool} {l : List α} (h : ∀ v ∈ l, p v = true) : ∀ n, ∀ v ∈ rep n l, p v = true
  | 0, v, hv => by simp [rep] at hv
  | n + 1, v, hv => by
    rw [rep, List.mem_append] at hv
    exact hv.elim (h v) (rep_all h n v)

theorem clearA_run {ι : Inj} {m m' : AMem} {w : World} (hm : MRel ι m w) {t ty : TypeId} {argTypes : Array TypeId} {args : Array Value} {x x' : Value} (hx : VRel ι x x')
    (ht : argTypes[0]? = some t) (ha0 : args[0]? = some x') (h : clearA P m t x = some m') :
    ∃ w', (Builtin.clear_ argTypes ty args).run P w = .ok undef w' ∧ MRel ι m' w' ∧ Ext ι m m' w w' ι := by
  unfold clearA at h
  split at h
  case h_1 kt et hu =>
    cases hx
    cases h
    refine ⟨w, ?_, hm, Ext.refl _ _ _⟩
    unfold Builtin.clear_
    simp only [ht, ha0]
    rw [Sem.run_bind, run_underlying hu, Result.andThen_ok]
    rfl
  case h_2 kt et b hu =>
    split at h
    case h_2 => cases h
    case h_1 es clock hb =>
      cases h
      cases hx with
      | map hj ho =>
        rename_i j
        obtain ⟨cc, hcc, hor⟩ := hm.obj _ _ _ hb hj
        cases cc with
        | map esC clkC =>
          obtain ⟨_, rfl, hes⟩ := hor
          refine ⟨wr w j.blk (.map #[] clkC), ?_, hm.put hb hj ⟨ho, rfl, trivial⟩, Ext.wr hm hb hj⟩
          unfold Builtin.clear_
          simp only [ht, ha0]
          rw [Sem.run_bind, run_underlying hu, Result.andThen_ok]
          try simp only []
          rw [Sem.run_bind, run_getObj hcc (by simp), Result.andThen_ok]
          try simp only []
          rw [Sem.run_bind, run_setObj hcc (by simp), Result.andThen_ok]
          rfl
        | _ => simp [ORel] at hor
  case h_3 e n c hu =>
    cases hx
    cases h
    refine ⟨w, ?_, hm, Ext.refl _ _ _⟩
    unfold Builtin.clear_
    simp only [ht, ha0]
    rw [Sem.run_bind, run_underlying hu, Result.andThen_ok]
    rfl
  case h_4 e a c hu =>
    cases h
    have : ∃ a' c', x' = .slice (some a') 0 c' := by cases hx <;> exact ⟨_, _, rfl⟩
    obtain ⟨a', c', rfl⟩ := this
    refine ⟨w, ?_, hm, Ext.refl _ _ _⟩
    unfold Builtin.clear_
    simp only [ht, ha0]
    rw [Sem.run_bind, run_underlying hu, Result.andThen_ok]
    rfl
  case h_5 elem b o sp n c hn0 hu =>
    split at h
    case h_2 => cases h
    case h_1 cs e hb =>
      simp only [Option.bind_eq_bind, Option.bind_eq_some_iff] at h
      obtain ⟨z, hz, h⟩ := h
      obtain ⟨hc, h⟩ := cond_some h
      obtain ⟨r, hr, h⟩ := Option.bind_eq_some_iff.1 h
      cases h
      simp only [Bool.and_eq_true, Bool.not_eq_true', List.all_eq_true] at hc
      have hz0 := beq_ne hc.1
      obtain ⟨hg, hzr⟩ := zeroT_some hz
      have key : ∀ {o' c' : Nat} {j : J}, ι b = some j → (o' = o + j.off) → x' = .slice (some ⟨j.blk, o', none⟩) n c' → ∃ w', (Builtin.clear_ argTypes ty args).run P w = .ok undef w' ∧ MRel ι (m.put b (.cells r e)) w' ∧ Ext ι m (m.put b (.cells r e)) w w' ι := by
        intro o' c' j hj ho hxe
        subst hxe
        subst ho
        obtain ⟨w', h1, h2, h3⟩ := put_cells (P := P) hm hb hj (lrel_rep (cells_rel (ground_rel ι hg)) n) (rep_all hc.2 n) hr
        refine ⟨w', ?_, h2, h3⟩
        unfold Builtin.clear_
        simp only [ht, ha0]
        rw [Sem.run_bind, run_underlying hu, Result.andThen_ok]
        cases n with
        | zero => exact (hn0 rfl).elim
        | succ n =>
          simp only []
          rw [Sem.run_bind, hzr, Result.andThen_ok, zeroCells_rep _ _ hz0, Sem.run_bind, h1]
          rfl
      cases hx with
      | slice _ _ hj => exact key hj rfl rfl
      | loose hj ho hcc hrr =>
        rcases ho with ho | ⟨h1, _⟩
        · exact key hj ho rfl
        · subst h1; exact (hn0 rfl).elim
  case h_6 => cases h
end Go.Ev
