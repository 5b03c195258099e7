import Derived.Test.YtdgkilbimampkaaGreatEvJ
namespace Go.Ev
open Go
variable {P : Program}

theorem wr_self {w : World} {g : Nat} {o : Obj} (h : w.heap[g]? = some o) : wr w g o = w := by
  unfold wr
  have : w.heap.setIfInBounds g o = w.heap := by
    apply Array.ext_getElem?
    intro i
    by_cases e : g = i
    · subst e
      have hl := (Array.getElem?_eq_some_iff.1 h).1
      rw [Array.getElem?_setIfInBounds_self_of_lt hl, h]
    · rw [Array.getElem?_setIfInBounds_ne e]
  rw [this]

theorem wr_wr (w : World) (g : Nat) (a b : Obj) : wr (wr w g a) g b = wr w g b := by
  unfold wr
  simp only
  congr 1
  apply Array.ext_getElem?
  intro i
  by_cases e : g = i
  · subst e
    by_cases hl : g < w.heap.size
    · rw [Array.getElem?_setIfInBounds_self_of_lt (by simpa using hl), Array.getElem?_setIfInBounds_self_of_lt hl]
    · rw [Array.getElem?_eq_none (by simp; omega), Array.getElem?_eq_none (by simp; omega)]
  · rw [Array.getElem?_setIfInBounds_ne e, Array.getElem?_setIfInBounds_ne e, Array.getElem?_setIfInBounds_ne e]

theorem setCell_wr {w : World} {g o : Nat} {c : Array Value} {t : TypeId} {fz : Nat × Nat} (h : w.heap[g]? = some (.cells c t fz)) (v : Value) : w.setCell ⟨g, o, none⟩ v = wr w g (.cells (c.setIfInBounds o v) t fz) := by
  unfold World.setCell wr
  congr 1
  apply Array.ext_getElem?
  intro i
  have hl := (Array.getElem?_eq_some_iff.1 h).1
  rw [Array.getElem?_modify]
  by_cases e : g = i
  · subst e
    rw [if_pos rfl, Array.getElem?_setIfInBounds_self_of_lt hl, h]
    rfl
  · rw [if_neg e, Array.getElem?_setIfInBounds_ne e]

theorem wr_heap_self {w : World} {g : Nat} {o : Obj} (h : g < w.heap.size) : (wr w g o).heap[g]? = some o := by
  rw [wr_heap _ _ _ _ h, if_pos rfl]

/-- storing cells into a known block -/
theorem run_storeCells_blk {g : Nat} {t : TypeId} {fz : Nat × Nat} : ∀ (vs : List Value) (o i : Nat) (cur : Array Value) (w : World), w.heap[g]? = some (.cells cur t fz) → (fz.2 ≤ fz.1 ∨ cur.size ≤ fz.1) →
    (vs ≠ [] → o + i + vs.length ≤ cur.size) → (∀ v ∈ vs, v.oneCell' = true) →
    ∃ cur' : Array Value, (storeCells ⟨g, o, none⟩ vs i).run P w = .ok () (wr w g (.cells cur' t fz)) ∧ cur'.size = cur.size ∧ ∀ k : Nat, cur'[k]? = if o + i ≤ k ∧ k < o + i + vs.length then vs[k - (o + i)]? else cur[k]?
  | [], o, i, cur, w, h, _, _, _ => ⟨cur, by rw [wr_self h]; rfl, rfl, fun k => by rw [if_neg (by simp)]⟩
  | v :: vs, o, i, cur, w, h, hf, hs, h1 => by
    have hlen := hs (by simp)
    simp only [List.length_cons] at hlen
    have hlt : o + i < cur.size := by omega
    have hg := (Array.getElem?_eq_some_iff.1 h).1
    have hcell : w.cell? ⟨g, o + i, none⟩ = some cur[o + i] := by rw [cell?_of h]; exact Array.getElem?_eq_getElem hlt
    have hfz : w.frozen? ⟨g, o + i, none⟩ = false := by
      simp only [World.frozen?, h]
      rcases hf with hf | hf
      · simp; omega
      · simp; intro hh; omega
    have hst : (store ((⟨g, o, none⟩ : Addr).add i) v).run P w = .ok () (wr w g (.cells (cur.setIfInBounds (o + i) v) t fz)) := by
      rw [add_eq, run_store P w _ v _ (h1 v (by simp)), hcell]
      simp only [hfz, Bool.false_eq_true, if_false]
      rw [setCell_wr h]
    obtain ⟨cur', h2, h3, h4⟩ := run_storeCells_blk vs o (i + 1) (cur.setIfInBounds (o + i) v) (wr w g (.cells (cur.setIfInBounds (o + i) v) t fz)) (wr_heap_self hg) (by simpa using hf) (fun _ => by simp; omega) (fun x hx => h1 x (by simp [hx]))
    refine ⟨cur', ?_, by simpa using h3, fun k => ?_⟩
    · simp only [storeCells]
      rw [Sem.run_bind, hst, Result.andThen_ok, h2, wr_wr]
    · rw [h4 k]
      simp only [List.length_cons]
      by_cases e : o + i = k
      · subst e
        rw [if_neg (by omega), if_pos (by omega), Array.getElem?_setIfInBounds_self_of_lt hlt]
        simp
      · by_cases hk : o + (i + 1) ≤ k ∧ k < o + (i + 1) + vs.length
        · rw [if_pos hk, if_pos (by omega)]
          rw [show k - (o + i) = (k - (o + (i + 1))) + 1 by omega]
          simp
        · rw [if_neg hk, if_neg (by omega), Array.getElem?_setIfInBounds_ne e]

theorem oneCell_rel {ι : Inj} {v v' : Value} (h : VRel ι v v') : v'.oneCell' = v.oneCell' := by
  cases h <;> first | rfl | assumption

theorem lrel_oneCell {ι : Inj} {l l' : List Value} (h : LRel ι l l') (k : ∀ v ∈ l, v.oneCell' = true) : ∀ v ∈ l', v.oneCell' = true := by
  induction l generalizing l' with
  | nil => cases h; simp
  | cons a l ih =>
    cases h with
    | cons h t =>
      intro v hv
      rcases List.mem_cons.1 hv with rfl | hv
      · rw [oneCell_rel h]; exact k a (by simp)
      · exact ih t (fun x hx => k x (by simp [hx])) v hv

/-- the block behind a store -/
theorem over_rel {ι : Inj} {c r : List Value} {cC cur' : Array Value} {o d : Nat} {vs vs' : List Value} (hc : ∀ (i : Nat) (v : Value), c[i]? = some v → ∃ v', cC[i + d]? = some v' ∧ VRel ι v v') (hv : LRel ι vs vs') (ho : over c o vs = some r)
    (hn : ∀ k : Nat, cur'[k]? = if o + d ≤ k ∧ k < o + d + vs'.length then vs'[k - (o + d)]? else cC[k]?) : ∀ (i : Nat) (v : Value), r[i]? = some v → ∃ v', cur'[i + d]? = some v' ∧ VRel ι v v' := by
  obtain ⟨_, _, _, h4⟩ := over_spec _ _ _ _ ho
  intro i v hi
  rw [h4] at hi
  rw [hn]
  have hl := hv.length
  by_cases hk : o ≤ i ∧ i < o + vs.length
  · rw [if_pos hk] at hi
    rw [if_pos (by omega), show i + d - (o + d) = i - o by omega]
    exact hv.get hi
  · rw [if_neg hk] at hi
    rw [if_neg (by omega)]
    exact hc i v hi

/-- 'vs' stored over a live block from a place on: what memory is then -/
theorem put_cells {ι : Inj} {m : AMem} {w : World} (hm : MRel ι m w) {b o : Nat} {c r vs vs' : List Value} {e : TypeId} {j : J} (hb : m.get b = some (.cells c e)) (hj : ι b = some j) (hv : LRel ι vs vs') (h1 : ∀ v ∈ vs, v.oneCell' = true) (ho : over c o vs = some r) :
    ∃ w', (storeCells ⟨j.blk, o + j.off, none⟩ vs').run P w = .ok () w' ∧ MRel ι (m.put b (.cells r e)) w' ∧ Ext ι m (m.put b (.cells r e)) w w' ι := by
  obtain ⟨cc, hcc, hor⟩ := hm.obj _ _ _ hb hj
  cases cc with
  | cells cC eC fz =>
    obtain ⟨s1, s2, s3⟩ := hor
    obtain ⟨o1, o2, o3, o4⟩ := over_spec _ _ _ _ ho
    have hroom : vs' ≠ [] → o + j.off + 0 + vs'.length ≤ cC.size := by
      intro hne
      have hne' : vs ≠ [] := by intro e; subst e; cases hv; exact hne rfl
      have h2 := o3 hne'
      have hl := hv.length
      have hpos : 0 < vs.length := List.length_pos_iff.2 hne'
      have hlast : c[o + vs.length - 1]? = some (c[o + vs.length - 1]'(by omega)) := List.getElem?_eq_getElem _
      obtain ⟨v', hv', _⟩ := s2 _ _ hlast
      have := (Array.getElem?_eq_some_iff.1 hv').1
      omega
    obtain ⟨cur', r1, r2, r3⟩ := run_storeCells_blk (P := P) vs' (o + j.off) 0 cC w hcc (by rw [s1]; exact s3) hroom (lrel_oneCell hv h1)
    refine ⟨_, r1, hm.put hb hj ⟨by rw [r2, s1], ?_, s3⟩, Ext.wr hm hb hj⟩
    exact over_rel s2 hv ho (fun k => by rw [r3 k]; rfl)
  | _ => simp [ORel] at hor

theorem storeA_run {ι : Inj} {m m' : AMem} {w : World} (hm : MRel ι m w) {t : TypeId} {p p' x x' : Value} (hp : VRel ι p p') (hx : VRel ι x x') (h : storeA P m t p x = some m') :
    ∃ w', (Instr.storeAt t p' x').run P w = .ok () w' ∧ MRel ι m' w' ∧ Ext ι m m' w w' ι := by
  unfold storeA at h
  split at h
  case h_2 => cases h
  case h_1 _ b o =>
    split at h
    case h_2 => cases h
    case h_1 _ c e hb =>
      simp only [Option.bind_eq_bind, Option.bind_eq_some_iff] at h
      obtain ⟨n, hn, h⟩ := h
      obtain ⟨hc, h⟩ := cond_some h
      obtain ⟨r, hr, h⟩ := Option.bind_eq_some_iff.1 h
      cases h
      simp only [Bool.and_eq_true, List.all_eq_true] at hc
      have hs := beq_of hc.1
      cases hp with
      | ptr hj =>
        rename_i j
        obtain ⟨w', h1, h2, h3⟩ := put_cells (P := P) hm hb hj (cells_rel hx) hc.2 hr
        refine ⟨w', ?_, h2, h3⟩
        unfold Instr.storeAt
        simp only [Instr.sureAddr, pure_bind]
        unfold storeVar
        rw [Sem.run_bind, run_sizeOfT hn, Result.andThen_ok]
        rw [if_neg (by rw [cells_size hx]; simpa using hs)]
        simpa using h1
end Go.Ev
