import Derived.Test.YtdgkilbimampkaaGreatEvY5
namespace Go.Ev
open Go
variable {P : Program}

structure Memo (ops : List Oper) (d : Dr) (L : Nat → Bool) (p : Nat) (ι : Inj) (w : World) : Prop where
  ple : p ≤ d.wr.length
  wrL : ∀ (q i : Nat), d.wr[q]? = some i → (L i = true ↔ q < p)
  base : ∀ m, d.bases[p]? = some m → MRel (rst ops d p ι) m w
  flt : ∀ (j b : Nat) (x : AObj), MadeAt d j b x → Unc ops d p b → L j = true → ∃ J c, ι b = some J ∧ w.heap[J.blk]? = some c ∧ ORel ι x J c ∧ ∀ b' J', ι b' = some J' → J'.blk = J.blk → b' = b
  no : ∀ (j b : Nat) (x : AObj), MadeAt d j b x → L j = false → ι b = none
  free : ∀ (q i b : Nat), d.wr[q]? = some i → L i = false → Nx d i ≤ b → b < Nx d (i + 1) → ι b = none
  bound : ∀ b j, ι b = some j → j.blk < w.heap.size

theorem Ext.more {ι0 ι ι' : Inj} {m0 M : AMem} {w0 w w' : World} (h : Ext ι0 m0 M w0 w ι) (sub : ∀ b j, ι b = some j → ι' b = some j) (chg : ∀ b, b < m0.next ∨ M.next ≤ b → ι' b = ι b)
    (new : ∀ b j, ι' b = some j → ι b = some j ∨ w.heap.size ≤ j.blk ∨ ∃ b0 j0, b0 < M.next ∧ ι b0 = some j0 ∧ j0.blk = j.blk) (size : w.heap.size ≤ w'.heap.size)
    (keep : ∀ c, c < w.heap.size → (∀ b j, b < M.next → ι b = some j → j.blk ≠ c) → w'.heap[c]? = w.heap[c]?) (os : w'.os = w.os) (tape : w'.tape = w.tape) (output : w'.output = w.output) : Ext ι0 m0 M w0 w' ι' where
  next := h.next
  sub b j hb := sub _ _ (h.sub _ _ hb)
  out b hb := by rw [chg b hb, h.out b hb]
  new b j h1 h2 hb := by
    rcases new b j hb with hk | hk | ⟨b0, j0, hb0, hj0, he⟩
    · exact h.new b j h1 h2 hk
    · exact .inl (Nat.le_trans h.size hk)
    · by_cases hl : b0 < m0.next
      · rw [h.out b0 (.inl hl)] at hj0
        exact .inr ⟨b0, j0, hl, hj0, he⟩
      · rcases h.new b0 j0 (by omega) hb0 hj0 with hk | ⟨b1, j1, hb1, hj1, he1⟩
        · exact .inl (he ▸ hk)
        · exact .inr ⟨b1, j1, hb1, hj1, he1.trans he⟩
  size := Nat.le_trans h.size size
  keep c hc hn := by
    rw [keep c (Nat.lt_of_lt_of_le hc h.size), h.keep c hc hn]
    intro b j hb hj
    by_cases hl : b < m0.next
    · rw [h.out b (.inl hl)] at hj
      exact hn b j hl hj
    · rcases h.new b j (by omega) hb hj with hk | ⟨b0, j0, hb0, hj0, he⟩
      · omega
      · rw [← he]; exact hn b0 j0 hb0 hj0
  os := os.trans h.os
  tape := tape.trans h.tape
  output := output.trans h.output

theorem MRel.push {ι : Inj} {m : AMem} {w w1 : World} {c : Obj} (h : MRel ι m w) (hw : w1.heap = w.heap.push c) : MRel ι m w1 where
  obj b o j hb hj := by
    obtain ⟨c', h1, h2⟩ := h.obj b o j hb hj
    refine ⟨c', ?_, h2⟩
    have := h.bound b j hj
    rw [hw, Array.getElem?_push, if_neg (by omega)]; exact h1
  inj := h.inj
  bound b j hj := by rw [hw, Array.size_push]; exact Nat.lt_succ_of_lt (h.bound b j hj)
  fresh := h.fresh

section
variable {R : Rec} {nt : Nat} {ops : List Oper} {T0 : Tr Value} {m0 : AMem} {n : Nat} {d : Dr} {L : Nat → Bool} {p : Nat} {ι : Inj} {w : World}

theorem Memo.quiet (h : Memo ops d L p ι w) {i : Nat} (hw : ∀ (q : Nat), d.wr[q]? ≠ some i) (hm : ∀ b x, ¬ MadeAt d i b x) : Memo ops d (ins L i) p ι w where
  ple := h.ple
  wrL q k hk := by
    have hki : k ≠ i := by rintro rfl; exact hw _ hk
    rw [ins_ne hki]; exact h.wrL q k hk
  base := h.base
  flt j b x hj hu hL := by
    have hki : j ≠ i := by rintro rfl; exact hm _ _ hj
    rw [ins_ne hki] at hL; exact h.flt j b x hj hu hL
  no j b x hj hL := by
    have hki : j ≠ i := by rintro rfl; exact hm _ _ hj
    rw [ins_ne hki] at hL; exact h.no j b x hj hL
  free q k b hk hL := by
    have hki : k ≠ i := by rintro rfl; exact hw _ hk
    rw [ins_ne hki] at hL; exact h.free q k b hk hL
  bound := h.bound

/-- what may be read -/
theorem Memo.mobj (h : Memo ops d L p ι w) {m : AMem} (hb : d.bases[p]? = some m) (nx : Nat) : MObj ι (withFloats m (floatsAt (before ops) d.wr p d.log 0) nx) w := by
  intro b o j hget hj
  have sub : ∀ b j, rst ops d p ι b = some j → ι b = some j := fun b j h => (rst_some h).2
  rcases floats_get m (floatsAt (before ops) d.wr p d.log 0) nx b with ⟨x, i, h1, h2⟩ | ⟨h1, h2⟩
  · rw [h2] at hget; cases hget
    obtain ⟨i', e, v, h3, h4, h5, h6⟩ := (floatsAt_mem _ _ _ _ _).1 h1
    have e' : i = i' := by omega
    subst e'
    have hm : MadeAt d i b o := ⟨e, v, h3, h4⟩
    cases hL : L i with
    | false => rw [h.no i b o hm hL] at hj; cases hj
    | true =>
      obtain ⟨J, c, h7, h8, h9, _⟩ := h.flt i b o hm ⟨i, o, hm, h6⟩ hL
      rw [h7] at hj; cases hj
      exact ⟨c, h8, h9⟩
  · rw [h2] at hget
    have hu : ¬ Unc ops d p b := by
      rintro ⟨i, x, hm, h6⟩
      obtain ⟨e, v, h3, h4⟩ := hm
      exact h1 x i ((floatsAt_mem _ _ _ _ _).2 ⟨i, e, v, h3, h4, by omega, h6⟩)
    obtain ⟨c, h3, h4⟩ := (h.base m hb).obj b o j hget (by rw [rst_not hu]; exact hj)
    exact ⟨c, h3, h4.mono sub⟩

theorem mayCome_of (hO : OrderOk ops (before ops)) (hc : Closed ops L) (h : Memo ops d L p ι w) {i : Nat} (hr : Ready ops L i) : mayCome (before ops) d.wr p i = true := by
  have hiL : L i = false := by obtain ⟨_, _, h, _⟩ := hr; exact h
  unfold mayCome
  rw [Bool.and_eq_true, List.all_eq_true, List.all_eq_true]
  constructor
  · intro k hk
    obtain ⟨q, hq⟩ := List.getElem?_of_mem hk
    rw [List.getElem?_take] at hq
    split at hq
    · have := (h.wrL q k hq).2 (by assumption)
      cases hh : has (before ops) k i with
      | false => rfl
      | true => have := closed_has hO hc this hh; rw [hiL] at this; cases this
    · cases hq
  · intro k hk
    obtain ⟨q, hq⟩ := List.getElem?_of_mem hk
    rw [List.getElem?_drop] at hq
    cases hh : has (before ops) i k with
    | false => rfl
    | true =>
      have h1 := ready_has hO hc hr hh
      have := (h.wrL _ k hq).1 h1
      omega

theorem readsOk_spec (h : readsOk P ops (before ops) d = true) {i : Nat} {e : Lg} {o : Oper} {v : Value} (he : d.log[i]? = some e) (hk : e.k = .read v) (ho : ops[i]? = some o) {p : Nat} (hp : p ≤ d.wr.length) (hm : mayCome (before ops) d.wr p i = true) :
    ∃ m, d.bases[p]? = some m ∧ readA P (withFloats m (floatsAt (before ops) d.wr p d.log 0) 0) (opnd e.T) o = some v := by
  unfold readsOk at h
  rw [List.all_eq_true] at h
  have h1 := h (e, i) (List.mem_zipIdx_iff_getElem?.2 he)
  simp only [hk, nth_eq, ho, List.all_eq_true, List.mem_range] at h1
  have h2 := h1 p (by omega)
  rw [hm] at h2
  simp only [Bool.not_true, Bool.false_or] at h2
  split at h2
  case h_2 => cases h2
  case h_1 u hu =>
    have := veq_eq _ h2
    subst this
    obtain ⟨m, h3, h4⟩ := Option.bind_eq_some_iff.1 hu
    exact ⟨m, h3, h4⟩

/-- a new block -/
theorem Memo.make (hO : OrderOk ops (before ops)) (t : Trac P R nt ops (before ops) T0 m0 n d) (hn : n = ops.length) (hc : Closed ops L) (h : Memo ops d L p ι w) {i b : Nat} {x : AObj} (hm : MadeAt d i b x) (hiL : L i = false) {j : J} {c : Obj} {w1 : World}
    (hw : w1.heap = w.heap.push c) (hj : j.blk = w.heap.size) (ho : ORel (upd ι b j) x j c) : Memo ops d (ins L i) p (upd ι b j) w1 := by
  have hb := h.no i b x hm hiL
  obtain ⟨hin, hbx, hbn⟩ := t.made hn hm
  have hu : Unc ops d p b := ⟨i, x, hm, fun q k hq hk => by
    have := (h.wrL q k hk).2 hq
    cases hh : has (before ops) k i with
    | false => rfl
    | true => have := closed_has hO hc this hh; rw [hiL] at this; cases this⟩
  have hr : rst ops d p (upd ι b j) = rst ops d p ι := by
    funext k
    by_cases hk : Unc ops d p k
    · rw [rst_unc hk, rst_unc hk]
    · rw [rst_not hk, rst_not hk]
      unfold upd
      rw [if_neg]
      intro e; subst e; exact hk hu
  have notWr : ∀ (q : Nat), d.wr[q]? ≠ some i := by
    intro q hq
    obtain ⟨e, v, h1, h2⟩ := (t.wrSpec q i).1 hq
    obtain ⟨e', v', h3, h4⟩ := hm
    rw [h1] at h3; cases h3
    rw [h2] at h4; cases h4
  refine ⟨h.ple, fun q k hk => by
      have hki : k ≠ i := by rintro rfl; exact notWr _ hk
      rw [ins_ne hki]; exact h.wrL q k hk, fun m hm' => ?_, fun k bk xk hk huk hL => ?_, fun k bk xk hk hL => ?_, fun q k bk hk hL h1 h2 => ?_, fun bk jk hk => ?_⟩
  · rw [hr]; exact (h.base m hm').push hw
  · by_cases hki : k = i
    · subst hki
      obtain ⟨e1, e2, _⟩ := t.made hn hk
      have e3 : bk = b := by omega
      subst e3
      obtain ⟨_, e4⟩ := t.made_inj hn hk hm
      subst e4
      refine ⟨j, c, upd_same _ _ _, by rw [hw, hj]; simp, ho, fun b' J' hb' he => ?_⟩
      unfold upd at hb'
      by_cases e5 : b' = bk
      · exact e5
      · rw [if_neg e5] at hb'
        have := h.bound _ _ hb'
        omega
    · rw [ins_ne hki] at hL
      obtain ⟨J, ck, h1, h2, h3, h4⟩ := h.flt k bk xk hk huk hL
      have hlt := h.bound _ _ h1
      refine ⟨J, ck, upd_sub hb _ _ h1, by rw [hw, Array.getElem?_push, if_neg (by omega)]; exact h2, h3.mono (upd_sub hb), fun b' J' hb' he => ?_⟩
      unfold upd at hb'
      by_cases e5 : b' = b
      · rw [if_pos e5] at hb'; cases hb'; omega
      · rw [if_neg e5] at hb'; exact h4 b' J' hb' he
  · have hki : k ≠ i := by intro e; subst e; rw [ins_same] at hL; cases hL
    rw [ins_ne hki] at hL
    unfold upd
    rw [if_neg]
    · exact h.no k bk xk hk hL
    · intro e; subst e; exact hki (t.made_inj hn hk hm).1
  · have hki : k ≠ i := by rintro rfl; exact notWr _ hk
    rw [ins_ne hki] at hL
    unfold upd
    rw [if_neg]
    · exact h.free q k bk hk hL h1 h2
    · intro e
      have hkn := t.wrLt hk
      rcases Nat.lt_or_gt_of_ne hki with hlt | hlt
      · have := t.nx_mono (i := k + 1) (j := i) hlt (by omega); omega
      · have := t.nx_mono (i := i + 1) (j := k) hlt (by omega); omega
  · rw [hw, Array.size_push]
    unfold upd at hk
    by_cases e : bk = b
    · rw [if_pos e] at hk; cases hk; omega
    · rw [if_neg e] at hk; have := h.bound _ _ hk; omega
end
end Go.Ev
