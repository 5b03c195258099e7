import Derived.Test.YtdgkilbimampkaaGreatEvY6
namespace Go.Ev
open Go
variable {P : Program}
section
variable {R : Rec} {nt : Nat} {ops : List Oper} {T0 : Tr Value} {m0 : AMem} {n : Nat} {d : Dr} {L : Nat → Bool} {p : Nat} {ι : Inj} {w : World}

/-- what a write finds -/
theorem Memo.atWrite (hO : OrderOk ops (before ops)) (t : Trac P R nt ops (before ops) T0 m0 n d) (hn : n = ops.length) (hc : Closed ops L) (h : Memo ops d L p ι w) {i : Nat} (hr : Ready ops L i) (hp : d.wr[p]? = some i) {m : AMem} (hm : d.bases[p]? = some m) {fl : List (Nat × AObj × Nat)}
    (hfl : ∀ b x j, (b, x, j) ∈ fl ↔ (j < i ∧ MadeAt d j b x) ∧ (∀ (q w : Nat), q < p → d.wr[q]? = some w → has (before ops) w j = false) ∧ has (before ops) i j = true)
    {f : Nat → Bool} (hf : ∀ b, f b = true → ∀ j, ι b = some j → rst ops d (p + 1) ι b = some j) (hfo : ∀ b x j, (b, x, j) ∈ fl → idsO f x = true) : MRel (rst ops d (p + 1) ι) (withFloats m fl (Nx d i)) w := by
  have hin := t.wrLt hp
  have mono : ∀ b j, rst ops d p ι b = some j → rst ops d (p + 1) ι b = some j := fun b j hb => by
    obtain ⟨h1, h2⟩ := rst_some hb
    rw [rst_not (fun hu => h1 (hu.le (Nat.le_succ p)))]; exact h2
  have hmN : m.next ≤ Nx d i := t.base_next hn hm (by omega) (fun q k hq hk => t.wrAsc q p k i hq hk hp)
  have flL : ∀ b x j, (b, x, j) ∈ fl → L j = true := fun b x j hx => ready_has hO hc hr ((hfl b x j).1 hx).2.2
  have flF : ∀ b x j, (b, x, j) ∈ fl → ∃ J c, ι b = some J ∧ w.heap[J.blk]? = some c ∧ ORel ι x J c ∧ ∀ b' J', ι b' = some J' → J'.blk = J.blk → b' = b := fun b x j hx => by
    obtain ⟨⟨h1, h2⟩, h3, h4⟩ := (hfl b x j).1 hx
    exact h.flt j b x h2 ⟨j, x, h2, h3⟩ (flL b x j hx)
  -- mapped, and not a float: in the base
  have old : ∀ b J, rst ops d (p + 1) ι b = some J → (∀ x j, (b, x, j) ∉ fl) → rst ops d p ι b = some J := fun b J hb hno => by
    obtain ⟨h1, h2⟩ := rst_some hb
    rw [rst_not]
    · exact h2
    · rintro ⟨j, x, h3, h4⟩
      cases hh : has (before ops) i j with
      | false =>
        refine h1 ⟨j, x, h3, fun q k hq hk => ?_⟩
        by_cases e : q = p
        · subst e; rw [hp] at hk; cases hk; exact hh
        · exact h4 q k (by omega) hk
      | true => exact hno x j ((hfl b x j).2 ⟨⟨has_lt hO hh, h3⟩, h4, hh⟩)
  refine ⟨fun b o J hg hJ => ?_, fun b b' o o' J J' hg hg' hJ hJ' he => ?_, fun b J hJ => h.bound b J (rst_some hJ).2, fun b hb => ?_⟩
  · rcases floats_get m fl (Nx d i) b with ⟨x, j, h1, h2⟩ | ⟨h1, h2⟩
    · rw [h2] at hg
      have hxo : x = o := Option.some.inj hg
      obtain ⟨J', c, h3, h4, h5, _⟩ := flF b x j h1
      have hJ' := (rst_some hJ).2
      rw [h3] at hJ'; cases hJ'
      exact ⟨c, h4, hxo ▸ h5.less hf (hfo b x j h1)⟩
    · rw [h2] at hg
      obtain ⟨c, h3, h4⟩ := (h.base m hm).obj b o J hg (old b J hJ h1)
      exact ⟨c, h3, h4.mono mono⟩
  · rcases floats_get m fl (Nx d i) b with ⟨x, j, h1, h2⟩ | ⟨h1, h2⟩
    · obtain ⟨K, c, h3, h4, h5, h6⟩ := flF b x j h1
      have hJr := (rst_some hJ).2
      rw [h3] at hJr; cases hJr
      exact (h6 b' J' (rst_some hJ').2 he.symm).symm
    · rcases floats_get m fl (Nx d i) b' with ⟨x, j, h1', h2'⟩ | ⟨h1', h2'⟩
      · obtain ⟨K, c, h3, h4, h5, h6⟩ := flF b' x j h1'
        have hJr := (rst_some hJ').2
        rw [h3] at hJr; cases hJr
        exact h6 b J (rst_some hJ).2 he
      · rw [h2] at hg; rw [h2'] at hg'
        exact (h.base m hm).inj b b' o o' J J' hg hg' (old b J hJ h1) (old b' J' hJ' h1') he
  · have hb : Nx d i ≤ b := hb
    rcases floats_get m fl (Nx d i) b with ⟨x, j, h1, h2⟩ | ⟨h1, h2⟩
    · obtain ⟨⟨h3, h4⟩, _⟩ := (hfl b x j).1 h1
      obtain ⟨_, h5, h6⟩ := t.made hn h4
      have := t.nx_mono (i := j + 1) (j := i) h3 (by omega)
      omega
    · rw [h2]; exact (h.base m hm).fresh b (by omega)

def both (ι1 ι : Inj) : Inj := fun b => match ι1 b with | some j => some j | none => ι b

/-- what a write leaves -/
theorem Memo.wrote (_hO : OrderOk ops (before ops)) (t : Trac P R nt ops (before ops) T0 m0 n d) (hn : n = ops.length) (_hc : Closed ops L) (h : Memo ops d L p ι w) {i : Nat} (hr : Ready ops L i) (hp : d.wr[p]? = some i) {mm m1 : AMem} (hmm : mm.next = Nx d i) (hm1 : d.bases[p + 1]? = some m1) (hN : Nx d (i + 1) = m1.next)
    {w' : World} {ι1 : Inj} (hrel : MRel ι1 m1 w') (he : Ext (rst ops d (p + 1) ι) mm m1 w w' ι1) :
    (∀ b j, ι b = some j → both ι1 ι b = some j) ∧ Memo ops d (ins L i) (p + 1) (both ι1 ι) w' ∧ (∀ b j, ι1 b = some j → both ι1 ι b = some j) ∧
      ∀ {ι0 : Inj} {m0 M : AMem} {w0 : World}, m0.next ≤ Nx d i → m1.next ≤ M.next → Ext ι0 m0 M w0 w ι → Ext ι0 m0 M w0 w' (both ι1 ι) := by
  have hin := t.wrLt hp
  have hiL : L i = false := by obtain ⟨_, _, h, _⟩ := hr; exact h
  have notMade : ∀ b x, ¬ MadeAt d i b x := by
    rintro b x ⟨e, v, h1, h2⟩
    obtain ⟨e', v', h3, h4⟩ := (t.wrSpec p i).1 hp
    rw [h1] at h3; cases h3
    rw [h2] at h4; cases h4
  -- outside the new numbers
  have out : ∀ b, b < Nx d i ∨ Nx d (i + 1) ≤ b → ι1 b = rst ops d (p + 1) ι b := fun b hb => he.out b (by rw [hmm, ← hN]; exact hb)
  have inN : ∀ b, Nx d i ≤ b → b < Nx d (i + 1) → ι b = none := fun b h1 h2 => h.free p i b hp hiL h1 h2
  have madeOut : ∀ j b x, MadeAt d j b x → b < Nx d i ∨ Nx d (i + 1) ≤ b := fun j b x hj => by
    obtain ⟨h1, h2, h3⟩ := t.made hn hj
    rcases Nat.lt_trichotomy j i with hl | hl | hl
    · have := t.nx_mono (i := j + 1) (j := i) hl (by omega); exact .inl (by omega)
    · subst hl; exact absurd hj (notMade b x)
    · have := t.nx_mono (i := i + 1) (j := j) hl (by omega); exact .inr (by omega)
  have uncNone : ∀ b, Unc ops d (p + 1) b → ι1 b = none := by
    rintro b ⟨j, x, h1, h2⟩
    rw [out b (madeOut j b x h1)]
    exact rst_unc ⟨j, x, h1, h2⟩
  have sub1 : ∀ b j, ι1 b = some j → both ι1 ι b = some j := fun b j hb => by unfold both; rw [hb]
  -- what is mapped now: by the write, or from before
  have some1 : ∀ b, ι b = none → both ι1 ι b = ι1 b := fun b hb => by unfold both; cases h1 : ι1 b <;> simp [hb]
  have sub : ∀ b j, ι b = some j → both ι1 ι b = some j := fun b j hb => by
    by_cases hu : Unc ops d (p + 1) b
    · unfold both; rw [uncNone b hu]; exact hb
    · exact sub1 b j (he.sub b j (by rw [rst_not hu]; exact hb))
  have rst1 : rst ops d (p + 1) (both ι1 ι) = ι1 := by
    funext b
    by_cases hu : Unc ops d (p + 1) b
    · rw [rst_unc hu, uncNone b hu]
    · rw [rst_not hu]
      cases hb : ι b with
      | none => exact some1 b hb
      | some j => rw [sub b j hb, he.sub b j (by rw [rst_not hu]; exact hb)]
  -- a block that was there before, or as new
  have new : ∀ b j, both ι1 ι b = some j → ι b = some j ∨ w.heap.size ≤ j.blk ∨ ∃ b0 j0, b0 < Nx d i ∧ rst ops d (p + 1) ι b0 = some j0 ∧ j0.blk = j.blk := fun b j hb => by
    cases hbι : ι b with
    | some j' => rw [sub b j' hbι] at hb; exact .inl hb
    | none =>
      rw [some1 b hbι] at hb
      by_cases hb' : b < Nx d i ∨ Nx d (i + 1) ≤ b
      · rw [out b hb'] at hb
        have := (rst_some hb).2
        rw [hbι] at this; cases this
      · rcases he.new b j (by omega) (by omega) hb with hk | ⟨b0, j0, h1, h2, h3⟩
        · exact .inr (.inl hk)
        · exact .inr (.inr ⟨b0, j0, by omega, h2, h3⟩)
  have same : ∀ b, b < Nx d i ∨ Nx d (i + 1) ≤ b → both ι1 ι b = ι b := fun b hb => by
    cases hbι : ι b with
    | some j => exact sub b j hbι
    | none =>
      rw [some1 b hbι, out b hb]
      cases hx : rst ops d (p + 1) ι b with
      | none => rfl
      | some j => have := (rst_some hx).2; rw [hbι] at this; cases this
  refine ⟨sub, ?_, sub1, fun {ι0 m0' M w0} h0 h1 hE => ?_⟩
  · refine ⟨?_, fun q k hk => ?_, fun m hm => ?_, fun j b x hj hu hL => ?_, fun j b x hj hL => ?_, fun q k b hk hL h1 h2 => ?_, fun b j hb => ?_⟩
    · have := (List.getElem?_eq_some_iff.1 hp).1; omega
    · by_cases hki : k = i
      · subst hki
        have e : q = p := by
          rcases Nat.lt_trichotomy q p with hl | hl | hl
          · have := t.wrAsc q p k k hl hk hp; omega
          · exact hl
          · have := t.wrAsc p q k k hl hp hk; omega
        subst e
        simp [ins_same]
      · rw [ins_ne hki, h.wrL q k hk]
        constructor
        · intro h'; omega
        · intro h'
          by_cases e : q = p
          · subst e; rw [hp] at hk; cases hk; exact absurd rfl hki
          · omega
    · rw [hm1] at hm; cases hm
      rw [rst1]; exact hrel
    · have hji : j ≠ i := by rintro rfl; exact notMade b x hj
      rw [ins_ne hji] at hL
      obtain ⟨J, c, h1, h2, h3, h4⟩ := h.flt j b x hj (hu.le (Nat.le_succ p)) hL
      have hlt := h.bound _ _ h1
      refine ⟨J, c, sub b J h1, ?_, h3.mono sub, fun b' J' hb' he' => ?_⟩
      · rw [he.keep J.blk hlt, h2]
        intro b' J' _ hb' he'
        obtain ⟨hn', hb''⟩ := rst_some hb'
        have := h4 b' J' hb'' he'
        subst this
        exact hn' hu
      · rcases new b' J' hb' with hk | hk | ⟨b0, j0, h5, h6, h7⟩
        · exact h4 b' J' hk he'
        · omega
        · obtain ⟨hn', h6'⟩ := rst_some h6
          have := h4 b0 j0 h6' (by rw [h7, he'])
          subst this
          exact absurd hu hn'
    · have hji : j ≠ i := by rintro rfl; exact notMade b x hj
      rw [ins_ne hji] at hL
      rw [same b (madeOut j b x hj)]
      exact h.no j b x hj hL
    · have hki : k ≠ i := by rintro rfl; rw [ins_same] at hL; cases hL
      rw [ins_ne hki] at hL
      have hkn := t.wrLt hk
      rw [same b]
      · exact h.free q k b hk hL h1 h2
      · rcases Nat.lt_or_gt_of_ne hki with hlt | hlt
        · have := t.nx_mono (i := k + 1) (j := i) hlt (by omega); exact .inl (by omega)
        · have := t.nx_mono (i := i + 1) (j := k) hlt (by omega); exact .inr (by omega)
    · cases h1 : ι1 b with
      | some j' => rw [sub1 b j' h1] at hb; cases hb; exact hrel.bound b _ h1
      | none =>
        have : ι b = some j := by unfold both at hb; rw [h1] at hb; exact hb
        exact Nat.lt_of_lt_of_le (h.bound b j this) he.size
  · have hmono := t.mono i hin
    refine hE.more sub (fun b hb => same b ?_) (fun b j hb => ?_) he.size (fun c hc' hno => he.keep c hc' (fun b j hb hj => hno b j ?_ (rst_some hj).2)) he.os he.tape he.output
    · rcases hb with hb | hb
      · exact .inl (by omega)
      · exact .inr (by omega)
    · rcases new b j hb with hk | hk | ⟨b0, j0, h5, h6, h7⟩
      · exact .inl hk
      · exact .inr (.inl hk)
      · exact .inr (.inr ⟨b0, j0, by omega, (rst_some h6).2, h7⟩)
    · have := he.next; omega
end
end Go.Ev
