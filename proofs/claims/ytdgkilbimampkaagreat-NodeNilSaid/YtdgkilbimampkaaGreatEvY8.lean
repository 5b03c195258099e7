import Derived.Test.YtdgkilbimampkaaGreatEvY7
import Derived.Orders
namespace Go.Ev
open Go
variable {P : Program} [Base]
section
variable {R : Rec} {nt : Nat} {ops : List Oper} {T0 : Tr Value} {m0 : AMem} {d : Dr}

/-- one operation that may come -/
theorem entry_step (hR : CallSound P R) (hC : CodeSound P R) (hP : ToldSound P R) (hO : OrderOk ops (before ops)) (t : Trac P R nt ops (before ops) T0 m0 ops.length d) (hro : readsOk P ops (before ops) d = true) {L : Nat → Bool} {p : Nat} {ι : Inj} {w : World} {fr : Frame} {cs : List Frame}
    (hs : Slots ops nt T0 d L ι fr.tmps) (hm : Memo ops d L p ι w) {i : Nat} {o : Oper} (hr : Ready ops L i) (ho : ops[i]? = some o) (hmode : fr.mode = .run) {rest : List Nat} {k : List Item} (htodo : fr.todo = .inRegion ops.toArray (i :: rest) :: k)
    {ι0 : Inj} {M : AMem} {w0 : World} (hlim : d.next ≤ holeAt) (hM : M.next = d.next) (hE : Ext ι0 m0 M w0 w ι) (hF0 : Free ι0 m0 M w0) :
    ∃ v' w' ι' p', Steps P (lone fr cs w) (lone (fr.finish v') cs w') ∧ VRel ι' (valAt d i) v' ∧ (∀ b j, ι b = some j → ι' b = some j) ∧ Memo ops d (ins L i) p' ι' w' ∧ Ext ι0 m0 M w0 w' ι' := by
  have hin : i < ops.length := (List.getElem?_eq_some_iff.1 ho).1
  have hiL : L i = false := by obtain ⟨_, _, h, _⟩ := hr; exact h
  obtain ⟨e, he, eT, eN, eV, _, hok⟩ := t.step hin ho
  have hoA : ops.toArray[i]? = some o := by simpa using ho
  have hwant : ∀ {b : Bool}, wantA ops e.T o = some b → Region.wanted o (yielded ops.toArray fr.tmps) = b := fun h => hs.wanted hO t rfl hr ho (by rw [eT]; exact h)
  have rel : okAll o → ∀ x ∈ o.op.operands, VRel ι (opnd e.T x) (fr.eval x) := fun h => by
    have := hs.opnd hO t rfl hr ho h
    rw [eT] at this; exact this
  have hat : wantA ops e.T o = some true → At P fr o := fun h => ⟨hmode, ops.toArray, i, rest, k, htodo, hoA, hwant h⟩
  rw [eV]
  unfold EntryOk at hok
  cases hk : e.k with
  | val v =>
    rw [hk] at hok
    have notW : ∀ (q : Nat), d.wr[q]? ≠ some i := by
      intro q hq
      obtain ⟨e', v', h1, h2⟩ := (t.wrSpec q i).1 hq
      rw [he] at h1; cases h1; rw [hk] at h2; cases h2
    have notM : ∀ b x, ¬ MadeAt d i b x := by
      rintro b x ⟨e', v', h1, h2⟩
      rw [he] at h1; cases h1; rw [hk] at h2; cases h2
    rcases hok with ⟨h1, h2⟩ | ⟨h1, h2, h3, h4⟩
    · subst h2
      exact ⟨undef, w, ι, p, .one (step_unwanted hmode htodo hoA (hwant h1)), vrel_undef _, fun _ _ h => h, hm.quiet notW notM, hE⟩
    · obtain ⟨v', r1, r2⟩ := pureX_run hP (fun b j h => hE.sub _ _ (hF0.old b j h)) (rel h2) h3 h4 w
      exact ⟨v', w, ι, p, ((hat h1).applies (cls_nodefer (by rw [h3]; simp)) cs w).value r1, r2, fun _ _ h => h, hm.quiet notW notM, hE⟩
  | read v =>
    rw [hk] at hok
    have notW : ∀ (q : Nat), d.wr[q]? ≠ some i := by
      intro q hq
      obtain ⟨e', v', h1, h2⟩ := (t.wrSpec q i).1 hq
      rw [he] at h1; cases h1; rw [hk] at h2; cases h2
    have notM : ∀ b x, ¬ MadeAt d i b x := by
      rintro b x ⟨e', v', h1, h2⟩
      rw [he] at h1; cases h1; rw [hk] at h2; cases h2
    obtain ⟨h1, h2, h3⟩ := hok
    obtain ⟨m, h4, h5⟩ := readsOk_spec hro he hk ho hm.ple (mayCome_of hO hs.closed hm hr)
    obtain ⟨v', r1, r2⟩ := read_run (hm.mobj h4 0) (rel h2) h5
    exact ⟨v', w, ι, p, ((hat h1).applies (cls_nodefer (by rw [h3]; simp)) cs w).value r1, r2, fun _ _ h => h, hm.quiet notW notM, hE⟩
  | made v b x =>
    rw [hk] at hok
    obtain ⟨h1, h2, h3, h4, h5, f, h6, h7⟩ := hok
    have hmade : MadeAt d i b x := ⟨e, v, he, hk⟩
    obtain ⟨c, v', w1, j, r1, r2, r3, r4, r5, r6, r7⟩ := alloc_run (rel h2) h6 w
    have hb := hm.no i b x hmade hiL
    obtain ⟨r8, r9⟩ := r7 b hb
    have hnx := t.nx_mono (i := 0) (j := i) (Nat.zero_le _) (by omega)
    have hnx' := t.nx_mono (i := i + 1) (j := ops.length) hin (Nat.le_refl _)
    rw [t.nx_end, h5] at hnx'
    rw [t.n0, eN] at hnx
    refine ⟨v', w1, upd ι b j, p, ((hat h1).applies (cls_nodefer (by rw [h3]; simp)) cs w).value r1, ?_, upd_sub hb, hm.make hO t rfl hs.closed hmade hiL r2 r6 r8, ?_⟩
    · show VRel _ v v'
      rw [h7]; exact r9
    · refine hE.more (upd_sub hb) (fun b' hb' => ?_) (fun b' j' hb' => ?_) ?_ (fun c' hc' _ => ?_) r3 r4 r5
      · unfold upd; rw [if_neg (by omega)]
      · unfold upd at hb'
        by_cases e' : b' = b
        · rw [if_pos e'] at hb'; cases hb'; exact .inr (.inl (by omega))
        · rw [if_neg e'] at hb'; exact .inl hb'
      · rw [r2, Array.size_push]; exact Nat.le_succ _
      · rw [r2, Array.getElem?_push, if_neg (by omega)]
  | wrote v p' =>
    rw [hk] at hok
    obtain ⟨h1, h2, h3, m, m1, fl, rest', h4, h5, h6, h7, h8, h9, h10, h11, h12⟩ := hok
    have hp' : d.wr[p']? = some i := (t.wrSpec p' i).2 ⟨e, v, he, hk⟩
    have hpp : p' = p := by
      have hle : ¬ p' < p := fun hlt => by have := (hm.wrL p' i hp').2 hlt; rw [hiL] at this; cases this
      rcases Nat.lt_or_ge p p' with hlt | hge
      · have hl := (List.getElem?_eq_some_iff.1 hp').1
        have hpw : d.wr[p]? = some (d.wr[p]'(by omega)) := List.getElem?_eq_getElem _
        have := ready_has hO hs.closed hr (h10 p _ hlt hpw)
        have := (hm.wrL p _ hpw).1 this
        omega
      · omega
    subst hpp
    have fine : ∀ b, fineB e.nx rest' b = true → ∀ j, ι b = some j → rst ops d (p' + 1) ι b = some j := by
      intro b hb j hj
      rw [rst_not]
      · exact hj
      · rintro ⟨j', x, hm', hu⟩
        unfold fineB at hb
        rw [Bool.and_eq_true, List.all_eq_true] at hb
        obtain ⟨hb1, hb2⟩ := hb
        obtain ⟨a1, a2, a3⟩ := t.made rfl hm'
        have a4 := t.nx_mono (i := j' + 1) (j := ops.length) a1 (Nat.le_refl _)
        rw [t.nx_end] at a4
        have hb1 : b < e.nx := by
          rcases (Bool.or_eq_true _ _).mp hb1 with h | h
          · exact Nat.le_of_ble_eq_true h
          · have := Nat.le_of_ble_eq_true h; omega
        have hji : j' < i := by
          rcases Nat.lt_or_ge j' i with hl | hl
          · exact hl
          · have := t.nx_mono (i := i) (j := j') hl (by omega); omega
        have hin' : (b, x, j') ∈ rest' := (h9 b x j').2 ⟨⟨hji, hm'⟩, fun q k hq hk' => hu q k (by omega) hk', hu p' i (by omega) hp'⟩
        have := hb2 _ hin'
        simp at this
    have hmr := hm.atWrite hO t rfl hs.closed hr hp' h4 h8 fine h12
    have hNext : (withFloats m fl e.nx).next = Nx d i := eN.symm
    rw [eN] at hmr
    have hF := hF0.right hE
    have hnx' := t.nx_mono (i := i + 1) (j := ops.length) hin (Nat.le_refl _)
    rw [t.nx_end, h7] at hnx'
    have hnx0 := t.mono i hin
    rw [eN, h7] at hnx0
    have hfree : Free (rst ops d (p' + 1) ι) (withFloats m fl e.nx) m1 w := by
      refine ⟨fun b hb1 hb2 => ?_, fun b j hb => ?_, fun b j hb hj => hF.apart b j ?_ (rst_some hj).2, hF.size, hF.mem⟩
      · have hb1 : e.nx ≤ b := hb1
        cases hx : rst ops d (p' + 1) ι b with
        | none => rfl
        | some j =>
          have h := (rst_some hx).2
          rw [hm.free p' i b hp' hiL (by rw [eN]; exact hb1) (by rw [h7]; exact hb2)] at h
          cases h
      · rw [rst_not]
        · exact hF.old b j hb
        · rintro ⟨j', x, hm', _⟩
          obtain ⟨a1, a2, a3⟩ := t.made rfl hm'
          have b1 := t.nx_mono (i := 0) (j := j') (Nat.zero_le _) (by omega)
          have b2 := t.nx_mono (i := j' + 1) (j := ops.length) a1 (Nat.le_refl _)
          rw [t.n0] at b1
          rw [t.nx_end, ← hM] at b2
          have := hF0.old b j hb
          rw [hF0.none b (by omega) (by omega)] at this
          cases this
      · have hb : b < e.nx := hb
        omega
    obtain ⟨_, stp⟩ := write_step hR hC h6
    obtain ⟨v', w', ι1, s1, s2, s3, s4⟩ := stp _ w fr cs (hat h1) (fun x hx => (rel h2 x hx).less fine 20 _ _ (h11 x hx)) hmr hfree
    obtain ⟨q1, q2, q3, q4⟩ := hm.wrote hO t rfl hs.closed hr hp' hNext h5 h7 s3 s4
    have hnx := t.nx_mono (i := 0) (j := i) (Nat.zero_le _) (by omega)
    rw [← hM] at hnx'
    rw [t.n0] at hnx
    exact ⟨v', w', _, p' + 1, s1, s2.mono q3, q1, q2, q4 hnx hnx' hE⟩

/-! ## The order drawn -/
def listed (a : Array Bool) : Nat → Bool := fun i => a.getD i false
omit [Base] in
theorem listed_set {a : Array Bool} {i : Nat} (hi : i < a.size) : listed (a.setIfInBounds i true) = ins (listed a) i := by
  funext j
  unfold listed ins
  by_cases e : j = i
  · subst e; simp [Array.getD_eq_getD_getElem?, hi]
  · simp only [Array.getD_eq_getD_getElem?]
    rw [Array.getElem?_setIfInBounds_ne (fun e' => e e'.symm)]
    simp [e]

omit [Base] in
theorem ready_of {a : Array Bool} (ha : a.size = ops.length) {i : Nat} (h : i ∈ Region.ready .any ops.toArray a) : i < ops.length ∧ Ready ops (listed a) i := by
  rw [mem_ready] at h
  obtain ⟨h1, o, ho, hall⟩ := h
  have ho : ops[i]? = some o := by simpa using ho
  have hi := (List.getElem?_eq_some_iff.1 ho).1
  refine ⟨hi, o, ho, ?_, hall⟩
  unfold listed
  rw [Array.getD_eq_getD_getElem?, Array.getElem?_eq_getElem (by omega)] at h1 ⊢
  exact h1

omit [Base] in
theorem ready_nil (hO : OrderOk ops (before ops)) {a : Array Bool} (h : Region.ready .any ops.toArray a = []) (ha : a.size = ops.length) : ∀ i, i < ops.length → listed a i = true := by
  intro i
  induction i using Nat.strongRecOn with
  | _ i ih =>
    intro hi
    cases hl : listed a i with
    | true => rfl
    | false =>
      have : i ∈ Region.ready .any ops.toArray a := by
        rw [mem_ready]
        refine ⟨?_, ops[i], by simp [hi], fun e he hb => ?_⟩
        · unfold listed at hl
          rw [Array.getD_eq_getD_getElem?, Array.getElem?_eq_getElem (by omega)] at hl ⊢
          exact hl
        · have := hO.back i _ (List.getElem?_eq_getElem hi) e he hb
          exact ih e.on this (by omega)
      rw [h] at this; cases this

def todoN (a : Nat → Bool) (n : Nat) : Nat := (List.range n).countP fun i => !a i

omit [Base] in
theorem countP_ins {L : Nat → Bool} {i : Nat} (hL : L i = false) : ∀ (l : List Nat), i ∈ l → l.countP (fun j => !ins L i j) < l.countP (fun j => !L j)
  | [], h => by cases h
  | a :: l, h => by
    have le : ∀ (l : List Nat), l.countP (fun j => !ins L i j) ≤ l.countP (fun j => !L j) := fun l => by
      refine List.countP_mono_left fun j _ hj => ?_
      simp only [Bool.not_eq_true', ins, Bool.or_eq_false_iff] at hj ⊢
      exact hj.2
    rw [List.countP_cons, List.countP_cons]
    by_cases e : a = i
    · subst e
      have := le l
      simp only [ins_same, hL, Bool.not_true, Bool.not_false, Bool.false_eq_true, if_false, if_true]
      omega
    · rw [ins_ne e]
      have := countP_ins hL l ((List.mem_cons.1 h).resolve_left (fun e' => e e'.symm))
      omega

theorem go_runs (hR : CallSound P R) (hC : CodeSound P R) (hP : ToldSound P R) (hO : OrderOk ops (before ops)) (t : Trac P R nt ops (before ops) T0 m0 ops.length d) (hro : readsOk P ops (before ops) d = true) {ι0 : Inj} {M : AMem} {w0 : World} (hlim : d.next ≤ holeAt) (hM : M.next = d.next) (hF0 : Free ι0 m0 M w0) : ∀ (fuel tt : Nat) (a : Array Bool) (p : Nat) (ι : Inj) (w : World) (fr : Frame) (k : List Item) (cs : List Frame), a.size = ops.length → todoN (listed a) ops.length ≤ fuel →
    Slots ops nt T0 d (listed a) ι fr.tmps → Memo ops d (listed a) p ι w → fr.mode = .run → fr.todo = .inRegion ops.toArray (Region.linearise.go .any ops.toArray fuel tt a []) :: k → Ext ι0 m0 M w0 w ι →
    ∃ w' ι' tmps' L' p', Steps P (lone fr cs w) (lone { fr with tmps := tmps', todo := .inRegion ops.toArray [] :: k } cs w') ∧ Slots ops nt T0 d L' ι' tmps' ∧ Memo ops d L' p' ι' w' ∧ Ext ι0 m0 M w0 w' ι' ∧ ∀ i, i < ops.length → L' i = true := by
  have stop : ∀ (a : Array Bool) (p : Nat) (ι : Inj) (w : World) (fr : Frame) (k : List Item) (cs : List Frame), Slots ops nt T0 d (listed a) ι fr.tmps → Memo ops d (listed a) p ι w → fr.todo = .inRegion ops.toArray [] :: k → Ext ι0 m0 M w0 w ι → (∀ i, i < ops.length → listed a i = true) →
      ∃ w' ι' tmps' L' p', Steps P (lone fr cs w) (lone { fr with tmps := tmps', todo := .inRegion ops.toArray [] :: k } cs w') ∧ Slots ops nt T0 d L' ι' tmps' ∧ Memo ops d L' p' ι' w' ∧ Ext ι0 m0 M w0 w' ι' ∧ ∀ i, i < ops.length → L' i = true := by
    intro a p ι w fr k cs hs hm ht hE hall
    refine ⟨w, ι, fr.tmps, listed a, p, ?_, hs, hm, hE, hall⟩
    have : fr = { fr with tmps := fr.tmps, todo := .inRegion ops.toArray [] :: k } := by
      obtain ⟨fn, tmps, todo, defers, mode, kind, roundOf⟩ := fr
      simp only at ht
      subst ht; rfl
    rw [← this]
    exact .refl _ _
  intro fuel
  induction fuel with
  | zero =>
    intro tt a p ι w fr k cs ha hcnt hs hm hmode ht hE
    simp only [Region.linearise.go, List.reverse_nil] at ht
    refine stop a p ι w fr k cs hs hm ht hE fun i hi => ?_
    unfold todoN at hcnt
    have := List.countP_eq_zero.1 (Nat.le_zero.1 hcnt) i (List.mem_range.2 hi)
    simpa using this
  | succ fuel ih =>
    intro tt a p ι w fr k cs ha hcnt hs hm hmode ht hE
    have hgo : Region.linearise.go .any ops.toArray (fuel + 1) tt a [] = match (Region.ready .any ops.toArray a)[tt % (Region.ready .any ops.toArray a).length]? with
        | some i => Region.linearise.go .any ops.toArray fuel (tt / (Region.ready .any ops.toArray a).length) (a.setIfInBounds i true) [i]
        | none => [] := by
      simp only [Region.linearise.go, Region.ready]
      rfl
    rw [hgo] at ht
    cases hi : (Region.ready .any ops.toArray a)[tt % (Region.ready .any ops.toArray a).length]? with
    | none =>
      rw [hi] at ht
      have hnil : Region.ready .any ops.toArray a = [] := by
        rw [List.getElem?_eq_none_iff] at hi
        rcases Nat.eq_zero_or_pos (Region.ready .any ops.toArray a).length with h0 | h0
        · exact List.eq_nil_of_length_eq_zero h0
        · have := Nat.mod_lt tt h0; omega
      exact stop a p ι w fr k cs hs hm ht hE (ready_nil hO hnil ha)
    | some i =>
      rw [hi] at ht
      simp only at ht
      rw [linearise_go_acc] at ht
      obtain ⟨hil, hr⟩ := ready_of ha (List.mem_of_getElem? hi)
      have ho : ops[i]? = some ops[i] := List.getElem?_eq_getElem hil
      obtain ⟨v', w1, ι1, p1, s1, s2, s3, s4, s5⟩ := entry_step hR hC hP hO t hro (cs := cs) hs hm hr ho hmode ht hlim hM hE hF0
      have hs1 := hs.put hO t rfl s3 hr ho s2
      rw [finish_at (o := ops[i]) ht (by simp [hil])] at s1
      have hset := listed_set (a := a) (i := i) (by omega)
      rw [← hset] at hs1 s4
      have hlt := countP_ins (L := listed a) (i := i) (by obtain ⟨_, _, h, _⟩ := hr; exact h) (List.range ops.length) (List.mem_range.2 hil)
      obtain ⟨w2, ι2, tmps2, L2, p2, q1, q2, q3, q4, q5⟩ := ih (tt / (Region.ready .any ops.toArray a).length) (a.setIfInBounds i true) p1 ι1 w1 { fr with tmps := putC fr.tmps (ops[i]).dst v', todo := .inRegion ops.toArray (Region.linearise.go .any ops.toArray fuel (tt / (Region.ready .any ops.toArray a).length) (a.setIfInBounds i true) []) :: k } k cs (by simp [ha]) (by rw [hset]; unfold todoN at hcnt ⊢; omega) hs1 s4 hmode rfl s5
      exact ⟨w2, ι2, tmps2, L2, p2, s1.trans q1, q2, q3, q4, q5⟩

theorem draw_sound (hR : CallSound P R) (hC : CodeSound P R) (hP : ToldSound P R) (nt : Nat) (ops : Array Oper) (T : Tr Value) (m : AMem) (T' : Tr Value) (m' : AMem) (h : drawA P R nt ops.toList T m = some (T', m')) : DrawRuns P nt ops T m T' m' := by
  obtain ⟨ops⟩ := ops
  unfold drawA at h
  obtain ⟨hord, h⟩ := cond_some h
  simp only [Option.bind_eq_bind, Option.bind_eq_some_iff] at h
  obtain ⟨d, hd, h⟩ := h
  obtain ⟨hro, h⟩ := cond_some h
  rw [Bool.and_eq_true] at hro
  obtain ⟨hlim, hro⟩ := hro
  have hlim := Nat.le_of_ble_eq_true hlim
  obtain ⟨base, hb, h⟩ := Option.map_eq_some_iff.1 h
  cases h
  rw [nth_eq] at hb
  have hO := orderOk_spec hord
  have t := drawGo_trac hR hC hO ops 0 _ d rfl (trac_start nt ops _ T m) hd
  rw [Nat.zero_add] at t
  have hnext : m.next ≤ d.next := by rw [← t.n0, ← t.nx_end]; exact t.nx_mono (Nat.zero_le _) (Nat.le_refl _)
  refine ⟨hnext, fun ι w fr k cs tt hmode hT hm hf ht => ?_⟩
  have rng : ∀ i b, i < ops.length → Nx d i ≤ b → b < Nx d (i + 1) → ι b = none := fun i b hi h1 h2 => by
    have a1 := t.nx_mono (i := 0) (j := i) (Nat.zero_le _) (by omega)
    have a2 := t.nx_mono (i := i + 1) (j := ops.length) hi (Nat.le_refl _)
    rw [t.n0] at a1
    rw [t.nx_end] at a2
    exact hf b (by omega) (by show b < d.next; omega)
  have hmade : ∀ (j b : Nat) (x : AObj), MadeAt d j b x → ι b = none := fun j b x hj => by
    obtain ⟨h1, h2, h3⟩ := t.made rfl hj
    exact rng j b h1 (by omega) (by omega)
  have hl : listed (Array.replicate ops.length false) = fun _ => false := by
    funext i
    unfold listed
    rw [Array.getD_eq_getD_getElem?, Array.getElem?_replicate]
    split <;> rfl
  have start : Memo ops d (listed (Array.replicate ops.length false)) 0 ι w := by
    rw [hl]
    refine ⟨Nat.zero_le _, fun q i hq => by simp, fun mm hmm => ?_, fun j b x _ _ hL => Bool.noConfusion hL, fun j b x hj _ => hmade j b x hj, fun q i b hq _ h1 h2 => rng i b (t.wrLt hq) h1 h2, hm.bound⟩
    rw [t.base0] at hmm; cases hmm
    have : rst ops d 0 ι = ι := by
      funext b
      by_cases hu : Unc ops d 0 b
      · rw [rst_unc hu]
        obtain ⟨j, x, hj, _⟩ := hu
        exact (hmade j b x hj).symm
      · exact rst_not hu
    rw [this]; exact hm
  have hE : Ext ι m (withFloats base d.un d.next) w w ι := ⟨hnext, fun _ _ h => h, fun _ _ => rfl, fun b j h1 h2 h3 => (by rw [hf b h1 h2] at h3; cases h3), Nat.le_refl _, fun _ _ _ => rfl, rfl, rfl, rfl⟩
  obtain ⟨w', ι', tmps', L', p', s1, s2, s3, s4, s5⟩ := go_runs hR hC hP hO t hro (M := withFloats base d.un d.next) hlim rfl hf ops.length tt (Array.replicate ops.length false) 0 ι w fr k cs (by simp) (by unfold todoN; exact Nat.le_trans List.countP_le_length (by simp)) (by rw [hl]; exact slots_start hT) start hmode (by rw [ht]; rfl) hE
  refine ⟨w', ι', tmps', s1, s2.all t rfl s5, ?_, s4⟩
  -- the end
  have hp : p' = d.wr.length := by
    rcases Nat.lt_or_ge p' d.wr.length with hlt | hge
    · have hpw : d.wr[p']? = some (d.wr[p']'hlt) := List.getElem?_eq_getElem _
      have := (s3.wrL p' _ hpw).1 (s5 _ (t.wrLt hpw))
      omega
    · have := s3.ple; omega
  subst hp
  have unU : ∀ b, Unc ops d d.wr.length b ↔ ∃ x j, (b, x, j) ∈ d.un := fun b => by
    constructor
    · rintro ⟨j, x, h1, h2⟩
      exact ⟨x, j, (t.un b x j).2 ⟨h1, fun q k hk => h2 q k (List.getElem?_eq_some_iff.1 hk).1 hk⟩⟩
    · rintro ⟨x, j, hx⟩
      obtain ⟨h1, h2⟩ := (t.un b x j).1 hx
      exact ⟨j, x, h1, fun q k _ hk => h2 q k hk⟩
  have sub : ∀ b j, rst ops d d.wr.length ι' b = some j → ι' b = some j := fun b j h => (rst_some h).2
  have flt : ∀ b x j, (b, x, j) ∈ d.un → ∃ J c, ι' b = some J ∧ w'.heap[J.blk]? = some c ∧ ORel ι' x J c ∧ ∀ b' J', ι' b' = some J' → J'.blk = J.blk → b' = b := fun b x j hx => by
    have hj := ((t.un b x j).1 hx).1
    exact s3.flt j b x hj ((unU b).2 ⟨x, j, hx⟩) (s5 j (t.made rfl hj).1)
  have hB := s3.base base hb
  refine ⟨fun b o J hg hJ => ?_, fun b b' o o' J J' hg hg' hJ hJ' he => ?_, s3.bound, fun b hb' => ?_⟩
  · rcases floats_get base d.un d.next b with ⟨x, j, h1, h2⟩ | ⟨h1, h2⟩
    · rw [h2] at hg
      have hxo : x = o := Option.some.inj hg
      obtain ⟨J', c, h3, h4, h5, _⟩ := flt b x j h1
      rw [h3] at hJ; cases hJ
      exact ⟨c, h4, hxo ▸ h5⟩
    · rw [h2] at hg
      have hu : ¬ Unc ops d d.wr.length b := fun hu => by obtain ⟨x, j, hx⟩ := (unU b).1 hu; exact h1 x j hx
      obtain ⟨c, h3, h4⟩ := hB.obj b o J hg (by rw [rst_not hu]; exact hJ)
      exact ⟨c, h3, h4.mono sub⟩
  · rcases floats_get base d.un d.next b with ⟨x, j, h1, h2⟩ | ⟨h1, h2⟩
    · obtain ⟨K, c, h3, h4, h5, h6⟩ := flt b x j h1
      rw [h3] at hJ; cases hJ
      exact (h6 b' J' hJ' he.symm).symm
    · rcases floats_get base d.un d.next b' with ⟨x, j, h1', h2'⟩ | ⟨h1', h2'⟩
      · obtain ⟨K, c, h3, h4, h5, h6⟩ := flt b' x j h1'
        rw [h3] at hJ'; cases hJ'
        exact h6 b J hJ he
      · rw [h2] at hg; rw [h2'] at hg'
        have hu : ¬ Unc ops d d.wr.length b := fun hu => by obtain ⟨x, j, hx⟩ := (unU b).1 hu; exact h1 x j hx
        have hu' : ¬ Unc ops d d.wr.length b' := fun hu => by obtain ⟨x, j, hx⟩ := (unU b').1 hu; exact h1' x j hx
        exact hB.inj b b' o o' J J' hg hg' (by rw [rst_not hu]; exact hJ) (by rw [rst_not hu']; exact hJ') he
  · have hb' : d.next ≤ b := hb'
    rcases floats_get base d.un d.next b with ⟨x, j, h1, h2⟩ | ⟨h1, h2⟩
    · obtain ⟨h3, h4, h5⟩ := t.made rfl ((t.un b x j).1 h1).1
      have := t.nx_mono (i := j + 1) (j := ops.length) h3 (Nat.le_refl _)
      rw [t.nx_end] at this
      omega
    · rw [h2]
      have := t.base_next rfl hb (Nat.le_refl _) (fun q k _ hk => t.wrLt hk)
      rw [t.nx_end] at this
      exact hB.fresh b (by omega)
end
end Go.Ev
