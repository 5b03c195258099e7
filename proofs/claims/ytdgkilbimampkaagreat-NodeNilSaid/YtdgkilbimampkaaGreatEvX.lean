import Derived.Test.YtdgkilbimampkaaGreatEvW
namespace Go.Ev
open Go
variable {P : Program} [Base]

omit [Base] in
theorem CodeIn.next {ι ι' : Inj} {fn : FuncId} {nt : Nat} {rd : Option Nat} {T T' : Tr Value} {D D' : List Nat} {m m' : AMem} {fr : Frame} {w w' : World} {tmps : Array Value} {ds : List Deferred} {todo : List Item} (h : CodeIn ι fn nt rd T D m fr w) (e : Ext ι m m' w w' ι')
    (ht : TRel ι' nt T' tmps) (hd : DRel ι' D' ds) (hm : MRel ι' m' w') : CodeIn ι' fn nt rd T' D' m' { fr with tmps := tmps, defers := ds, todo := todo } w' :=
  ⟨h.mode, h.fn, h.kind, h.rd.mono e.sub, ht, hd, hm⟩

omit [Base] in
/-- a jump past what is plain -/
theorem Arr.jump {M : Machine} {fr : Frame} {x : Item} {k : List Item} {cs : List Frame} {ex : Exit} {tmps : Array Value} {ds : List Deferred} {w : World} (hx : ∀ id, x ≠ .inBlock id) (hs : ∀ b, x ≠ .inScope b) (hne : ex ≠ .normal)
    (h : Arr P M fr (x :: k) cs ex tmps ds w) : Arr P M fr k cs ex tmps ds w := by
  have h1 : ∀ id, exitTo id (x :: k) = exitTo id k := by intro id; cases x <;> first | exact absurd rfl (hx _) | rfl
  have h2 : ∀ l, gotoIn l (x :: k) = gotoIn l k := by intro l; cases x <;> first | exact absurd rfl (hs _) | rfl
  cases ex with
  | normal => exact absurd rfl hne
  | ret => exact h
  | exit id => simp only [Arr, h1] at h ⊢; exact h
  | goto l => simp only [Arr, h2] at h ⊢; exact h
  | panic c => exact h
  | outgrown => exact h

omit [Base] in
theorem Arr.head {M M1 : Machine} {fr : Frame} {k : List Item} {cs : List Frame} {ex : Exit} {tmps : Array Value} {ds : List Deferred} {w : World} (s : Steps P M M1) (h : Arr P M1 fr k cs ex tmps ds w) : Arr P M fr k cs ex tmps ds w := by
  cases ex with
  | normal => exact s.trans h
  | ret => obtain ⟨k2, h⟩ := h; exact ⟨k2, s.trans h⟩
  | exit id => exact ⟨fun k' hk => s.trans (h.1 k' hk), fun hk => by obtain ⟨k2, h1, h2⟩ := h.2 hk; exact ⟨k2, h1, s.trans h2⟩⟩
  | goto l => exact ⟨fun k' hk => s.trans (h.1 k' hk), fun hk => by obtain ⟨k2, h1, h2⟩ := h.2 hk; exact ⟨k2, h1, s.trans h2⟩⟩
  | panic c => exact h
  | outgrown => exact h

omit [Base] in
/-- the frame's slots and marks as they were do not matter -/
theorem Arr.frame {M : Machine} {fr : Frame} {k : List Item} {cs : List Frame} {ex : Exit} {tmps t2 : Array Value} {ds d2 : List Deferred} {todo : List Item} {w : World} (h : Arr P M { fr with tmps := t2, defers := d2, todo := todo } k cs ex tmps ds w) : Arr P M fr k cs ex tmps ds w := by
  cases ex <;> exact h

omit [Base] in
theorem unwind_run {ι : Inj} {cs : List Frame} : ∀ (D : List Nat) (m m' : AMem) (w : World) (fr : Frame), unwindA D m = some m' → fr.mode = .returning → DRel ι D fr.defers → MRel ι m w →
    ∃ w', Steps P (lone fr cs w) (lone { fr with defers := [] } cs w') ∧ MRel ι m' w' ∧ Ext ι m m' w w' ι
  | [], m, m', w, fr, h, hmode, hd, hm => by
    cases h
    have : fr.defers = [] := by cases hds : fr.defers with | nil => rfl | cons _ _ => rw [hds] at hd; exact hd.elim
    refine ⟨w, ?_, hm, Ext.refl _ _ _⟩
    have he : fr = { fr with defers := [] } := by
      obtain ⟨fn, tmps, todo, defers, mode, kind, roundOf⟩ := fr
      simp only at this
      subst this; rfl
    rw [← he]
    exact .refl _ _
  | d :: D, m, m', w, fr, h, hmode, hd, hm => by
    simp only [unwindA] at h
    split at h
    case h_2 => cases h
    case h_1 hb =>
      cases hds : fr.defers with
      | nil => rw [hds] at hd; exact hd.elim
      | cons c ds =>
        rw [hds] at hd
        obtain ⟨⟨j, hj, hjo, rfl⟩, hd⟩ := hd
        obtain ⟨cc, hcc, hor⟩ := hm.obj _ _ _ hb hj
        have hdef : cc = .deferred (some []) := by
          cases cc with
          | deferred calls => cases calls with
            | none => exact hor.elim
            | some l => cases l with | nil => rfl | cons _ _ => exact hor.elim
          | _ => simp [ORel] at hor
        subst hdef
        have htake : (Instr.takeDeferred j.blk).run P w = .ok [] (wr w j.blk (.deferred none)) := by
          unfold Instr.takeDeferred
          rw [Sem.run_bind, run_getObj hcc (by simp), Result.andThen_ok]
          simp only []
          rw [Sem.run_bind, run_setObj hcc (by simp)]
          rfl
        have s1 := step_collected (P := P) (cs := cs) hmode hds htake
        have hm1 : MRel ι (m.drop d) (wr w j.blk (.deferred none)) := by
          have hbl := hm.bound _ _ hj
          refine ⟨fun k o jk hk hjk => ?_, (hm.drop d).inj, fun k jk hk => by simpa [wr] using hm.bound k jk hk, (hm.drop d).fresh⟩
          rw [wr_heap _ _ _ _ hbl]
          rw [AMem.get_drop] at hk
          by_cases e : k = d
          · rw [if_pos e] at hk; cases hk
          · rw [if_neg e] at hk
            rw [if_neg (fun e' => e (hm.inj _ _ _ _ _ _ hk hb hjk hj e'))]
            exact hm.obj _ _ _ hk hjk
        have e1 : Ext ι m (m.drop d) w (wr w j.blk (.deferred none)) ι := (Ext.wr (o' := .deferred) hm hb hj).of_next rfl rfl
        obtain ⟨w', s2, h2, e2⟩ := unwind_run D (m.drop d) m' (wr w j.blk (.deferred none)) { fr with defers := [] ++ ds } h hmode hd hm1
        exact ⟨w', Steps.head s1 s2, h2, e1.trans e2⟩

omit [Base] in
theorem unwind_next : ∀ (D : List Nat) (m m' : AMem), unwindA D m = some m' → m'.next = m.next
  | [], m, m', h => by cases h; rfl
  | d :: D, m, m', h => by
    simp only [unwindA] at h
    split at h
    case h_2 => cases h
    case h_1 => rw [unwind_next D _ _ h]; rfl

def resVar (tmps : Array Value) : ResultVar → Sem Value
  | .tmp t => pure (tmps.getD t undef)
  | .cell a t => do loadVar t (← asAddr (tmps.getD a undef))

omit [Base] in
theorem results_eq (fn : Func) (tmps : Array Value) : results fn tmps = (fn.results.mapM (resVar tmps) >>= fun vs => pure (if h : vs.size = 1 then vs[0] else .tuple vs)) := rfl

omit [Base] in
theorem resultsA_run {ι : Inj} {nt : Nat} {T : Tr Value} {tmps : Array Value} {m : AMem} {w : World} (hT : TRel ι nt T tmps) (hm : MRel ι m w) : ∀ (l : List ResultVar) (vs : List Value), resultsA P T m l = some vs →
    ∃ vs', LRel ι vs vs' ∧ (l.mapM (resVar tmps)).run P w = .ok vs' w
  | [], vs, h => by cases h; exact ⟨[], .nil, rfl⟩
  | r :: l, vs, h => by
    simp only [resultsA, Option.bind_eq_bind, Option.bind_eq_some_iff] at h
    obtain ⟨v, hv, vs1, hvs, h⟩ := h
    cases h
    obtain ⟨vs', h1, h2⟩ := resultsA_run hT hm l vs1 hvs
    cases r with
    | tmp t =>
      cases hv
      refine ⟨_, .cons (hT.rel t) h1, ?_⟩
      rw [List.mapM_cons]
      simp only [resVar, pure_bind]
      rw [run_bind_eq h2]
      rfl
    | cell a t =>
      obtain ⟨ad, v', g1, g2, g3⟩ := loadA_run hm.obj (hT.rel a) hv
      refine ⟨_, .cons g3 h1, ?_⟩
      rw [List.mapM_cons]
      have : (resVar tmps (.cell a t)).run P w = .ok v' w := by
        simp only [resVar, g1, asAddr, pure_bind]
        exact g2
      rw [run_bind_eq this, run_bind_eq h2]
      rfl

omit [Base] in
theorem results_run {fn : Func} {ι : Inj} {nt : Nat} {T : Tr Value} {tmps : Array Value} {m : AMem} {w : World} (hT : TRel ι nt T tmps) (hm : MRel ι m w) {vs : List Value} (h : resultsA P T m fn.results.toList = some vs) :
    ∃ v', (results fn tmps).run P w = .ok v' w ∧ VRel ι (outOf vs) v' := by
  obtain ⟨vs', h1, h2⟩ := resultsA_run (P := P) hT hm _ _ h
  refine ⟨outOf vs', ?_, ?_⟩
  · rw [results_eq, Array.mapM_eq_mapM_toList, map_eq_pure_bind, bind_assoc, run_bind_eq h2]
    simp only [pure_bind]
    cases vs' with
    | nil => rfl
    | cons a l => cases l with
      | nil => rfl
      | cons b l => simp [outOf]
  · cases h1 with
    | nil => exact .tuple .nil
    | cons ha ht => cases ht with
      | nil => exact ha
      | cons hb ht => exact .tuple (.cons ha (.cons hb ht))

omit [Base] in
theorem argsT_get : ∀ (l : List Value) (i : Nat) (T : Tr Value) (t : Nat), (argsT l i T).get t = if i ≤ t ∧ t < i + l.length then l[t - i]? else T.get t
  | [], i, T, t => by simp [argsT]; omega
  | v :: l, i, T, t => by
    rw [argsT, argsT_get l (i + 1), Tr.get_set]
    simp only [List.length_cons]
    by_cases h1 : i + 1 ≤ t ∧ t < i + 1 + l.length
    · rw [if_pos h1, if_pos (by omega), show t - i = (t - (i + 1)) + 1 by omega]; simp
    · rw [if_neg h1]
      by_cases h2 : t = i
      · subst h2; rw [if_pos rfl, if_pos (by omega)]; simp
      · rw [if_neg h2, if_neg (by omega)]

theorem funcA_sound {R : Rec} (hC : CodeSound P R) {f : FuncId} {args : List Value} {m m' : AMem} {v : Value} (h : funcA P R f args m = some (v, m')) : m.next ≤ m'.next ∧
  ∀ ι w (argsC : Array Value), LRel ι args argsC.toList → MRel ι m w → Free ι m m' w → ∀ cs, ∃ vC w' ι' fr,
    Steps P (lone (Frame.enter P f argsC .normal) cs w) (lone fr cs w') ∧ fr.leaving P w' (.returned vC) ∧ fr.fn = f ∧ VRel ι' v vC ∧ MRel ι' m' w' ∧ Ext ι m m' w w' ι' := by
  unfold funcA at h
  simp only [Option.bind_eq_bind, Option.bind_eq_some_iff] at h
  obtain ⟨fn, hfn, h⟩ := h
  cases hb : fn.body with
  | none => rw [hb] at h; cases h
  | some c =>
    rw [hb] at h
    obtain ⟨hle, h⟩ := cond_some h
    have hle : args.length ≤ fn.ntmps := Nat.le_of_ble_eq_true hle
    simp only [Option.bind_eq_some_iff] at h
    obtain ⟨⟨ex, T, D, m1⟩, hc, h⟩ := h
    obtain ⟨n1, c1⟩ := hC _ _ _ _ _ _ _ _ _ _ _ hc
    have hend : (ex = .normal ∨ ex = .ret) ∧ ∃ m2 vs, unwindA D m1 = some m2 ∧ resultsA P T m2 fn.results.toList = some vs ∧ v = outOf vs ∧ m' = m2 := by
      simp only at h
      cases ex <;> first
        | (cases h; done)
        | (simp only [Option.bind_eq_some_iff] at h
           obtain ⟨m2, h1, vs, h2, h3⟩ := h
           cases h3
           exact ⟨by simp, _, vs, h1, h2, rfl, rfl⟩)
    obtain ⟨hex, m2, vs, hu, hres, rfl, rfl⟩ := hend
    have n2 := unwind_next _ _ _ hu
    refine ⟨by omega, fun ι w argsC ha hm hf cs => ?_⟩
    have hsz : argsC.size = args.length := by simpa using ha.length
    have hT : TRel ι fn.ntmps (argsT args 0 .leaf) (Frame.enter P f argsC .normal).tmps := by
      refine ⟨by simp [Frame.enter, hfn, hsz]; omega, fun t => ?_⟩
      rw [argsT_get]
      simp only [Frame.enter, hfn, Option.map_some, Option.getD_some, Array.getD_eq_getD_getElem?, Nat.zero_le, true_and, Nat.zero_add, Nat.sub_zero, Tr.get_leaf]
      by_cases h1 : t < args.length
      · rw [if_pos h1, Array.getElem?_append_left (by omega)]
        obtain ⟨v', h2, h3⟩ := ha.get (List.getElem?_eq_getElem h1)
        rw [List.getElem?_eq_getElem h1]
        simp only [Array.getElem?_toList] at h2
        rw [h2]
        exact h3
      · rw [if_neg h1, Array.getElem?_append_right (by omega)]
        by_cases h2 : t - argsC.size < fn.ntmps - argsC.size
        · rw [Array.getElem?_replicate, if_pos h2]; exact vrel_undef _
        · rw [Array.getElem?_replicate, if_neg h2]; exact vrel_undef _
    obtain ⟨w1, ι1, tmps1, ds1, a1, t1, d1, mr1, e1⟩ := c1 ι w (Frame.enter P f argsC .normal) [] cs ⟨rfl, rfl, rfl, trivial, hT, trivial, hm⟩ (hf.left (by omega)) (by simp [Frame.enter, hfn, hb])
    have s1 : ∃ todo, Steps P (lone (Frame.enter P f argsC .normal) cs w) (lone { Frame.enter P f argsC .normal with tmps := tmps1, defers := ds1, todo := todo, mode := .returning } cs w1) := by
      rcases hex with rfl | rfl
      · exact ⟨[], Steps.trans a1 (.one (step_leave_end (fr := { Frame.enter P f argsC .normal with tmps := tmps1, defers := ds1, todo := [] }) rfl rfl rfl))⟩
      · obtain ⟨k2, a1⟩ := a1
        exact ⟨_, a1.trans (.one (step_leave_ret (fr := { Frame.enter P f argsC .normal with tmps := tmps1, defers := ds1, todo := .code .ret :: k2 }) rfl rfl rfl))⟩
    obtain ⟨todo, s1⟩ := s1
    obtain ⟨w2, s2, mr2, e2⟩ := unwind_run (P := P) (cs := cs) D m1 m' w1 { Frame.enter P f argsC .normal with tmps := tmps1, defers := ds1, todo := todo, mode := .returning } hu rfl d1 mr1
    obtain ⟨v', hr, hv⟩ := results_run (P := P) (fn := fn) t1 mr2 hres
    exact ⟨v', w2, ι1, _, s1.trans s2, ⟨rfl, rfl, rfl, fn, hfn, hr⟩, rfl, hv, mr2, e1.trans e2⟩
end Go.Ev
