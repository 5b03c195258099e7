import Derived.Test.YtdgkilbimampkaaGreatEvX
namespace Go.Ev
open Go
variable {P : Program} [Base]

theorem loop_any {R : Rec} (hC : CodeSound P R) (hL : LoopSound P R) {fn : FuncId} {nt : Nat} {rd : Option Nat} {body : Code} {T : Tr Value} {D : List Nat} {m : AMem} {ex : Exit} {T' : Tr Value} {D' : List Nat} {m' : AMem}
    (h : loopA R fn nt rd body T D m = some (ex, T', D', m')) : m.next ≤ m'.next ∧ ∀ ι w fr k cs, CodeIn ι fn nt rd T D m fr w → Free ι m m' w → step P (lone fr cs w) = .next (lone { fr with todo := .code body :: .inLoop body :: k } cs w) →
    ∃ w' ι' tmps' ds', Arr P (lone fr cs w) fr k cs ex tmps' ds' w' ∧ TRel ι' nt T' tmps' ∧ DRel ι' D' ds' ∧ MRel ι' m' w' ∧ Ext ι m m' w w' ι' := by
  unfold loopA at h
  cases ha : R.code fn nt rd body T D m with
  | none => rw [ha] at h; cases h
  | some r =>
    obtain ⟨ex1, T1, D1, m1⟩ := r
    rw [ha] at h
    obtain ⟨n1, c1⟩ := hC _ _ _ _ _ _ _ _ _ _ _ ha
    by_cases hn : ex1 = .normal
    · subst hn
      simp only at h
      obtain ⟨n2, c2⟩ := hL _ _ _ _ _ _ _ _ _ _ _ h
      refine ⟨by omega, fun ι w fr k cs hin hf s0 => ?_⟩
      obtain ⟨w1, ι1, t1, d1, a1, tr1, dr1, mr1, e1⟩ := c1 ι w { fr with todo := .code body :: .inLoop body :: k } (.inLoop body :: k) cs ⟨hin.mode, hin.fn, hin.kind, hin.rd, hin.tmps, hin.defers, hin.mem⟩ (hf.left (by omega)) rfl
      obtain ⟨w2, ι2, t2, d2, a2, tr2, dr2, mr2, e2⟩ := c2 ι1 w1 { fr with tmps := t1, defers := d1, todo := .inLoop body :: k } k cs (hin.next e1 tr1 dr1 mr1) (hf.right e1) rfl
      exact ⟨w2, ι2, t2, d2, Arr.head (Steps.head s0 a1) a2.frame, tr2, dr2, mr2, e1.trans e2⟩
    · have h : some (ex1, T1, D1, m1) = some (ex, T', D', m') := by
        cases ex1 <;> first | exact absurd rfl hn | exact h
      cases h
      refine ⟨n1, fun ι w fr k cs hin hf s0 => ?_⟩
      obtain ⟨w1, ι1, t1, d1, a1, tr1, dr1, mr1, e1⟩ := c1 ι w { fr with todo := .code body :: .inLoop body :: k } (.inLoop body :: k) cs ⟨hin.mode, hin.fn, hin.kind, hin.rd, hin.tmps, hin.defers, hin.mem⟩ hf rfl
      exact ⟨w1, ι1, t1, d1, Arr.head (.one s0) (Arr.jump (by simp) (by simp) hn a1.frame), tr1, dr1, mr1, e1⟩

theorem loop_sound {R : Rec} (hC : CodeSound P R) (hL : LoopSound P R) {fn : FuncId} {nt : Nat} {rd : Option Nat} {body : Code} {T : Tr Value} {D : List Nat} {m : AMem} {ex : Exit} {T' : Tr Value} {D' : List Nat} {m' : AMem}
    (h : loopA R fn nt rd body T D m = some (ex, T', D', m')) : LoopRuns P fn nt rd body T D m ex T' D' m' := by
  obtain ⟨n1, c1⟩ := loop_any hC hL h
  exact ⟨n1, fun ι w fr k cs hin hf ht => c1 ι w fr k cs hin hf (step_inLoop' hin.mode ht)⟩

omit [Base] in
theorem enterLoop_some {fn : FuncId} {tmps : Array Value} {params : Array Tmp} {a b : Code} {l : Nat} {r : Loop} {w : World} (h : w.heap[l]? = some (.loop r)) :
    (Instr.enterLoop fn tmps params a b (some l)).run P w = .ok (w.heap.size, []) { w with heap := w.heap.push (.loop { state := .ready, pending := none, fn, tmps, params, assign := a, body := b, defers := r.defers }) } := by
  unfold Instr.enterLoop
  simp only [pure_bind]
  rw [run_bind_eq (getLoop_run h)]
  rfl

omit [Base] in
theorem enterLoop_none {fn : FuncId} {tmps : Array Value} {params : Array Tmp} {a b : Code} {w : World} :
    (Instr.enterLoop fn tmps params a b none).run P w = .ok (w.heap.size + 1, [{ target := .collected w.heap.size, args := #[] }])
      { w with heap := (w.heap.push (.deferred (some []))).push (.loop { state := .ready, pending := none, fn, tmps, params, assign := a, body := b, defers := w.heap.size }) } := by
  unfold Instr.enterLoop
  simp only [pure_bind]
  rw [run_bind_eq (run_newObj P w _)]
  rw [run_bind_eq (run_newObj P _ _)]
  simp

theorem code_sound {R : Rec} (hfit : Fit P) (hR : CallSound P R) (hC : CodeSound P R) (hP : ToldSound P R) (hS : ScopeSound P R) (hL : LoopSound P R) (hD : ∀ nt ops T m T' m', drawA P R nt (Array.toList ops) T m = some (T', m') → DrawRuns P nt ops T m T' m')
    {fn : FuncId} {nt : Nat} {rd : Option Nat} {c : Code} {T : Tr Value} {D : List Nat} {m : AMem} {ex : Exit} {T' : Tr Value} {D' : List Nat} {m' : AMem}
    (h : codeA P R fn nt rd c T D m = some (ex, T', D', m')) : CodeRuns P fn nt rd c T D m ex T' D' m' := by
  have self : ∀ {fr : Frame}, { fr with tmps := fr.tmps, defers := fr.defers } = fr := fun {fr} => rfl
  cases c <;> simp only [codeA] at h
  case skip =>
    cases h
    exact ⟨Nat.le_refl _, fun ι w fr k cs hin hf ht => ⟨w, ι, fr.tmps, fr.defers, .one (step_skipCode hin.mode ht), hin.tmps, hin.defers, hin.mem, Ext.refl _ _ _⟩⟩
  case label l =>
    cases h
    exact ⟨Nat.le_refl _, fun ι w fr k cs hin hf ht => ⟨w, ι, fr.tmps, fr.defers, .one (step_labelCode hin.mode ht), hin.tmps, hin.defers, hin.mem, Ext.refl _ _ _⟩⟩
  case region id ops draw =>
    obtain ⟨⟨T1, m1⟩, h1, h⟩ := Option.map_eq_some_iff.1 h
    cases h
    exact regionA_code hfit hR hC hP hD h1
  case seq a b =>
    cases ha : R.code fn nt rd a T D m with
    | none => rw [ha] at h; cases h
    | some r =>
      obtain ⟨ex1, T1, D1, m1⟩ := r
      rw [ha] at h
      obtain ⟨n1, c1⟩ := hC _ _ _ _ _ _ _ _ _ _ _ ha
      by_cases hn : ex1 = .normal
      · subst hn
        simp only at h
        obtain ⟨n2, c2⟩ := hC _ _ _ _ _ _ _ _ _ _ _ h
        refine ⟨by omega, fun ι w fr k cs hin hf ht => ?_⟩
        have s0 := step_seq' (P := P) (cs := cs) (w := w) hin.mode ht
        obtain ⟨w1, ι1, t1, d1, a1, tr1, dr1, mr1, e1⟩ := c1 ι w { fr with todo := .code a :: .code b :: k } (.code b :: k) cs ⟨hin.mode, hin.fn, hin.kind, hin.rd, hin.tmps, hin.defers, hin.mem⟩ (hf.left (by omega)) rfl
        obtain ⟨w2, ι2, t2, d2, a2, tr2, dr2, mr2, e2⟩ := c2 ι1 w1 { fr with tmps := t1, defers := d1, todo := .code b :: k } k cs (hin.next e1 tr1 dr1 mr1) (hf.right e1) rfl
        exact ⟨w2, ι2, t2, d2, Arr.head (Steps.head s0 a1) a2.frame, tr2, dr2, mr2, e1.trans e2⟩
      · have h : some (ex1, T1, D1, m1) = some (ex, T', D', m') := by
          cases ex1 <;> first | exact absurd rfl hn | exact h
        cases h
        refine ⟨n1, fun ι w fr k cs hin hf ht => ?_⟩
        have s0 := step_seq' (P := P) (cs := cs) (w := w) hin.mode ht
        obtain ⟨w1, ι1, t1, d1, a1, tr1, dr1, mr1, e1⟩ := c1 ι w { fr with todo := .code a :: .code b :: k } (.code b :: k) cs ⟨hin.mode, hin.fn, hin.kind, hin.rd, hin.tmps, hin.defers, hin.mem⟩ hf rfl
        exact ⟨w1, ι1, t1, d1, Arr.head (.one s0) (Arr.jump (by simp) (by simp) hn a1.frame), tr1, dr1, mr1, e1⟩
  case cond c x y =>
    obtain ⟨hok, h⟩ := cond_some h
    split at h
    case h_2 => cases h
    case h_1 t hv =>
      obtain ⟨n1, c1⟩ := hC _ _ _ _ _ _ _ _ _ _ _ h
      refine ⟨n1, fun ι w fr k cs hin hf ht => ?_⟩
      have hr := opnd_rel hin.tmps hok
      rw [hv] at hr
      have hev : fr.eval c = .bool t := by generalize fr.eval c = y at hr; cases hr; rfl
      have s0 := step_cond' (P := P) (cs := cs) (w := w) hin.mode ht hev
      have hxy : (if t = true then x else y) = (bif t then x else y) := by cases t <;> rfl
      rw [hxy] at s0
      obtain ⟨w1, ι1, t1, d1, a1, tr1, dr1, mr1, e1⟩ := c1 ι w { fr with todo := .code (bif t then x else y) :: k } k cs ⟨hin.mode, hin.fn, hin.kind, hin.rd, hin.tmps, hin.defers, hin.mem⟩ hf rfl
      exact ⟨w1, ι1, t1, d1, Arr.head (.one s0) a1.frame, tr1, dr1, mr1, e1⟩
  case block id body =>
    cases ha : R.code fn nt rd body T D m with
    | none => rw [ha] at h; cases h
    | some r =>
      obtain ⟨ex1, T1, D1, m1⟩ := r
      rw [ha] at h
      obtain ⟨n1, c1⟩ := hC _ _ _ _ _ _ _ _ _ _ _ ha
      have run : ∀ ι w fr k cs, CodeIn ι fn nt rd T D m fr w → Free ι m m1 w → fr.todo = .code (.block id body) :: k →
          ∃ w' ι' tmps' ds', Arr P (lone fr cs w) fr (.inBlock id :: k) cs ex1 tmps' ds' w' ∧ TRel ι' nt T1 tmps' ∧ DRel ι' D1 ds' ∧ MRel ι' m1 w' ∧ Ext ι m m1 w w' ι' := by
        intro ι w fr k cs hin hf ht
        have s0 := step_block' (P := P) (cs := cs) (w := w) hin.mode ht
        obtain ⟨w1, ι1, t1, d1, a1, tr1, dr1, mr1, e1⟩ := c1 ι w { fr with todo := .code body :: .inBlock id :: k } (.inBlock id :: k) cs ⟨hin.mode, hin.fn, hin.kind, hin.rd, hin.tmps, hin.defers, hin.mem⟩ hf rfl
        exact ⟨w1, ι1, t1, d1, Arr.head (.one s0) a1.frame, tr1, dr1, mr1, e1⟩
      have other : (∀ i, ex1 ≠ .exit i) → some (ex1, T1, D1, m1) = some (ex, T', D', m') → CodeRuns P fn nt rd (.block id body) T D m ex T' D' m' := by
        intro hne h
        cases h
        refine ⟨n1, fun ι w fr k cs hin hf ht => ?_⟩
        obtain ⟨w1, ι1, t1, d1, a1, r⟩ := run ι w fr k cs hin hf ht
        refine ⟨w1, ι1, t1, d1, ?_, r⟩
        cases ex with
        | normal => exact Steps.trans a1 (.one (step_inBlock' (fr := { fr with tmps := t1, defers := d1, todo := .inBlock id :: k }) hin.mode rfl))
        | ret => exact a1
        | exit i => exact absurd rfl (hne i)
        | goto l => exact a1
        | panic c => exact a1
        | outgrown => exact a1
      cases ex1 with
      | exit i =>
        simp only at h
        cases hi : Nat.beq i id with
        | true =>
          rw [hi] at h
          cases h
          have hi := beq_of hi
          subst hi
          refine ⟨n1, fun ι w fr k cs hin hf ht => ?_⟩
          obtain ⟨w1, ι1, t1, d1, a1, r⟩ := run ι w fr k cs hin hf ht
          exact ⟨w1, ι1, t1, d1, a1.1 k (by simp [exitTo]), r⟩
        | false =>
          rw [hi] at h
          cases h
          have hne := beq_ne hi
          refine ⟨n1, fun ι w fr k cs hin hf ht => ?_⟩
          obtain ⟨w1, ι1, t1, d1, a1, r⟩ := run ι w fr k cs hin hf ht
          have hex : exitTo i (.inBlock id :: k) = exitTo i k := by simp [exitTo]; intro e; exact absurd e.symm hne
          refine ⟨w1, ι1, t1, d1, ?_, r⟩
          simp only [Arr, hex] at a1 ⊢
          exact a1
      | _ => exact other (by simp) h
  case loop body =>
    obtain ⟨n1, c1⟩ := loop_any hC hL h
    exact ⟨n1, fun ι w fr k cs hin hf ht => c1 ι w fr k cs hin hf (step_loop' hin.mode ht)⟩
  case exit id =>
    cases h
    refine ⟨Nat.le_refl _, fun ι w fr k cs hin hf ht => ⟨w, ι, fr.tmps, fr.defers, ⟨fun k' hk => .one (step_exit' hin.mode ht hk), fun hk => ⟨k, hk, ?_⟩⟩, hin.tmps, hin.defers, hin.mem, Ext.refl _ _ _⟩⟩
    have : ({ fr with tmps := fr.tmps, defers := fr.defers, todo := .code (.exit id) :: k } : Frame) = fr := by rw [← ht]
    rw [this]; exact .refl _ _
  case goto l =>
    cases h
    refine ⟨Nat.le_refl _, fun ι w fr k cs hin hf ht => ⟨w, ι, fr.tmps, fr.defers, ⟨fun k' hk => .one (step_goto' hin.mode ht hk), fun hk => ⟨k, hk, ?_⟩⟩, hin.tmps, hin.defers, hin.mem, Ext.refl _ _ _⟩⟩
    have : ({ fr with tmps := fr.tmps, defers := fr.defers, todo := .code (.goto l) :: k } : Frame) = fr := by rw [← ht]
    rw [this]; exact .refl _ _
  case ret =>
    cases h
    refine ⟨Nat.le_refl _, fun ι w fr k cs hin hf ht => ⟨w, ι, fr.tmps, fr.defers, ⟨k, ?_⟩, hin.tmps, hin.defers, hin.mem, Ext.refl _ _ _⟩⟩
    have : ({ fr with tmps := fr.tmps, defers := fr.defers, todo := .code .ret :: k } : Frame) = fr := by rw [← ht]
    rw [this]; exact .refl _ _
  case scope body =>
    obtain ⟨n1, c1⟩ := hS _ _ _ _ _ _ _ _ _ _ _ _ h
    refine ⟨n1, fun ι w fr k cs hin hf ht => ?_⟩
    have s0 := step_scope' (P := P) (cs := cs) (w := w) hin.mode ht
    obtain ⟨w1, ι1, t1, d1, a1, tr1, dr1, mr1, e1⟩ := c1 ι w { fr with todo := .code body :: .inScope body :: k } k cs ⟨hin.mode, hin.fn, hin.kind, hin.rd, hin.tmps, hin.defers, hin.mem⟩ hf rfl
    exact ⟨w1, ι1, t1, d1, Arr.head (.one s0) a1.frame, tr1, dr1, mr1, e1⟩
  case rangeFunc f params assign body =>
    obtain ⟨hok, h⟩ := cond_some h
    split at h
    case h_2 => cases h
    case h_1 g first captured hfv =>
      simp only [Option.bind_eq_bind, Option.bind_eq_some_iff] at h
      obtain ⟨⟨dk, D1, m0⟩, hlay, ⟨vr, m1⟩, hgo, h⟩ := h
      simp only at hgo h
      split at h
      case h_2 => cases h
      case h_1 r hr =>
        have hout : r.state ≠ .busy ∧ m' = m1.put m0.next (.loop { r with state := .exhausted }) ∧ T' = T ∧ D' = D1 ∧
            ((r.pending = none ∧ ex = .normal) ∨ (∃ id, r.pending = some (.exit id) ∧ ex = .exit id) ∨ (∃ l, r.pending = some (.goto l) ∧ ex = .goto l) ∨ (r.pending = some .ret ∧ ex = .ret)) := by
          split at h
          case h_1 => cases h
          case h_2 hnb =>
            split at h <;> cases h
            all_goals rename_i hp
            · exact ⟨hnb, rfl, rfl, rfl, .inl ⟨hp, rfl⟩⟩
            · exact ⟨hnb, rfl, rfl, rfl, .inr (.inl ⟨_, hp, rfl⟩)⟩
            · exact ⟨hnb, rfl, rfl, rfl, .inr (.inr (.inl ⟨_, hp, rfl⟩))⟩
            · exact ⟨hnb, rfl, rfl, rfl, .inr (.inr (.inr ⟨hp, rfl⟩))⟩
        obtain ⟨hnb, rfl, rfl, rfl, hex⟩ := hout
        unfold goA at hgo
        simp only [Option.bind_eq_bind, Option.bind_eq_some_iff] at hgo
        obtain ⟨fnG, hfnG, hgo⟩ := hgo
        cases hcn : (fnG.name == "runtime.NumGoroutine" || fnG.body.isNone) with
        | true => rw [hcn] at hgo; cases hgo
        | false =>
          rw [hcn, cond_false] at hgo
          rw [Bool.or_eq_false_iff] at hcn
          obtain ⟨cG, hcG⟩ : ∃ c, fnG.body = some c := by
            cases hb : fnG.body with
            | none => rw [hb] at hcn; simp at hcn
            | some c => exact ⟨c, rfl⟩
          obtain ⟨n1, c1⟩ := hR _ _ _ _ _ hgo
          simp only [AMem.next_new] at n1
          have nlay : m.next ≤ m0.next := by
            unfold layA at hlay
            cases rd with
            | none => cases hlay; simp
            | some l =>
              simp only at hlay
              split at hlay
              case h_1 => cases hlay; exact Nat.le_refl _
              case h_2 => cases hlay
          refine ⟨by simp only [AMem.next_put]; omega, fun ι w fr k cs hin hf ht => ?_⟩
          replace hf : Free ι m m1 w := hf.left (by simp)
          -- what is laid
          have lay : ∃ (mark : List Deferred) (dC : Nat) (w0 : World) (ι0 : Inj), DRel ι0 D' (mark ++ fr.defers) ∧ MRel ι0 m0 w0 ∧ Ext ι m m0 w w0 ι0 ∧ (∃ j, ι0 dk = some j ∧ j.off = 0 ∧ j.blk = dC) ∧
              (Instr.enterLoop fr.fn fr.tmps params assign body fr.roundOf).run P w = .ok (w0.heap.size, mark) { w0 with heap := w0.heap.push (.loop { state := .ready, pending := none, fn := fr.fn, tmps := fr.tmps, params, assign, body, defers := dC }) } := by
            unfold layA at hlay
            cases rd with
            | none =>
              cases hlay
              have hro : fr.roundOf = none := by have := hin.rd; cases hh : fr.roundOf with | none => rfl | some _ => rw [hh] at this; exact this.elim
              obtain ⟨ι0, g1, g2, g3⟩ := new_obj hin.mem (hf _ (Nat.le_refl _) (by simp only [AMem.next_new] at n1; omega)) (x := .deferred) (c := .deferred (some [])) rfl
              refine ⟨[{ target := .collected w.heap.size, args := #[] }], w.heap.size, { w with heap := w.heap.push (.deferred (some [])) }, ι0, ⟨⟨_, g3, rfl, rfl⟩, hin.defers.mono g2.sub⟩, g1, g2, ⟨_, g3, rfl, rfl⟩, ?_⟩
              rw [hro, enterLoop_none]
              simp
            | some l =>
              simp only at hlay
              split at hlay
              case h_2 => cases hlay
              case h_1 rl hrl =>
                cases hlay
                have hrd := hin.rd
                cases hh : fr.roundOf with
                | none => rw [hh] at hrd; exact hrd.elim
                | some l' =>
                  rw [hh] at hrd
                  obtain ⟨j, hj, hjo, rfl⟩ := hrd
                  obtain ⟨cc, hcc, hor⟩ := hin.mem.obj _ _ _ hrl hj
                  cases cc with
                  | loop rC =>
                    obtain ⟨_, hloop⟩ := hor
                    obtain ⟨jd, hd1, hd2, hd3⟩ := hloop.defers
                    exact ⟨[], rC.defers, w, ι, hin.defers, hin.mem, Ext.refl _ _ _, ⟨jd, hd1, hd2, hd3⟩, enterLoop_some hcc⟩
                  | _ => simp [ORel] at hor
          obtain ⟨mark, dC, w0, ι0, hD0, hm0, e0, ⟨jd, hjd1, hjd2, hjd3⟩, hrun0⟩ := lay
          have hf0 : Free ι0 m0 m1 w0 := hf.right e0
          obtain ⟨ι1, hm1, e1, hl1⟩ := new_obj hm0 (hf0 _ (Nat.le_refl _) (by omega)) (x := .loop { state := .ready, pending := none, fn, T := T', nt, params := params.toList, assign, body, defers := dk })
            (c := .loop { state := .ready, pending := none, fn := fr.fn, tmps := fr.tmps, params, assign, body, defers := dC }) ⟨rfl, ⟨rfl, rfl, hin.fn, (hin.tmps.mono e0.sub).mono (upd_sub (hf0 _ (Nat.le_refl _) (by omega))), rfl, rfl, rfl, ⟨jd, upd_sub (hf0 _ (Nat.le_refl _) (by omega)) _ _ hjd1, hjd2, hjd3⟩⟩⟩
          have hfr := opnd_rel hin.tmps hok
          rw [hfv] at hfr
          generalize hff : fr.eval f = f' at hfr
          cases hfr with
          | func hfn ha hc =>
            rename_i fn' a' c'
            cases fn' <;> simp only [FnRel] at hfn
            all_goals cases hfn
            have hsub : ∀ b j, ι b = some j → ι1 b = some j := fun b j hb => e1.sub _ _ (e0.sub _ _ hb)
            have hargs : LRel ι1 (first.toList ++ [.func (.yield m0.next) #[] #[]] ++ captured.toList) (a' ++ #[Value.func (.yield w0.heap.size) #[] #[]] ++ c').toList := by
              rw [Array.toList_append, Array.toList_append]
              have hy : FnRel ι1 (.yield m0.next) (.yield w0.heap.size) := ⟨_, hl1, rfl, rfl⟩
              exact ((ha.mono hsub).append (.cons (.func hy .nil .nil) .nil)).append (hc.mono hsub)
            have hf1 : Free ι1 (m0.new (.loop { state := .ready, pending := none, fn, T := T', nt, params := params.toList, assign, body, defers := dk })) m1 _ := hf0.right e1
            obtain ⟨vC, w2, ι2, fr2, s2, hleave, hfn2, hv2, hm2, e2⟩ := c1 ι1 _ _ hargs hm1 hf1 ({ fr with todo := .inRangeFunc w0.heap.size :: k, defers := mark ++ fr.defers } :: cs)
            have s1 := step_rangeFunc (P := P) (cs := cs) hin.mode ht hrun0 hff rfl (run_callFunc_enter hfnG hcn.1 hcG _ _)
            have s3 := step_leave_returned (cs := cs) hleave (c := { fr with todo := .inRangeFunc w0.heap.size :: k, defers := mark ++ fr.defers })
            have hfin : ({ fr with todo := .inRangeFunc w0.heap.size :: k, defers := mark ++ fr.defers } : Frame).finish vC = { fr with todo := .endRangeFunc w0.heap.size :: k, defers := mark ++ fr.defers } := rfl
            rw [hfin] at s3
            have hl2 := e2.sub _ _ hl1
            obtain ⟨cc, hcc, hor⟩ := hm2.obj _ _ _ hr hl2
            cases cc with
            | loop rC =>
              obtain ⟨_, hloop⟩ := hor
              have hend : (Instr.endLoop w0.heap.size).run P w2 = .ok r.pending (wr w2 w0.heap.size (.loop { rC with state := .exhausted })) := by
                rw [← hloop.pending]
                unfold Instr.endLoop
                rw [run_bind_eq (getLoop_run hcc)]
                have hnb' : (rC.state == LoopState.busy) = false := by
                  rw [hloop.state]
                  cases hst : r.state <;> first | rfl | exact absurd hst hnb
                simp only [hnb', Bool.false_eq_true, if_false]
                rw [run_bind_eq (run_setObj hcc (by simp))]
                rfl
              have s4 := step_endRangeFunc (P := P) (cs := cs) (fr := { fr with todo := .endRangeFunc w0.heap.size :: k, defers := mark ++ fr.defers }) (k := k) hin.mode rfl hend
              have hm3 := hm2.put hr hl2 (o' := .loop { r with state := .exhausted }) (c := .loop { rC with state := .exhausted }) ⟨rfl, ⟨rfl, hloop.pending, hloop.fn, hloop.tmps, hloop.params, hloop.assign, hloop.body, hloop.defers⟩⟩
              have eall := ((e0.trans e1).trans e2).trans (Ext.wr (o' := .loop { r with state := .exhausted }) (c := .loop { rC with state := .exhausted }) hm2 hr hl2)
              refine ⟨_, ι2, fr.tmps, mark ++ fr.defers, ?_, hin.tmps.mono eall.sub, hD0.mono (fun b j hb => e2.sub _ _ (e1.sub _ _ hb)), hm3, eall⟩
              have sall := Steps.head s1 (s2.trans (Steps.head s3 (.one s4)))
              rcases hex with ⟨hp, rfl⟩ | ⟨id, hp, rfl⟩ | ⟨l, hp, rfl⟩ | ⟨hp, rfl⟩
              · rw [hp] at sall; exact sall
              · rw [hp] at sall
                exact ⟨fun k' hk => sall.trans (.one (step_exit' (fr := { fr with todo := .code (.exit id) :: k, defers := mark ++ fr.defers }) hin.mode rfl hk)), fun hk => ⟨k, hk, sall⟩⟩
              · rw [hp] at sall
                exact ⟨fun k' hk => sall.trans (.one (step_goto' (fr := { fr with todo := .code (.goto l) :: k, defers := mark ++ fr.defers }) hin.mode rfl hk)), fun hk => ⟨k, hk, sall⟩⟩
              · rw [hp] at sall; exact ⟨k, sall⟩
            | _ => simp [ORel] at hor
  case refuse => cases h

theorem scope_sound {R : Rec} (hC : CodeSound P R) (hS : ScopeSound P R) {fn : FuncId} {nt : Nat} {rd : Option Nat} {body cur : Code} {T : Tr Value} {D : List Nat} {m : AMem} {ex : Exit} {T' : Tr Value} {D' : List Nat} {m' : AMem}
    (h : scopeA R fn nt rd body cur T D m = some (ex, T', D', m')) : ScopeRuns P fn nt rd body cur T D m ex T' D' m' := by
  unfold scopeA at h
  cases ha : R.code fn nt rd cur T D m with
  | none => rw [ha] at h; cases h
  | some r =>
    obtain ⟨ex1, T1, D1, m1⟩ := r
    rw [ha] at h
    obtain ⟨n1, c1⟩ := hC _ _ _ _ _ _ _ _ _ _ _ ha
    have other : (∀ l, ex1 ≠ .goto l) → some (ex1, T1, D1, m1) = some (ex, T', D', m') → ScopeRuns P fn nt rd body cur T D m ex T' D' m' := by
      intro hne h
      cases h
      refine ⟨n1, fun ι w fr k cs hin hf ht => ?_⟩
      obtain ⟨w1, ι1, t1, d1, a1, r⟩ := c1 ι w fr (.inScope body :: k) cs hin hf ht
      refine ⟨w1, ι1, t1, d1, ?_, r⟩
      cases ex with
      | normal => exact Steps.trans a1 (.one (step_inScope' (fr := { fr with tmps := t1, defers := d1, todo := .inScope body :: k }) hin.mode rfl))
      | ret => exact a1
      | exit i => exact a1
      | goto l => exact absurd rfl (hne l)
      | panic c => exact a1
      | outgrown => exact a1
    cases ex1 with
    | goto l =>
      simp only at h
      cases hl : findLabel body l with
      | some rest =>
        rw [hl] at h
        obtain ⟨n2, c2⟩ := hS _ _ _ _ _ _ _ _ _ _ _ _ h
        refine ⟨by omega, fun ι w fr k cs hin hf ht => ?_⟩
        obtain ⟨w1, ι1, t1, d1, a1, tr1, dr1, mr1, e1⟩ := c1 ι w fr (.inScope body :: k) cs hin (hf.left (by omega)) ht
        obtain ⟨w2, ι2, t2, d2, a2, tr2, dr2, mr2, e2⟩ := c2 ι1 w1 { fr with tmps := t1, defers := d1, todo := .code rest :: .inScope body :: k } k cs (hin.next e1 tr1 dr1 mr1) (hf.right e1) rfl
        exact ⟨w2, ι2, t2, d2, Arr.head (a1.1 _ (by simp [gotoIn, hl])) a2.frame, tr2, dr2, mr2, e1.trans e2⟩
      | none =>
        rw [hl] at h
        cases h
        refine ⟨n1, fun ι w fr k cs hin hf ht => ?_⟩
        obtain ⟨w1, ι1, t1, d1, a1, r⟩ := c1 ι w fr (.inScope body :: k) cs hin hf ht
        refine ⟨w1, ι1, t1, d1, ?_, r⟩
        have : gotoIn l (.inScope body :: k) = gotoIn l k := by simp [gotoIn, hl]
        simp only [Arr, this] at a1 ⊢
        exact a1
    | _ => exact other (by simp) h
end Go.Ev
