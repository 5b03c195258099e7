import Derived.Test.YtdgkilbimampkaaGreatEvS
namespace Go.Ev
open Go
variable {P : Program} [Base]

omit [Base] in
theorem foldl_T {ι : Inj} {nt : Nat} : ∀ (ps : List Tmp) (args args' : List Value) (T : Tr Value) (tmps : Array Value), TRel ι nt T tmps → LRel ι args args' → (∀ t ∈ ps, t < nt) →
    TRel ι nt ((ps.zip args).foldl (fun T (t, a) => T.set t (some a)) T) ((ps.zip args').foldl (fun tmps (t, a) => tmps.setIfInBounds t a) tmps)
  | [], args, args', T, tmps, h, _, _ => by simpa using h
  | p :: ps, [], args', T, tmps, h, ha, _ => by cases ha; simpa using h
  | p :: ps, a :: args, args', T, tmps, h, ha, hp => by
    cases ha with
    | cons hv ht =>
      simp only [List.zip_cons_cons, List.foldl_cons]
      exact foldl_T ps args _ _ _ (h.set (hp p (by simp)) hv) ht (fun t ht => hp t (by simp [ht]))

omit [Base] in
theorem getLoop_run {l : Nat} {r : Loop} {w : World} (h : w.heap[l]? = some (.loop r)) : (Instr.getLoop l).run P w = .ok r w := by
  unfold Instr.getLoop
  rw [Sem.run_bind, run_getObj h (by simp)]
  rfl

theorem roundA_step {R : Rec} (hC : CodeSound P R) {l : Nat} {args : List Value} {m m' : AMem} {v : Value} (h : roundA R l args m = some (v, m')) :
    m.next ≤ m'.next ∧ ∀ ι w (argsC : Array Value) l', (∃ j, ι l = some j ∧ j.off = 0 ∧ j.blk = l') → LRel ι args argsC.toList → MRel ι m w → Free ι m m' w → ∀ s fr cs, Applies P fr cs s w → s.run P w = (Instr.yield l' argsC).run P w → Comes' P ι m m' w fr cs v := by
  unfold roundA at h
  split at h
  case h_2 => cases h
  case h_1 r hr =>
    obtain ⟨hc, h⟩ := cond_some h
    simp only [Bool.and_eq_true, List.all_eq_true] at hc
    have hlen := beq_of hc.1
    have hps : ∀ t ∈ r.params, t < r.nt := fun t ht => Nat.le_of_ble_eq_true (hc.2 t ht)
    simp only [Option.bind_eq_bind, Option.bind_eq_some_iff] at h
    obtain ⟨q, hq, h⟩ := h
    split at h
    case h_2 => cases h
    case h_1 T1 m1 =>
      split at h
      case h_2 => cases h
      case h_1 r1 hr1 =>
        split at h
        case h_2 => cases h
        case h_1 hst =>
          simp only [Option.bind_eq_some_iff] at h
          obtain ⟨q2, hq2, h⟩ := h
          split at h
          case h_2 => cases h
          case h_1 ex T2 m2 =>
            obtain ⟨n1, c1⟩ := hC _ _ _ _ _ _ _ _ _ _ _ hq
            obtain ⟨n2, c2⟩ := hC _ _ _ _ _ _ _ _ _ _ _ hq2
            simp only [AMem.next_put] at n2
            have outA : ∃ jump r2, m2.get l = some (.loop r2) ∧ v = .bool jump.isNone ∧ m' = m2.put l (.loop { r2 with state := bif jump.isNone then .ready else .done, pending := jump }) ∧
                ((ex = .normal ∧ jump = none) ∨ (∃ id, ex = .exit id ∧ jump = some (.exit id)) ∨ (∃ g, ex = .goto g ∧ jump = some (.goto g)) ∨ (ex = .ret ∧ jump = some .ret)) := by
              have out : ∀ jump, (match m2.get l with
                  | some (.loop r2) => some (Value.bool jump.isNone, m2.put l (.loop { r2 with state := bif jump.isNone then .ready else .done, pending := jump }))
                  | _ => none) = some (v, m') → ∃ r2, m2.get l = some (.loop r2) ∧ v = .bool jump.isNone ∧ m' = m2.put l (.loop { r2 with state := bif jump.isNone then .ready else .done, pending := jump }) := by
                intro jump h
                split at h
                case h_1 r2 hr2 => cases h; exact ⟨r2, hr2, rfl, rfl⟩
                case h_2 => cases h
              split at h
              case h_1 => obtain ⟨r2, a, b, c⟩ := out _ h; exact ⟨_, r2, a, b, c, .inl ⟨rfl, rfl⟩⟩
              case h_2 id => obtain ⟨r2, a, b, c⟩ := out _ h; exact ⟨_, r2, a, b, c, .inr (.inl ⟨id, rfl, rfl⟩)⟩
              case h_3 g => obtain ⟨r2, a, b, c⟩ := out _ h; exact ⟨_, r2, a, b, c, .inr (.inr (.inl ⟨g, rfl, rfl⟩))⟩
              case h_4 => obtain ⟨r2, a, b, c⟩ := out _ h; exact ⟨_, r2, a, b, c, .inr (.inr (.inr ⟨rfl, rfl⟩))⟩
              case h_5 => cases h
            obtain ⟨jump, r2, hr2, rfl, rfl, hex⟩ := outA
            refine ⟨by simp only [AMem.next_put]; omega, fun ι w argsC l' hl ha hm hf s fr cs hap hs => ?_⟩
            obtain ⟨j, hj, hjo, rfl⟩ := hl
            obtain ⟨cc, hcc, hor⟩ := hm.obj _ _ _ hr hj
            cases cc with
            | loop rC =>
              obtain ⟨_, hloop⟩ := hor
              replace hf : Free ι m m2 w := hf.left (by simp)
              -- the round's frame
              have hsz : argsC.size = rC.params.size := by
                have h1 := ha.length
                have h2 : rC.params.toList.length = r.params.length := by rw [hloop.params]
                simp only [Array.length_toList] at h1 h2
                omega
              have hyield : (Instr.yield j.blk argsC).run P w = .ok (.round j.blk rC.fn ((rC.params.zip argsC).foldl (fun tmps (t, a) => tmps.setIfInBounds t a) rC.tmps) rC.assign rC.body) w := by
                unfold Instr.yield
                rw [Sem.run_bind, getLoop_run hcc, Result.andThen_ok, if_neg (by simpa using hsz)]
                rfl
              have s1 := hap.round (w' := w) (by rw [hs]; exact hyield)
              generalize htm : (rC.params.zip argsC).foldl (fun tmps (t, a) => tmps.setIfInBounds t a) rC.tmps = tmps0 at s1
              have hT0 : TRel ι r.nt ((r.params.zip args).foldl (fun T (t, a) => T.set t (some a)) r.T) tmps0 := by
                rw [← htm, ← Array.foldl_toList, Array.toList_zip, hloop.params]
                exact foldl_T _ _ _ _ _ hloop.tmps ha hps
              let fr0 : Frame := Frame.round j.blk rC.fn tmps0 rC.assign rC.body .normal
              have f1 : Free ι m m1 w := hf.left (by omega)
              obtain ⟨w1, ι1, tmps1, ds1, a1, t1, d1, mr1, e1⟩ := c1 ι w fr0 [.beginRound, .code rC.body] (fr :: cs) ⟨rfl, hloop.fn, rfl, ⟨j, hj, hjo, rfl⟩, hT0, trivial, hm⟩ f1 (by rw [← hloop.assign]; rfl)
              have hds1 : ds1 = [] := by cases ds1 with | nil => rfl | cons _ _ => exact d1.elim
              subst hds1
              have hj1 := e1.sub _ _ hj
              obtain ⟨cc1, hcc1, hor1⟩ := mr1.obj _ _ _ hr1 hj1
              cases cc1 with
              | loop rC1 =>
                obtain ⟨_, hloop1⟩ := hor1
                have hbegin : (Instr.beginRound j.blk).run P w1 = .ok () (wr w1 j.blk (.loop { rC1 with state := .busy })) := by
                  unfold Instr.beginRound
                  rw [Sem.run_bind, getLoop_run hcc1, Result.andThen_ok, Sem.run_bind, run_setObj hcc1 (by simp), Result.andThen_ok, hloop1.state, hst]
                  rfl
                have mr1' : MRel ι1 (m1.put l (.loop { r1 with state := .busy })) (wr w1 j.blk (.loop { rC1 with state := .busy })) :=
                  mr1.put hr1 hj1 ⟨hjo, ⟨rfl, hloop1.pending, hloop1.fn, hloop1.tmps, hloop1.params, hloop1.assign, hloop1.body, hloop1.defers⟩⟩
                have e1' : Ext ι1 m1 (m1.put l (.loop { r1 with state := .busy })) w1 (wr w1 j.blk (.loop { rC1 with state := .busy })) ι1 := Ext.wr mr1 hr1 hj1
                have s2 : Steps P (lone fr0 (fr :: cs) w) (lone { fr0 with tmps := tmps1, defers := [], todo := [.code rC.body] } (fr :: cs) (wr w1 j.blk (.loop { rC1 with state := .busy }))) :=
                  Steps.trans a1 (.one (step_beginRound (fr := { fr0 with tmps := tmps1, defers := [], todo := [.beginRound, .code rC.body] }) rfl rfl rfl hbegin))
                have f2 : Free ι1 (m1.put l (.loop { r1 with state := .busy })) m2 (wr w1 j.blk (.loop { rC1 with state := .busy })) := (hf.right e1).right e1'
                obtain ⟨w2, ι2, tmps2, ds2, a2, t2, d2, mr2, e2⟩ := c2 ι1 _ { fr0 with tmps := tmps1, defers := [], todo := [.code rC.body] } [] (fr :: cs) ⟨rfl, hloop.fn, rfl, ⟨j, hj1, hjo, rfl⟩, t1, trivial, mr1'⟩ f2 (by rw [← hloop.body])
                have hds2 : ds2 = [] := by cases ds2 with | nil => rfl | cons _ _ => exact d2.elim
                subst hds2
                have hj2 := e2.sub _ _ hj1
                obtain ⟨cc2, hcc2, hor2⟩ := mr2.obj _ _ _ hr2 hj2
                cases cc2 with
                | loop rC2 =>
                  obtain ⟨_, hloop2⟩ := hor2
                  have hend : (Instr.endRound j.blk jump).run P w2 = .ok (.bool jump.isNone) (wr w2 j.blk (.loop { rC2 with state := if jump.isNone then .ready else .done, pending := jump })) := by
                    unfold Instr.endRound
                    rw [Sem.run_bind, getLoop_run hcc2, Result.andThen_ok, Sem.run_bind, run_setObj hcc2 (by simp)]
                    rfl
                  have endst : ∀ todo, Jump todo jump → step P (lone { fr0 with tmps := tmps2, defers := [], todo := todo } (fr :: cs) w2) = .next (lone (fr.finish (.bool jump.isNone)) cs (wr w2 j.blk (.loop { rC2 with state := if jump.isNone then .ready else .done, pending := jump }))) :=
                    fun todo hjmp => step_endRound (fr := { fr0 with tmps := tmps2, defers := [], todo := todo }) rfl rfl rfl hjmp hend
                  refine ⟨.bool jump.isNone, _, ι2, ?_, .bool _, mr2.put hr2 hj2 (c := .loop { rC2 with state := if jump.isNone then .ready else .done, pending := jump }) ⟨hjo, ⟨?_, rfl, hloop2.fn, hloop2.tmps, hloop2.params, hloop2.assign, hloop2.body, hloop2.defers⟩⟩,
                    ((e1.trans e1').trans e2).trans (Ext.wr mr2 hr2 hj2)⟩
                  · refine s1.trans (s2.trans ?_)
                    rcases hex with ⟨rfl, rfl⟩ | ⟨id, rfl, rfl⟩ | ⟨g, rfl, rfl⟩ | ⟨rfl, rfl⟩
                    · exact Steps.trans a2 (.one (endst _ .none))
                    · obtain ⟨k2, h3, h4⟩ := a2.2 rfl
                      exact h4.trans (.one (endst _ (.exit h3)))
                    · obtain ⟨k2, h3, h4⟩ := a2.2 rfl
                      exact h4.trans (.one (endst _ (.goto h3)))
                    · obtain ⟨k2, h4⟩ := a2
                      exact h4.trans (.one (endst _ (.ret _)))
                  · cases jump <;> rfl
                | _ => simp [ORel] at hor2
              | _ => simp [ORel] at hor1
            | _ => simp [ORel] at hor
end Go.Ev
