import Derived.Test.YtdgkilbimampkaaGreatEvP
namespace Go.Ev
open Go
variable {P : Program}

/-! ## The machine's steps, in whatever frame -/
section
variable {fr : Frame} {cs : List Frame} {w w' : World} {ops : Array Oper} {i : Nat} {rest : List Nat} {k : List Item} {o : Oper}

theorem stepG_run (hm : fr.mode = .run) : stepG P true { frame := fr, callers := cs, status := .running, dying := none } w = stepG.exec P true true fr cs none w := by
  obtain ⟨fn, tmps, todo, defers, mode, kind, roundOf⟩ := fr
  simp only at hm
  subst hm
  rfl

theorem stepG_op_any (hm : fr.mode = .run) (ht : fr.todo = .inRegion ops (i :: rest) :: k) (ho : ops[i]? = some o) (hw : Region.wanted o (yielded ops fr.tmps) = true) (hd : ∀ c, o.op ≠ .defer c) :
    stepG P true { frame := fr, callers := cs, status := .running, dying := none } w = stepG.apply P true fr cs none (execOp fr.eval o) w := by
  obtain ⟨fn, tmps, todo, defers, mode, kind, roundOf⟩ := fr
  simp only at hm ht hw
  subst hm; subst ht
  simp only [stepG, stepG.exec, ho, Option.map_some, hw, Option.getD_some, if_true, stepG.oper, Frame.oper?]
  cases roundOf with
  | none => rfl
  | some l =>
    obtain ⟨dst, op, type, pos, after, guard⟩ := o
    cases op <;> first | exact absurd rfl (hd _) | rfl

theorem apply_value {s : Sem Next} {v : Value} (hr : s.run P w = .ok (.value v) w') : (stepG.apply P true fr cs none s w).bare = .go { frame := fr.finish v, callers := cs, status := .running, dying := none } w' := by
  simp [stepG.apply, hr]
theorem apply_skip {s : Sem Next} (hr : s.run P w = .ok .skip w') : (stepG.apply P true fr cs none s w).bare = .go { frame := fr.finish undef, callers := cs, status := .running, dying := none } w' := by
  simp [stepG.apply, hr]
theorem apply_enter {s : Sem Next} {f : FuncId} {args : Array Value} (ht : ∀ d r sv k, fr.todo ≠ .call d true r sv :: k) (hr : s.run P w = .ok (.enter f args) w') :
    (stepG.apply P true fr cs none s w).bare = .go { frame := Frame.enter P f args .normal, callers := fr :: cs, status := .running, dying := none } w' := by
  simp only [stepG.apply, Sem.runT_eq, if_true, hr, GStep.bare_after]
  rfl
theorem apply_round {s : Sem Next} {l : Nat} {f : FuncId} {tmps : Array Value} {a b : Code} (_ht : ∀ d r sv k, fr.todo ≠ .call d true r sv :: k) (hr : s.run P w = .ok (.round l f tmps a b) w') :
    (stepG.apply P true fr cs none s w).bare = .go { frame := Frame.round l f tmps a b .normal, callers := fr :: cs, status := .running, dying := none } w' := by
  simp only [stepG.apply, Sem.runT_eq, if_true, hr, GStep.bare_after]
  rfl
theorem apply_comm {s : Sem Next} {cases : Array CommCase} {b : Bool} {sh : CommShape} (hr : s.run P w = .ok (.comm cases b sh) w') :
    (stepG.apply P true fr cs none s w).bare = .comm { frame := fr, callers := cs, status := .running, dying := none } cases b sh w' := by
  simp [stepG.apply, hr]

theorem step_unwanted (hm : fr.mode = .run) (ht : fr.todo = .inRegion ops (i :: rest) :: k) (ho : ops[i]? = some o) (hw : Region.wanted o (yielded ops fr.tmps) = false) :
    step P (lone fr cs w) = .next (lone (fr.finish undef) cs w) :=
  step_lone_go (by
    obtain ⟨fn, tmps, todo, defers, mode, kind, roundOf⟩ := fr
    simp only at hm ht hw
    subst hm; subst ht
    simp [stepG, stepG.exec, ho, hw])

theorem step_regionEnd (hm : fr.mode = .run) (ht : fr.todo = .inRegion ops [] :: k) : step P (lone fr cs w) = .next (lone { fr with todo := k } cs w) :=
  step_lone_go (by
    obtain ⟨fn, tmps, todo, defers, mode, kind, roundOf⟩ := fr
    simp only at hm ht
    subst hm; subst ht
    simp [stepG, stepG.exec])
theorem step_regionText (hm : fr.mode = .run) {id : Nat} (ht : fr.todo = .code (.region id ops false) :: k) : step P (lone fr cs w) = .next (lone { fr with todo := .inRegion ops (List.range ops.size) :: k } cs w) :=
  step_lone_go (by
    obtain ⟨fn, tmps, todo, defers, mode, kind, roundOf⟩ := fr
    simp only at hm ht
    subst hm; subst ht
    simp [stepG, stepG.exec])
theorem step_regionDraw (hm : fr.mode = .run) {id : Nat} (ht : fr.todo = .code (.region id ops true) :: k) :
    step P (lone fr cs w) = .next (lone { fr with todo := .inRegion ops (Region.schedule (P.follows .mixedOrders) ops (w.tape w.drawn (.order fr.fn id))) :: k } cs { w with drawn := w.drawn + 1 }) :=
  step_lone_go (by
    obtain ⟨fn, tmps, todo, defers, mode, kind, roundOf⟩ := fr
    simp only at hm ht
    subst hm; subst ht
    simp [stepG, stepG.exec, choose, Sem.run, Question.forced, Question.cut])
theorem step_skipCode (hm : fr.mode = .run) (ht : fr.todo = .code .skip :: k) : step P (lone fr cs w) = .next (lone { fr with todo := k } cs w) :=
  step_lone_go (by
    obtain ⟨fn, tmps, todo, defers, mode, kind, roundOf⟩ := fr
    simp only at hm ht
    subst hm; subst ht
    simp [stepG, stepG.exec])
theorem step_labelCode (hm : fr.mode = .run) {l : Nat} (ht : fr.todo = .code (.label l) :: k) : step P (lone fr cs w) = .next (lone { fr with todo := k } cs w) :=
  step_lone_go (by
    obtain ⟨fn, tmps, todo, defers, mode, kind, roundOf⟩ := fr
    simp only at hm ht
    subst hm; subst ht
    simp [stepG, stepG.exec])
theorem step_inBlock' (hm : fr.mode = .run) {l : Nat} (ht : fr.todo = .inBlock l :: k) : step P (lone fr cs w) = .next (lone { fr with todo := k } cs w) :=
  step_lone_go (by
    obtain ⟨fn, tmps, todo, defers, mode, kind, roundOf⟩ := fr
    simp only at hm ht
    subst hm; subst ht
    simp [stepG, stepG.exec])
theorem step_inScope' (hm : fr.mode = .run) {c : Code} (ht : fr.todo = .inScope c :: k) : step P (lone fr cs w) = .next (lone { fr with todo := k } cs w) :=
  step_lone_go (by
    obtain ⟨fn, tmps, todo, defers, mode, kind, roundOf⟩ := fr
    simp only at hm ht
    subst hm; subst ht
    simp [stepG, stepG.exec])
theorem step_seq' (hm : fr.mode = .run) {x y : Code} (ht : fr.todo = .code (.seq x y) :: k) : step P (lone fr cs w) = .next (lone { fr with todo := .code x :: .code y :: k } cs w) :=
  step_lone_go (by
    obtain ⟨fn, tmps, todo, defers, mode, kind, roundOf⟩ := fr
    simp only at hm ht
    subst hm; subst ht
    simp [stepG, stepG.exec])
theorem step_cond' (hm : fr.mode = .run) {c : Operand} {x y : Code} {t : Bool} (ht : fr.todo = .code (.cond c x y) :: k) (hc : fr.eval c = .bool t) : step P (lone fr cs w) = .next (lone { fr with todo := .code (if t then x else y) :: k } cs w) :=
  step_lone_go (by
    obtain ⟨fn, tmps, todo, defers, mode, kind, roundOf⟩ := fr
    simp only at hm ht
    subst hm; subst ht
    simp [stepG, stepG.exec, hc])
theorem step_block' (hm : fr.mode = .run) {id : Nat} {c : Code} (ht : fr.todo = .code (.block id c) :: k) : step P (lone fr cs w) = .next (lone { fr with todo := .code c :: .inBlock id :: k } cs w) :=
  step_lone_go (by
    obtain ⟨fn, tmps, todo, defers, mode, kind, roundOf⟩ := fr
    simp only at hm ht
    subst hm; subst ht
    simp [stepG, stepG.exec])
theorem step_loop' (hm : fr.mode = .run) {c : Code} (ht : fr.todo = .code (.loop c) :: k) : step P (lone fr cs w) = .next (lone { fr with todo := .code c :: .inLoop c :: k } cs w) :=
  step_lone_go (by
    obtain ⟨fn, tmps, todo, defers, mode, kind, roundOf⟩ := fr
    simp only at hm ht
    subst hm; subst ht
    simp [stepG, stepG.exec])
theorem step_inLoop' (hm : fr.mode = .run) {c : Code} (ht : fr.todo = .inLoop c :: k) : step P (lone fr cs w) = .next (lone { fr with todo := .code c :: .inLoop c :: k } cs w) :=
  step_lone_go (by
    obtain ⟨fn, tmps, todo, defers, mode, kind, roundOf⟩ := fr
    simp only at hm ht
    subst hm; subst ht
    simp [stepG, stepG.exec])
theorem step_scope' (hm : fr.mode = .run) {c : Code} (ht : fr.todo = .code (.scope c) :: k) : step P (lone fr cs w) = .next (lone { fr with todo := .code c :: .inScope c :: k } cs w) :=
  step_lone_go (by
    obtain ⟨fn, tmps, todo, defers, mode, kind, roundOf⟩ := fr
    simp only at hm ht
    subst hm; subst ht
    simp [stepG, stepG.exec])
theorem step_exit' (hm : fr.mode = .run) {id : Nat} {k' : List Item} (ht : fr.todo = .code (.exit id) :: k) (he : exitTo id k = some k') : step P (lone fr cs w) = .next (lone { fr with todo := k' } cs w) :=
  step_lone_go (by
    obtain ⟨fn, tmps, todo, defers, mode, kind, roundOf⟩ := fr
    simp only at hm ht
    subst hm; subst ht
    simp [stepG, stepG.exec, he])
theorem step_goto' (hm : fr.mode = .run) {l : Nat} {k' : List Item} (ht : fr.todo = .code (.goto l) :: k) (he : gotoIn l k = some k') : step P (lone fr cs w) = .next (lone { fr with todo := k' } cs w) :=
  step_lone_go (by
    obtain ⟨fn, tmps, todo, defers, mode, kind, roundOf⟩ := fr
    simp only at hm ht
    subst hm; subst ht
    simp [stepG, stepG.exec, he])

/-- the end of a function's body -/
theorem step_leave_end (hm : fr.mode = .run) (hr : fr.roundOf = none) (ht : fr.todo = []) : step P (lone fr cs w) = .next (lone { fr with mode := .returning } cs w) :=
  step_lone_go (by
    obtain ⟨fn, tmps, todo, defers, mode, kind, roundOf⟩ := fr
    simp only at hm hr ht
    subst hm; subst hr; subst ht
    simp [stepG, stepG.exec])
theorem step_leave_ret (hm : fr.mode = .run) (hr : fr.roundOf = none) (ht : fr.todo = .code .ret :: k) : step P (lone fr cs w) = .next (lone { fr with mode := .returning } cs w) :=
  step_lone_go (by
    obtain ⟨fn, tmps, todo, defers, mode, kind, roundOf⟩ := fr
    simp only at hm hr ht
    subst hm; subst hr; subst ht
    simp [stepG, stepG.exec])

/-- what a round's end is told -/
inductive Jump : List Item → Option Code → Prop where
  | none : Jump [] none
  | ret (k : List Item) : Jump (.code .ret :: k) (some .ret)
  | exit {k : List Item} {id : Nat} (he : exitTo id k = none) : Jump (.code (.exit id) :: k) (some (.exit id))
  | goto {k : List Item} {l : Nat} (he : gotoIn l k = none) : Jump (.code (.goto l) :: k) (some (.goto l))

theorem step_endRound (hm : fr.mode = .run) {l : Nat} (hr : fr.roundOf = some l) (hk : fr.kind = .normal) {c : Frame} {jump : Option Code} {v : Value} (hj : Jump fr.todo jump) (he : (Instr.endRound l jump).run P w = .ok v w') :
    step P (lone fr (c :: cs) w) = .next (lone (c.finish v) cs w') :=
  step_lone_go (by
    obtain ⟨fn, tmps, todo, defers, mode, kind, roundOf⟩ := fr
    simp only at hm hr hk hj
    subst hm; subst hr; subst hk
    cases hj with
    | none => simp [stepG, stepG.exec, he, doReturn]
    | ret => simp [stepG, stepG.exec, he, doReturn]
    | exit hx => simp [stepG, stepG.exec, he, doReturn, hx]
    | goto hx => simp [stepG, stepG.exec, he, doReturn, hx])

theorem step_beginRound (hm : fr.mode = .run) {l : Nat} (hr : fr.roundOf = some l) (ht : fr.todo = .beginRound :: k) (hb : (Instr.beginRound l).run P w = .ok () w') :
    step P (lone fr cs w) = .next (lone { fr with todo := k } cs w') :=
  step_lone_go (by
    obtain ⟨fn, tmps, todo, defers, mode, kind, roundOf⟩ := fr
    simp only at hm hr ht
    subst hm; subst hr; subst ht
    simp [stepG, stepG.exec, stepG.apply, hb, Frame.finish])
end
end Go.Ev
