import Derived.Test.YtdgkilbimampkaaGreatEvQ
namespace Go.Ev
open Go
variable {P : Program}
section
variable {fr : Frame} {cs : List Frame} {w w' : World} {ops : Array Oper} {i : Nat} {rest : List Nat} {k : List Item} {o : Oper}

/-- a loop over a function begins -/
theorem step_rangeFunc (hm : fr.mode = .run) {f : Operand} {params : Array Tmp} {assign body : Code} (ht : fr.todo = .code (.rangeFunc f params assign body) :: k) {l : Nat} {mark : List Deferred} {w1 : World}
    (he : (Instr.enterLoop fr.fn fr.tmps params assign body fr.roundOf).run P w = .ok (l, mark) w1) {g : FuncId} {first captured : Array Value} (hf : fr.eval f = .func (.func g) first captured)
    {args : Array Value} (ha : first ++ #[.func (.yield l) #[] #[]] ++ captured = args) (hc : (callFunc g args).run P w1 = .ok (.enter g args) w1) :
    step P (lone fr cs w) = .next (lone (Frame.enter P g args .normal) ({ fr with todo := .inRangeFunc l :: k, defers := mark ++ fr.defers } :: cs) w1) :=
  step_lone_go (by
    obtain ⟨fn, tmps, todo, defers, mode, kind, roundOf⟩ := fr
    simp only at hm ht he
    subst hm; subst ht
    have hev : ∀ d t, Frame.eval ⟨fn, tmps, t, d, .run, kind, roundOf⟩ f = .func (.func g) first captured := by
      intro d t; cases f <;> exact hf
    have hr : (do let d ← resolve (Frame.eval ⟨fn, tmps, .inRangeFunc l :: k, mark ++ defers, .run, kind, roundOf⟩) { callee := .value f, args := #[.const (.func (.yield l) #[] #[])], argTypes := #[] } 0; invoke d.target d.args : Sem Next).run P w1 = .ok (.enter g args) w1 := by
      simp only [resolve, hev, Deferred.ofValue, pure_bind, invoke]
      rw [← hc, ← ha]
      have hmap : (#[Operand.const (Value.func (Fn.yield l) #[] #[])].map (Frame.eval ⟨fn, tmps, .inRangeFunc l :: k, mark ++ defers, .run, kind, roundOf⟩)) = #[.func (.yield l) #[] #[]] := by simp [Frame.eval]
      rw [hmap]
    simp only [stepG, stepG.exec, Sem.runT_eq, he, GStep.bare_after]
    rw [apply_enter (by simp) hr])

theorem step_endRangeFunc (hm : fr.mode = .run) {l : Nat} {jump : Option Code} (ht : fr.todo = .endRangeFunc l :: k) (he : (Instr.endLoop l).run P w = .ok jump w') :
    step P (lone fr cs w) = .next (lone { fr with todo := (jump.map Item.code).toList ++ k } cs w') :=
  step_lone_go (by
    obtain ⟨fn, tmps, todo, defers, mode, kind, roundOf⟩ := fr
    simp only at hm ht
    subst hm; subst ht
    simp [stepG, stepG.exec, he])

/-- the marks of loops over functions go -/
theorem step_collected (hm : fr.mode = .returning) {b : Nat} {args : Array Value} {ds calls : List Deferred} (hd : fr.defers = ⟨.collected b, args⟩ :: ds) (he : (Instr.takeDeferred b).run P w = .ok calls w') :
    step P (lone fr cs w) = .next (lone { fr with defers := calls ++ ds } cs w') :=
  step_lone_go (by
    obtain ⟨fn, tmps, todo, defers, mode, kind, roundOf⟩ := fr
    simp only at hm hd
    subst hm; subst hd
    simp [stepG, unwind, he])

/-- a communication -/
theorem step_comm (hm : fr.mode = .run) (ht : fr.todo = .inRegion ops (i :: rest) :: k) (ho : ops[i]? = some o) (hw : Region.wanted o (yielded ops fr.tmps) = true) (hd : ∀ c, o.op ≠ .defer c) {cases : Array CommCase} {b : Bool} {sh : CommShape}
    (hr : (execOp fr.eval o).run P w = .ok (.comm cases b sh) w') :
    step P (lone fr cs w) = (communicate P { timers := #[], alone := none, slice := none } #[{ (default : Goroutine) with status := .finished }] 0 { frame := fr, callers := cs, status := .running, dying := none } cases b sh w').1 := by
  have hg := stepG_op_any (P := P) (cs := cs) (w := w) hm ht ho hw hd
  have hb := apply_comm (P := P) (fr := fr) (cs := cs) hr
  rw [← hg] at hb
  generalize hs : stepG P true { frame := fr, callers := cs, status := .running, dying := none } w = s at hb
  cases s <;> simp at hb
  obtain ⟨rfl, rfl, rfl, rfl, rfl⟩ := hb
  rw [step, stepT, move_lone]
  simp [runT, lone, Array.swapAt!, hs]

theorem step_send (hm : fr.mode = .run) (ht : fr.todo = .inRegion ops (i :: rest) :: k) (ho : ops[i]? = some o) (hw : Region.wanted o (yielded ops fr.tmps) = true) (hd : ∀ c, o.op ≠ .defer c) {r cap sent rcvd : Nat} {buf : Array Value} {v z : Value}
    (hr : (execOp fr.eval o).run P w = .ok (.comm #[{ chan := .chan (some r), send := some v, zero := z }] true .send) w') (hc : w'.heap[r]? = some (.chan cap buf false sent rcvd false)) (hlt : buf.size < cap) :
    step P (lone fr cs w) = .next (lone (fr.finish undef) cs (wr w' r (.chan cap (buf.push v) false (sent + 1) rcvd false))) := by
  rw [step_comm hm ht ho hw hd hr]
  simp [communicate, hc, ways, partners, hlt, choose, Sem.run, Question.forced, Goroutine.finishComm, commResult, lone, wr, pure]

theorem step_recv (hm : fr.mode = .run) (ht : fr.todo = .inRegion ops (i :: rest) :: k) (ho : ops[i]? = some o) (hw : Region.wanted o (yielded ops fr.tmps) = true) (hd : ∀ c, o.op ≠ .defer c) {r cap sent rcvd : Nat} {buf : Array Value} {z : Value} {ok : Bool}
    (hr : (execOp fr.eval o).run P w = .ok (.comm #[{ chan := .chan (some r), send := none, zero := z }] true (.recv ok)) w') (hc : w'.heap[r]? = some (.chan cap buf false sent rcvd false)) (hlt : 0 < buf.size) :
    step P (lone fr cs w) = .next (lone (fr.finish (if ok then .tuple #[buf.getD 0 undef, .bool true] else buf.getD 0 undef)) cs (wr w' r (.chan cap (buf.extract 1 buf.size) false sent (rcvd + 1) false))) := by
  rw [step_comm hm ht ho hw hd hr]
  cases ok <;> simp [communicate, hc, ways, partners, hlt, choose, Sem.run, Question.forced, Goroutine.finishComm, commResult, lone, wr, pure]
end
end Go.Ev
