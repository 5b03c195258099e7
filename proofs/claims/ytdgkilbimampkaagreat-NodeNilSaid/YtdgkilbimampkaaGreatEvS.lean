import Derived.Test.YtdgkilbimampkaaGreatEvR
namespace Go.Ev
open Go
variable {P : Program} [Base]

def DRel (ι : Inj) : List Nat → List Deferred → Prop
  | [], [] => True
  | d :: D, c :: ds => (∃ j, ι d = some j ∧ j.off = 0 ∧ c = ⟨.collected j.blk, #[]⟩) ∧ DRel ι D ds
  | _, _ => False

omit [Base] in
theorem DRel.mono {ι ι' : Inj} (hi : ∀ b j, ι b = some j → ι' b = some j) : ∀ {D : List Nat} {ds : List Deferred}, DRel ι D ds → DRel ι' D ds
  | [], [], _ => trivial
  | _ :: _, _ :: _, ⟨⟨j, h1, h2⟩, h3⟩ => ⟨⟨j, hi _ _ h1, h2⟩, DRel.mono hi h3⟩
  | [], _ :: _, h => h.elim
  | _ :: _, [], h => h.elim

def Arr (P : Program) (M : Machine) (fr : Frame) (k : List Item) (cs : List Frame) (ex : Exit) (tmps : Array Value) (defers : List Deferred) (w : World) : Prop :=
  match ex with
  | .normal => Steps P M (lone { fr with tmps := tmps, defers := defers, todo := k } cs w)
  | .ret => ∃ k2, Steps P M (lone { fr with tmps := tmps, defers := defers, todo := .code .ret :: k2 } cs w)
  | .exit id => (∀ k', exitTo id k = some k' → Steps P M (lone { fr with tmps := tmps, defers := defers, todo := k' } cs w)) ∧
      (exitTo id k = none → ∃ k2, exitTo id k2 = none ∧ Steps P M (lone { fr with tmps := tmps, defers := defers, todo := .code (.exit id) :: k2 } cs w))
  | .goto l => (∀ k', gotoIn l k = some k' → Steps P M (lone { fr with tmps := tmps, defers := defers, todo := k' } cs w)) ∧
      (gotoIn l k = none → ∃ k2, gotoIn l k2 = none ∧ Steps P M (lone { fr with tmps := tmps, defers := defers, todo := .code (.goto l) :: k2 } cs w))
  | _ => False

/-- a function's call is as told -/
def CallSound (P : Program) (R : Rec) : Prop := ∀ f args m v m', R.call f args m = some (v, m') → m.next ≤ m'.next ∧
  ∀ ι w (argsC : Array Value), LRel ι args argsC.toList → MRel ι m w → Free ι m m' w → ∀ cs, ∃ vC w' ι' fr,
    Steps P (lone (Frame.enter P f argsC .normal) cs w) (lone fr cs w') ∧ fr.leaving P w' (.returned vC) ∧ fr.fn = f ∧ VRel ι' v vC ∧ MRel ι' m' w' ∧ Ext ι m m' w w' ι'

def ToldSound (P : Program) (R : Rec) : Prop := ∀ op vals v, R.told op vals = some v → ∀ ι, (∀ b j, Base.ι0 b = some j → ι b = some j) →
  ∀ (o : Oper) (ρ ρ' : Operand → Value), o.op = op → o.op.operands.toList.map ρ = vals → (∀ x ∈ o.op.operands, VRel ι (ρ x) (ρ' x)) → ∀ w, ∃ v', (execOp ρ' o).run P w = .ok (.value v') w ∧ VRel ι v v'

theorem pureX_run {R : Rec} (hP : ToldSound P R) {ι : Inj} (hι : ∀ b j, Base.ι0 b = some j → ι b = some j) {o : Oper} {ρ ρ' : Operand → Value} {v : Value} (h : ∀ x ∈ o.op.operands, VRel ι (ρ x) (ρ' x)) (hcls : cls P o = .pure) (hp : pureX P R ρ o = some v) (w : World) :
    ∃ v', (execOp ρ' o).run P w = .ok (.value v') w ∧ VRel ι v v' := by
  unfold pureX at hp
  split at hp
  case h_1 r hr => cases hp; exact pure_run h hcls hr w
  case h_2 => exact hP _ _ _ hp ι hι o ρ ρ' rfl rfl h w

structure CodeIn (ι : Inj) (fn : FuncId) (nt : Nat) (rd : Option Nat) (T : Tr Value) (D : List Nat) (m : AMem) (fr : Frame) (w : World) : Prop where
  mode : fr.mode = .run
  fn : fr.fn = fn
  kind : fr.kind = .normal
  rd : MoRel ι rd fr.roundOf
  tmps : TRel ι nt T fr.tmps
  defers : DRel ι D fr.defers
  mem : MRel ι m w

def CodeRuns (P : Program) (fn : FuncId) (nt : Nat) (rd : Option Nat) (c : Code) (T : Tr Value) (D : List Nat) (m : AMem) (ex : Exit) (T' : Tr Value) (D' : List Nat) (m' : AMem) : Prop :=
  m.next ≤ m'.next ∧ ∀ ι w fr k cs, CodeIn ι fn nt rd T D m fr w → Free ι m m' w → fr.todo = .code c :: k →
    ∃ w' ι' tmps' ds', Arr P (lone fr cs w) fr k cs ex tmps' ds' w' ∧ TRel ι' nt T' tmps' ∧ DRel ι' D' ds' ∧ MRel ι' m' w' ∧ Ext ι m m' w w' ι'

def CodeSound (P : Program) (R : Rec) : Prop := ∀ fn nt rd c T D m ex T' D' m', R.code fn nt rd c T D m = some (ex, T', D', m') → CodeRuns P fn nt rd c T D m ex T' D' m'

/-- the rest of a scope's body -/
def ScopeRuns (P : Program) (fn : FuncId) (nt : Nat) (rd : Option Nat) (body cur : Code) (T : Tr Value) (D : List Nat) (m : AMem) (ex : Exit) (T' : Tr Value) (D' : List Nat) (m' : AMem) : Prop :=
  m.next ≤ m'.next ∧ ∀ ι w fr k cs, CodeIn ι fn nt rd T D m fr w → Free ι m m' w → fr.todo = .code cur :: .inScope body :: k →
    ∃ w' ι' tmps' ds', Arr P (lone fr cs w) fr k cs ex tmps' ds' w' ∧ TRel ι' nt T' tmps' ∧ DRel ι' D' ds' ∧ MRel ι' m' w' ∧ Ext ι m m' w w' ι'
def ScopeSound (P : Program) (R : Rec) : Prop := ∀ fn nt rd body cur T D m ex T' D' m', R.scope fn nt rd body cur T D m = some (ex, T', D', m') → ScopeRuns P fn nt rd body cur T D m ex T' D' m'

/-- a loop's rounds behind the first -/
def LoopRuns (P : Program) (fn : FuncId) (nt : Nat) (rd : Option Nat) (body : Code) (T : Tr Value) (D : List Nat) (m : AMem) (ex : Exit) (T' : Tr Value) (D' : List Nat) (m' : AMem) : Prop :=
  m.next ≤ m'.next ∧ ∀ ι w fr k cs, CodeIn ι fn nt rd T D m fr w → Free ι m m' w → fr.todo = .inLoop body :: k →
    ∃ w' ι' tmps' ds', Arr P (lone fr cs w) fr k cs ex tmps' ds' w' ∧ TRel ι' nt T' tmps' ∧ DRel ι' D' ds' ∧ MRel ι' m' w' ∧ Ext ι m m' w w' ι'
def LoopSound (P : Program) (R : Rec) : Prop := ∀ fn nt rd body T D m ex T' D' m', R.again fn nt rd body T D m = some (ex, T', D', m') → LoopRuns P fn nt rd body T D m ex T' D' m'

/-! ## What an operation's Sem does in its frame -/
/-- the frame's next step is to apply s -/
def Applies (P : Program) (fr : Frame) (cs : List Frame) (s : Sem Next) (w : World) : Prop :=
  fr.mode = .run ∧ (∃ ops i rest k, fr.todo = .inRegion ops (i :: rest) :: k) ∧ stepG P true { frame := fr, callers := cs, status := .running, dying := none } w = stepG.apply P true fr cs none s w

/-- a result, its memory -/
def Comes' (P : Program) (ι : Inj) (m m' : AMem) (w : World) (fr : Frame) (cs : List Frame) (v : Value) : Prop :=
  ∃ v' w' ι', Steps P (lone fr cs w) (lone (fr.finish v') cs w') ∧ VRel ι' v v' ∧ MRel ι' m' w' ∧ Ext ι m m' w w' ι'

omit [Base] in
theorem Applies.value {fr : Frame} {cs : List Frame} {s : Sem Next} {w w' : World} {v : Value} (h : Applies P fr cs s w) (hr : s.run P w = .ok (.value v) w') : Steps P (lone fr cs w) (lone (fr.finish v) cs w') :=
  .one (step_lone_go (by rw [h.2.2]; exact apply_value hr))
omit [Base] in
theorem Applies.skip {fr : Frame} {cs : List Frame} {s : Sem Next} {w w' : World} (h : Applies P fr cs s w) (hr : s.run P w = .ok .skip w') : Steps P (lone fr cs w) (lone (fr.finish undef) cs w') :=
  .one (step_lone_go (by rw [h.2.2]; exact apply_skip hr))
omit [Base] in
theorem Applies.enter {fr : Frame} {cs : List Frame} {s : Sem Next} {w w' : World} {f : FuncId} {args : Array Value} (h : Applies P fr cs s w) (hr : s.run P w = .ok (.enter f args) w') :
    Steps P (lone fr cs w) (lone (Frame.enter P f args .normal) (fr :: cs) w') := by
  obtain ⟨_, ⟨ops, i, rest, k, ht⟩, hg⟩ := h
  exact .one (step_lone_go (by rw [hg]; exact apply_enter (by rw [ht]; simp) hr))
omit [Base] in
theorem Applies.round {fr : Frame} {cs : List Frame} {s : Sem Next} {w w' : World} {l : Nat} {f : FuncId} {tmps : Array Value} {a b : Code} (h : Applies P fr cs s w) (hr : s.run P w = .ok (.round l f tmps a b) w') :
    Steps P (lone fr cs w) (lone (Frame.round l f tmps a b .normal) (fr :: cs) w') := by
  obtain ⟨_, ⟨ops, i, rest, k, ht⟩, hg⟩ := h
  exact .one (step_lone_go (by rw [hg]; exact apply_round (by rw [ht]; simp) hr))

omit [Base] in
theorem applies_op {fr : Frame} {cs : List Frame} {w : World} {ops : Array Oper} {i : Nat} {rest : List Nat} {k : List Item} {o : Oper} (hm : fr.mode = .run) (ht : fr.todo = .inRegion ops (i :: rest) :: k) (ho : ops[i]? = some o)
    (hw : Region.wanted o (yielded ops fr.tmps) = true) (hd : ∀ c, o.op ≠ .defer c) : Applies P fr cs (execOp fr.eval o) w :=
  ⟨hm, ⟨_, _, _, _, ht⟩, stepG_op_any hm ht ho hw hd⟩

omit [Base] in
theorem run_callFunc_enter {f : FuncId} {fn : Func} {c : Code} (hf : P.funcs[f]? = some fn) (hn : (fn.name == "runtime.NumGoroutine") = false) (hb : fn.body = some c) (args : Array Value) (w : World) :
    (callFunc f args).run P w = .ok (.enter f args) w := by
  have hn' : ¬ fn.name = "runtime.NumGoroutine" := by simpa using hn
  unfold callFunc
  simp [hf, hn', hb]

omit [Base] in
theorem run_callFunc_extern {f : FuncId} {fn : Func} {e : Array Value → Sem Value} {args : Array Value} {v : Value} {w : World} (hf : P.funcs[f]? = some fn) (hn : (fn.name == "runtime.NumGoroutine") = false) (hb : fn.body = none)
    (h1 : Extern.findNext fn = none) (h2 : Extern.find fn = some e) (hr : (e args).run P w = .ok v w) : (callFunc f args).run P w = .ok (.value v) w := by
  have hn' : ¬ fn.name = "runtime.NumGoroutine" := by simpa using hn
  unfold callFunc
  simp [hf, hn', hb, h1, h2, hr]

theorem enterA_step {R : Rec} (hR : CallSound P R) {f : FuncId} {args : List Value} {m m' : AMem} {v : Value} (h : enterA P R f args m = some (v, m')) :
    m.next ≤ m'.next ∧ ∀ ι w (argsC : Array Value), LRel ι args argsC.toList → MRel ι m w → Free ι m m' w → ∀ s fr cs, Applies P fr cs s w → s.run P w = (callFunc f argsC).run P w → Comes' P ι m m' w fr cs v := by
  unfold enterA at h
  simp only [Option.bind_eq_bind, Option.bind_eq_some_iff] at h
  obtain ⟨fn, hfn, h⟩ := h
  cases hn : fn.name == "runtime.NumGoroutine" with
  | true => rw [hn] at h; cases h
  | false =>
    rw [hn, cond_false] at h
    cases hb : fn.body with
    | none =>
      rw [hb] at h
      simp only [Option.map_eq_some_iff] at h
      obtain ⟨v1, hv, h⟩ := h
      cases h
      refine ⟨Nat.le_refl _, fun ι w argsC ha hm _ s fr cs hap hs => ?_⟩
      unfold externA at hv
      obtain ⟨hc, hv⟩ := cond_some hv
      simp only [Bool.and_eq_true, Option.isNone_iff_eq_none] at hc
      split at hv
      case h_2 => cases hv
      case h_1 e he =>
        split at hv
        case h_2 => cases hv
        case h_1 v2 hr =>
          obtain ⟨hg, hv⟩ := cond_some hv
          cases hv
          have hargs : argsC = args.toArray := by
            have := ground_all hc.1 ha
            rw [← this]
          refine ⟨v, w, ι, hap.value (w' := w) ?_, ground_rel ι hg, hm, Ext.refl _ _ _⟩
          rw [hs, hargs]
          exact run_callFunc_extern hfn hn hb hc.2 he (runP_run P hr w)
    | some c =>
      rw [hb] at h
      obtain ⟨h1, h2⟩ := hR _ _ _ _ _ h
      refine ⟨h1, fun ι w argsC ha hm hf s fr cs hap hs => ?_⟩
      obtain ⟨vC, w', ι', fr', st, hl, hfn', hv, hm', he⟩ := h2 ι w argsC ha hm hf (fr :: cs)
      refine ⟨vC, w', ι', ?_, hv, hm', he⟩
      have s1 := hap.enter (w' := w) (f := f) (args := argsC) (by rw [hs]; exact run_callFunc_enter hfn hn hb argsC w)
      exact s1.trans (st.trans (.one (step_leave_returned hl)))
end Go.Ev
