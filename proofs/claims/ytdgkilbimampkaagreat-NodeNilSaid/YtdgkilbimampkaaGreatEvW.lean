import Derived.Test.YtdgkilbimampkaaGreatEvV
namespace Go.Ev
open Go
variable {P : Program} [Base]

def putC (tmps : Array Value) (d : Option Tmp) (v : Value) : Array Value := match d with | some d => tmps.setIfInBounds d v | none => tmps

omit [Base] in
theorem finish_at {fr : Frame} {ops : Array Oper} {i : Nat} {rest : List Nat} {k : List Item} {o : Oper} (ht : fr.todo = .inRegion ops (i :: rest) :: k) (ho : ops[i]? = some o) (v : Value) :
    fr.finish v = { fr with tmps := putC fr.tmps o.dst v, todo := .inRegion ops rest :: k } := by
  unfold Frame.finish
  rw [ht]
  simp only [ho, Option.bind_some]
  cases o.dst <;> rfl

omit [Base] in
theorem putT_rel {ι : Inj} {nt : Nat} {T T' : Tr Value} {tmps : Array Value} {d : Option Tmp} {v v' : Value} (h : TRel ι nt T tmps) (hv : VRel ι v v') (hp : putT nt T d v = some T') :
    TRel ι nt T' (putC tmps d v') := by
  unfold putT at hp
  cases d with
  | none => cases hp; exact h
  | some d =>
    obtain ⟨hd, hp⟩ := cond_some hp
    cases hp
    exact h.set (Nat.le_of_ble_eq_true hd) hv

omit [Base] in
theorem want_rel {ι : Inj} {want b : Bool} {x y : Option Value} (hw : wantV want x = some b) : VRel ι (x.getD undef) (y.getD undef) → ((match y with | some (.bool b) => some b | _ => none) == some want) = b := by
  intro h
  cases x with
  | none =>
    cases hw
    cases y with
    | none => rfl
    | some y => simp only [Option.getD_none, Option.getD_some] at h; cases h; rfl
  | some x =>
    cases y with
    | none =>
      simp only [Option.getD_none, Option.getD_some] at h
      unfold undef at h
      cases h with
      | tuple h => cases hw; rfl
      | hole _ _ _ _ _ => cases hw
    | some y =>
      simp only [Option.getD_some] at h
      cases h with
      | bool c => cases hw; cases c <;> cases want <;> rfl
      | hole _ _ _ _ _ => cases hw
      | _ => cases hw; rfl

omit [Base] in
theorem wantA_eq {ι : Inj} {nt : Nat} {T : Tr Value} {tmps : Array Value} (h : TRel ι nt T tmps) (ops : Array Oper) (o : Oper) {b : Bool} (hw : wantA ops.toList T o = some b) : Region.wanted o (yielded ops tmps) = b := by
  unfold wantA at hw
  unfold Region.wanted
  cases hg : o.guard with
  | none => rw [hg] at hw; cases hw; rfl
  | some g =>
    obtain ⟨j, want⟩ := g
    rw [hg] at hw
    simp only [yielded, nth_eq, Array.getElem?_toList] at hw ⊢
    cases hd : (ops[j]?).bind (·.dst) with
    | none => rw [hd] at hw; cases hw; rfl
    | some d =>
      rw [hd] at hw
      simp only [Option.bind_some] at hw ⊢
      have hr := h.rel d
      rw [Array.getD_eq_getD_getElem?] at hr
      exact want_rel hw hr

omit [Base] in
theorem made_step {ι : Inj} {m : AMem} {w : World} {x : AObj} {f : Nat → Value} {s : Sem Next} {fr : Frame} {cs : List Frame} (hm : MRel ι m w) (hf : ι m.next = none) (h : Made P ι x f s w) (ha : Applies P fr cs s w) : Comes' P ι m (m.new x) w fr cs (f m.next) := by
  obtain ⟨c, v', w1, j, h1, h2, h3, h4, h5, h6, h7⟩ := h
  obtain ⟨h8, h9⟩ := h7 _ hf
  exact ⟨v', w1, _, ha.value h1, h9, (hm.new hf h6 h8).of_heap h2, (Ext.alloc hf h6).of_heap h2 h3 h4 h5⟩

omit [Base] in
theorem cls_nodefer {o : Oper} (h : cls P o ≠ .write) : ∀ c, o.op ≠ .defer c := by
  intro c e
  apply h
  unfold cls
  rw [e]

theorem op_step {R : Rec} (hR : CallSound P R) (hC : CodeSound P R) (hP : ToldSound P R) {T : Tr Value} {m m' : AMem} {o : Oper} {v : Value} (h : opA P R T m o = some (v, m')) :
    m.next ≤ m'.next ∧ ∀ ι w fr cs nt, At P fr o → TRel ι nt T fr.tmps → MRel ι m w → Free ι m m' w → Comes' P ι m m' w fr cs v := by
  unfold opA at h
  obtain ⟨hok, h⟩ := cond_some h
  have hok : ∀ x ∈ o.op.operands, okOpnd x = true := Array.all_eq_true_iff_forall_mem.1 hok
  split at h
  case h_1 hc =>
    obtain ⟨v1, h1, h⟩ := Option.map_eq_some_iff.1 h
    cases h
    refine ⟨Nat.le_refl _, fun ι w fr cs nt hat hT hm hf => ?_⟩
    obtain ⟨v', r1, r2⟩ := pureX_run hP hf.old (fun x hx => opnd_rel hT (hok x hx)) hc h1 w
    exact ⟨v', w, ι, (hat.applies (cls_nodefer (by rw [hc]; simp)) cs w).value r1, r2, hm, Ext.refl _ _ _⟩
  case h_2 hc =>
    obtain ⟨⟨x, f⟩, h1, h⟩ := Option.map_eq_some_iff.1 h
    cases h
    refine ⟨by simp, fun ι w fr cs nt hat hT hm hf => ?_⟩
    exact made_step hm (hf _ (Nat.le_refl _) (by simp)) (alloc_run (fun x hx => opnd_rel hT (hok x hx)) h1 w) (hat.applies (cls_nodefer (by rw [hc]; simp)) cs w)
  case h_3 hc =>
    obtain ⟨v1, h1, h⟩ := Option.map_eq_some_iff.1 h
    cases h
    refine ⟨Nat.le_refl _, fun ι w fr cs nt hat hT hm hf => ?_⟩
    obtain ⟨v', r1, r2⟩ := read_run hm.obj (fun x hx => opnd_rel hT (hok x hx)) h1
    exact ⟨v', w, ι, (hat.applies (cls_nodefer (by rw [hc]; simp)) cs w).value r1, r2, hm, Ext.refl _ _ _⟩
  case h_4 hc =>
    obtain ⟨h1, h2⟩ := write_step hR hC h
    exact ⟨h1, fun ι w fr cs nt hat hT hm hf => h2 ι w fr cs hat (fun x hx => opnd_rel hT (hok x hx)) hm hf⟩

/-- what a region does -/
def RegRuns (P : Program) (nt : Nat) (ops : Array Oper) (l : List Nat) (T : Tr Value) (m : AMem) (T' : Tr Value) (m' : AMem) : Prop :=
  m.next ≤ m'.next ∧ ∀ ι w fr k cs, fr.mode = .run → TRel ι nt T fr.tmps → MRel ι m w → Free ι m m' w → fr.todo = .inRegion ops l :: k →
    ∃ w' ι' tmps', Steps P (lone fr cs w) (lone { fr with tmps := tmps', todo := .inRegion ops [] :: k } cs w') ∧ TRel ι' nt T' tmps' ∧ MRel ι' m' w' ∧ Ext ι m m' w w' ι'

theorem seqA_runs {R : Rec} (hR : CallSound P R) (hC : CodeSound P R) (hP : ToldSound P R) {nt : Nat} {ops : Array Oper} : ∀ (l : List Oper) (i : Nat) (T : Tr Value) (m : AMem) (T' : Tr Value) (m' : AMem), ops.toList.drop i = l → seqA P R nt ops.toList l T m = some (T', m') →
    RegRuns P nt ops (List.range' i l.length) T m T' m'
  | [], i, T, m, T', m', _, h => by
    simp only [seqA, Option.some.injEq, Prod.mk.injEq] at h
    obtain ⟨rfl, rfl⟩ := h
    refine ⟨Nat.le_refl _, fun ι w fr k cs hmode hT hm hf ht => ⟨w, ι, fr.tmps, ?_, hT, hm, Ext.refl _ _ _⟩⟩
    have : fr = { fr with tmps := fr.tmps, todo := .inRegion ops [] :: k } := by
      obtain ⟨fn, tmps, todo, defers, mode, kind, roundOf⟩ := fr
      simp only at ht
      subst ht; rfl
    rw [← this]
    exact .refl _ _
  | o :: l, i, T, m, T', m', hl, h => by
    have ho : ops[i]? = some o := by
      rw [← Array.getElem?_toList]
      have := congrArg (fun l => l[0]?) hl
      simpa using this
    have hl' : ops.toList.drop (i + 1) = l := by
      rw [← List.drop_drop, hl]; rfl
    simp only [seqA] at h
    cases hw : wantA ops.toList T o with
    | none => rw [hw] at h; cases h
    | some bw => cases bw with
    | true =>
      rw [hw] at h
      simp only [Option.bind_eq_bind, Option.bind_eq_some_iff] at h
      obtain ⟨⟨v, m1⟩, h1, T1, h2, h3⟩ := h
      obtain ⟨n1, o1⟩ := op_step hR hC hP h1
      obtain ⟨n2, o2⟩ := seqA_runs hR hC hP l (i + 1) T1 m1 T' m' hl' h3
      refine ⟨by omega, fun ι w fr k cs hmode hT hm hf ht => ?_⟩
      have hat : At P fr o := ⟨hmode, ops, i, _, k, ht, ho, wantA_eq hT ops o hw⟩
      obtain ⟨v', w1, ι1, s1, v1, m1r, e1⟩ := o1 ι w fr cs nt hat hT hm (hf.left (by omega))
      rw [finish_at ht ho] at s1
      obtain ⟨w2, ι2, tmps2, s2, t2, m2r, e2⟩ := o2 ι1 w1 { fr with tmps := putC fr.tmps o.dst v', todo := .inRegion ops (List.range' (i + 1) l.length) :: k } k cs hmode (putT_rel (hT.mono e1.sub) v1 h2) m1r (hf.right e1) rfl
      exact ⟨w2, ι2, tmps2, s1.trans s2, t2, m2r, e1.trans e2⟩
    | false =>
      rw [hw] at h
      simp only [Option.bind_eq_bind, Option.bind_eq_some_iff] at h
      obtain ⟨T1, h2, h3⟩ := h
      obtain ⟨n2, o2⟩ := seqA_runs hR hC hP l (i + 1) T1 m T' m' hl' h3
      refine ⟨n2, fun ι w fr k cs hmode hT hm hf ht => ?_⟩
      have s1 : Steps P (lone fr cs w) (lone (fr.finish undef) cs w) := .one (step_unwanted hmode ht ho (wantA_eq hT ops o hw))
      rw [finish_at ht ho] at s1
      obtain ⟨w2, ι2, tmps2, s2, t2, m2r, e2⟩ := o2 ι w { fr with tmps := putC fr.tmps o.dst undef, todo := .inRegion ops (List.range' (i + 1) l.length) :: k } k cs hmode (putT_rel hT (vrel_undef _) h2) hm hf rfl
      exact ⟨w2, ι2, tmps2, s1.trans s2, t2, m2r, e2⟩

/-- what has to be known of the program -/
structure Fit (P : Program) : Prop where
  mixed : P.follows .mixedOrders = true

/-- a region that draws, in whatever order -/
def DrawRuns (P : Program) (nt : Nat) (ops : Array Oper) (T : Tr Value) (m : AMem) (T' : Tr Value) (m' : AMem) : Prop :=
  m.next ≤ m'.next ∧ ∀ ι w fr k cs (t : Nat), fr.mode = .run → TRel ι nt T fr.tmps → MRel ι m w → Free ι m m' w → fr.todo = .inRegion ops (Region.linearise .any ops t) :: k →
    ∃ w' ι' tmps', Steps P (lone fr cs w) (lone { fr with tmps := tmps', todo := .inRegion ops [] :: k } cs w') ∧ TRel ι' nt T' tmps' ∧ MRel ι' m' w' ∧ Ext ι m m' w w' ι'

theorem regionA_code {R : Rec} (hfit : Fit P) (hR : CallSound P R) (hC : CodeSound P R) (hP : ToldSound P R) (hD : ∀ nt ops T m T' m', drawA P R nt (Array.toList ops) T m = some (T', m') → DrawRuns P nt ops T m T' m') {fn : FuncId} {nt : Nat} {rd : Option Nat} {id : Nat} {ops : Array Oper} {draw : Bool} {T : Tr Value} {D : List Nat} {m : AMem} {T' : Tr Value} {m' : AMem}
    (h : regionA P R nt ops draw T m = some (T', m')) : CodeRuns P fn nt rd (.region id ops draw) T D m .normal T' D m' := by
  unfold regionA at h
  cases draw with
  | true =>
    rw [cond_true] at h
    obtain ⟨n1, o1⟩ := hD _ _ _ _ _ _ h
    refine ⟨n1, fun ι w fr k cs hin hf ht => ?_⟩
    have s1 := step_regionDraw (P := P) (cs := cs) (w := w) hin.mode ht
    rw [hfit.mixed] at s1
    obtain ⟨w2, ι2, tmps2, s2, t2, m2, e2⟩ := o1 ι w.drew { fr with todo := .inRegion ops (Region.linearise .any ops (w.tape w.drawn (.order fr.fn id))) :: k } k cs _ hin.mode hin.tmps hin.mem.drew (hf.to (Nat.le_refl _) rfl) rfl
    refine ⟨w2, ι2, tmps2, fr.defers, ?_, t2, hin.defers.mono e2.sub, m2, ?_⟩
    · refine Steps.head (m₁ := _) s1 ?_
      have hs : Region.schedule true ops (w.tape w.drawn (.order fr.fn id)) = Region.linearise .any ops (w.tape w.drawn (.order fr.fn id)) := by simp [Region.schedule]
      rw [hs]
      exact s2.trans (.one (step_regionEnd (fr := { fr with tmps := tmps2, todo := .inRegion ops [] :: k }) hin.mode rfl))
    · exact ⟨e2.next, e2.sub, e2.out, e2.new, e2.size, e2.keep, e2.os, e2.tape, e2.output⟩
  | false =>
    rw [cond_false] at h
    obtain ⟨n1, o1⟩ := seqA_runs hR hC hP ops.toList 0 T m T' m' (by simp) h
    refine ⟨n1, fun ι w fr k cs hin hf ht => ?_⟩
    have s1 := step_regionText (P := P) (cs := cs) (w := w) hin.mode ht
    have hr : List.range ops.size = List.range' 0 ops.toList.length := by rw [List.range_eq_range']; simp
    rw [hr] at s1
    obtain ⟨w2, ι2, tmps2, s2, t2, m2, e2⟩ := o1 ι w { fr with todo := .inRegion ops (List.range' 0 ops.toList.length) :: k } k cs hin.mode hin.tmps hin.mem hf rfl
    exact ⟨w2, ι2, tmps2, fr.defers, Steps.head s1 (s2.trans (.one (step_regionEnd (fr := { fr with tmps := tmps2, todo := .inRegion ops [] :: k }) hin.mode rfl))), t2, hin.defers.mono e2.sub, m2, e2⟩
end Go.Ev
