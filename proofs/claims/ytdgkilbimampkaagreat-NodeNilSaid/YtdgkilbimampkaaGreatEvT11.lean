import Derived.Test.YtdgkilbimampkaaGreatEvT10
namespace Go.Ev
open Go Go.RowKit
variable {P : Program}

noncomputable def optR {α β : Type} (x : Option α) (f : α → Option β) : Option β := @Option.rec α (fun _ => Option β) none f x
theorem optR_eq {α β : Type} (x : Option α) (f : α → Option β) : optR x f = x.bind f := by cases x <;> rfl

noncomputable def putQ (nt : Nat) (T : Tr Value) (d : Option Tmp) (v : Value) : Option (Tr Value) :=
  @Option.rec Tmp (fun _ => Option (Tr Value)) (some T) (fun d => when (Nat.blt d nt) (some (T.setQ d (some v)))) d
theorem putQ_eq (nt : Nat) (T : Tr Value) (d : Option Tmp) (v : Value) : putQ nt T d v = putT nt T d v := by
  cases d with
  | none => rfl
  | some d =>
    show when (Nat.blt d nt) (some (T.setQ d (some v))) = bif Nat.blt d nt then some (T.set d (some v)) else none
    rw [Tr.setQ_eq]
    cases Nat.blt d nt <;> rfl

def guardSlot (ops : List Oper) (j : Nat) : Option Tmp := (nth ops j).bind (·.dst)
noncomputable def wantQ (ops : List Oper) (T : Tr Value) (g : Option (Nat × Bool)) : Option Bool :=
  @Option.rec (Nat × Bool) (fun _ => Option Bool) (some true) (fun g => wantV g.2 (optR (guardSlot ops g.1) T.getF)) g
theorem wantQ_eq (ops : List Oper) (T : Tr Value) (o : Oper) : wantQ ops T o.guard = wantA ops T o := by
  unfold wantA
  cases o.guard with
  | none => rfl
  | some g =>
    show wantV g.2 (optR (guardSlot ops g.1) T.getF) = wantV g.2 (((nth ops g.1).bind (·.dst)).bind T.get)
    rw [optR_eq, show T.getF = T.get from funext (Tr.getF_eq T)]
    rfl

noncomputable def seqQ (P : Program) (R : Rec) (nt : Nat) (ops : List Oper) (l : List Oper) : Tr Value → AMem → Option (Tr Value × AMem) :=
  @List.rec Oper (fun _ => Tr Value → AMem → Option (Tr Value × AMem)) (fun T m => some (T, m)) (fun o _ ih T m =>
    @Option.rec Bool (fun _ => Option (Tr Value × AMem)) none (fun w => @Bool.rec (fun _ => Option (Tr Value × AMem))
      (optR (putQ nt T o.dst undef) fun T => ih T m)
      (optR (opQ P R T m o) fun r => @Prod.rec Value AMem (fun _ => Option (Tr Value × AMem)) (fun v m => optR (putQ nt T o.dst v) fun T => ih T m) r) w) (wantQ ops T o.guard)) l
theorem seqQ_eq (R : Rec) (nt : Nat) (ops : List Oper) (l : List Oper) : ∀ T m, seqQ P R nt ops l T m = seqA P R nt ops l T m := by
  induction l with
  | nil => intro T m; rfl
  | cons o l ih =>
    intro T m
    show @Option.rec Bool (fun _ => Option (Tr Value × AMem)) none (fun w => @Bool.rec (fun _ => Option (Tr Value × AMem))
      (optR (putQ nt T o.dst undef) fun T => seqQ P R nt ops l T m)
      (optR (opQ P R T m o) fun r => @Prod.rec Value AMem (fun _ => Option (Tr Value × AMem)) (fun v m => optR (putQ nt T o.dst v) fun T => seqQ P R nt ops l T m) r) w) (wantQ ops T o.guard) = _
    rw [wantQ_eq]
    unfold seqA
    cases wantA ops T o with
    | none => rfl
    | some w =>
      cases w with
      | false =>
        show optR (putQ nt T o.dst undef) (fun T => seqQ P R nt ops l T m) = (putT nt T o.dst undef).bind fun T => seqA P R nt ops l T m
        rw [optR_eq, putQ_eq]
        simp only [ih]
      | true =>
        show optR (opQ P R T m o) (fun r => @Prod.rec Value AMem (fun _ => Option (Tr Value × AMem)) (fun v m => optR (putQ nt T o.dst v) fun T => seqQ P R nt ops l T m) r) = (opA P R T m o).bind fun x => (putT nt T o.dst x.1).bind fun T => seqA P R nt ops l T x.2
        rw [optR_eq, opQ_eq]
        congr 1
        funext ⟨v, m'⟩
        show optR (putQ nt T o.dst v) (fun T => seqQ P R nt ops l T m') = _
        rw [optR_eq, putQ_eq]
        simp only [ih]

noncomputable def regionQ (P : Program) (R : Rec) (nt : Nat) (ops : Array Oper) (draw : Bool) (T : Tr Value) (m : AMem) : Option (Tr Value × AMem) :=
  @Bool.rec (fun _ => Option (Tr Value × AMem)) (seqQ P R nt ops.toList ops.toList T m) (drawA P R nt ops.toList T m) draw
theorem regionQ_eq (R : Rec) (nt : Nat) (ops : Array Oper) (draw : Bool) (T : Tr Value) (m : AMem) : regionQ P R nt ops draw T m = regionA P R nt ops draw T m := by
  cases draw with
  | true => rfl
  | false => exact seqQ_eq R nt ops.toList ops.toList T m

noncomputable def regC (D : List Nat) (x : Option (Tr Value × AMem)) : Option CodeRes := optR x fun r => @Prod.rec (Tr Value) AMem (fun _ => Option CodeRes) (fun T m => some (.normal, T, D, m)) r
def seqC (R : Rec) (fn : FuncId) (nt : Nat) (rd : Option Nat) (b : Code) (x : Option CodeRes) : Option CodeRes := match x with
  | some (.normal, T, D, m) => R.code fn nt rd b T D m
  | r => r
noncomputable def condC (R : Rec) (fn : FuncId) (nt : Nat) (rd : Option Nat) (x y : Code) (T : Tr Value) (D : List Nat) (m : AMem) (v : Value) : Option CodeRes := match v with
  | .bool t => @Bool.rec (fun _ => Option CodeRes) (R.code fn nt rd y T D m) (R.code fn nt rd x T D m) t
  | _ => none
def blockC (id : Nat) (x : Option CodeRes) : Option CodeRes := match x with
  | some (.exit i, T, D, m) => bif Nat.beq i id then some (.normal, T, D, m) else some (.exit i, T, D, m)
  | r => r
noncomputable def codeQ (P : Program) (R : Rec) (fn : FuncId) (nt : Nat) (rd : Option Nat) (c : Code) (T : Tr Value) (D : List Nat) (m : AMem) : Option CodeRes :=
  match c with
  | .region _ ops draw => regC D (regionQ P R nt ops draw T m)
  | .seq a b => seqC R fn nt rd b (R.code fn nt rd a T D m)
  | .cond c x y => when (okOpnd c) (condC R fn nt rd x y T D m (opndF T c))
  | .block id body => blockC id (R.code fn nt rd body T D m)
  | .loop body => loopA R fn nt rd body T D m
  | .skip => some (.normal, T, D, m)
  | c => codeA P R fn nt rd c T D m
theorem codeQ_eq (R : Rec) : codeQ P R = codeA P R := by
  funext fn nt rd c T D m
  cases c with
  | region id ops draw =>
    show regC D (regionQ P R nt ops draw T m) = (regionA P R nt ops draw T m).map fun (T, m) => (.normal, T, D, m)
    rw [regionQ_eq]
    unfold regC
    rw [optR_eq]
    cases regionA P R nt ops draw T m <;> rfl
  | seq a b =>
    show seqC R fn nt rd b (R.code fn nt rd a T D m) = codeA P R fn nt rd (.seq a b) T D m
    unfold codeA seqC
    rfl
  | cond c x y =>
    show when (okOpnd c) (condC R fn nt rd x y T D m (opndF T c)) = bif okOpnd c then (match opnd T c with | .bool t => R.code fn nt rd (bif t then x else y) T D m | _ => none) else none
    unfold condC
    rw [opndF_eq]
    cases okOpnd c with
    | false => rfl
    | true =>
      show _ = (match opnd T c with | .bool t => R.code fn nt rd (bif t then x else y) T D m | _ => none)
      cases opnd T c with
      | bool t => cases t <;> rfl
      | _ => rfl
  | block id body =>
    show blockC id (R.code fn nt rd body T D m) = codeA P R fn nt rd (.block id body) T D m
    unfold codeA blockC
    rfl
  | _ => rfl

noncomputable def argsQ (l : List Value) : Nat → Tr Value → Tr Value := @List.rec Value (fun _ => Nat → Tr Value → Tr Value) (fun _ T => T) (fun v _ ih i T => ih (i + 1) (T.setQ i (some v))) l
theorem argsQ_eq (l : List Value) : ∀ i T, argsQ l i T = argsT l i T := by
  induction l with
  | nil => intro i T; rfl
  | cons v l ih =>
    intro i T
    show argsQ l (i + 1) (T.setQ i (some v)) = argsT l (i + 1) (T.set i (some v))
    rw [ih, Tr.setQ_eq]
/-- what is known of a function -/
def bodyOf (P : Program) (f : FuncId) : Option (Code × Nat × List ResultVar) := (P.funcs[f]?).bind fun fn => fn.body.map fun c => (c, fn.ntmps, fn.results.toList)
def endC (P : Program) (rs : List ResultVar) (x : Option CodeRes) : Option (Value × AMem) := match x with
  | some (.normal, T, D, m) => (unwindA D m).bind fun m => (resultsA P T m rs).map fun vs => (outOf vs, m)
  | some (.ret, T, D, m) => (unwindA D m).bind fun m => (resultsA P T m rs).map fun vs => (outOf vs, m)
  | _ => none
noncomputable def funcQ (P : Program) (R : Rec) (f : FuncId) (args : List Value) (m : AMem) : Option (Value × AMem) :=
  optR (bodyOf P f) fun b => when (Nat.ble args.length b.2.1) (endC P b.2.2 (R.code f b.2.1 none b.1 (argsQ args 0 .leaf) [] m))
theorem funcQ_eq (R : Rec) : funcQ P R = funcA P R := by
  funext f args m
  unfold funcQ funcA bodyOf
  rw [optR_eq]
  simp only [Option.bind_eq_bind]
  cases P.funcs[f]? with
  | none => rfl
  | some fn =>
    simp only [Option.bind_some]
    cases fn.body with
    | none => rfl
    | some c =>
      simp only [Option.map_some, Option.bind_some]
      cases Nat.ble args.length fn.ntmps with
      | false => rfl
      | true =>
        show endC P fn.results.toList (R.code f fn.ntmps none c (argsQ args 0 .leaf) [] m) = _
        rw [argsQ_eq, cond_true]
        cases R.code f fn.ntmps none c (argsT args 0 .leaf) [] m with
        | none => rfl
        | some r =>
          obtain ⟨ex, T, D, m'⟩ := r
          simp only [Option.bind_some]
          cases ex with
          | normal =>
            show ((unwindA D m').bind fun m => (resultsA P T m fn.results.toList).map fun vs => (outOf vs, m)) = _
            congr 1
            funext m2
            cases resultsA P T m2 fn.results.toList <;> rfl
          | ret =>
            show ((unwindA D m').bind fun m => (resultsA P T m fn.results.toList).map fun vs => (outOf vs, m)) = _
            congr 1
            funext m2
            cases resultsA P T m2 fn.results.toList <;> rfl
          | _ => rfl

noncomputable def callO (P : Program) (O : Orc) (R : Rec) (f : FuncId) (args : List Value) (m : AMem) : Option (Value × AMem) := orElse (O f args m) (funcQ P R f args m)
noncomputable def evQ (P : Program) (O : Orc) (F : Tell) (n : Nat) : Rec :=
  @Nat.rec (fun _ => Rec) ⟨fun _ _ _ _ _ _ _ => none, fun _ _ _ _ _ _ _ _ => none, fun _ _ _ _ _ _ _ => none, fun _ _ _ => none, F⟩
    (fun _ R => ⟨codeQ P R, scopeA R, loopA R, callO P O R, F⟩) n
theorem evQ_eq (O : Orc) (F : Tell) : ∀ n, evQ P O F n = evF P O F n
  | 0 => rfl
  | n + 1 => by
    have ih := evQ_eq O F n
    show (⟨codeQ P (evQ P O F n), scopeA (evQ P O F n), loopA (evQ P O F n), callO P O (evQ P O F n), F⟩ : Rec) = ⟨codeA P (evF P O F n), scopeA (evF P O F n), loopA (evF P O F n), fun f args m => match O f args m with | some r => some r | none => funcA P (evF P O F n) f args m, F⟩
    rw [ih, codeQ_eq]
    congr 1
    funext f args m
    show orElse (O f args m) (funcQ P (evF P O F n) f args m) = _
    rw [funcQ_eq]
    cases O f args m <;> rfl
end Go.Ev
