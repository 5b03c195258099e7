import Derived.Test.YtdgkilbimampkaaGreatEvT8
namespace Go.Ev
open Go Go.RowKit
variable {P : Program} {R : Rec} {T : Tr Value} {m : AMem} {o : Oper}

theorem runP_bind {α β : Type} (P : Program) (s : Sem α) (f : α → Sem β) : runP P (s >>= f) = (runP P s).bind fun a => runP P (f a) := by
  show runP P (s.bind f) = _
  induction s with
  | pure a => rfl
  | program k ih => exact ih P
  | choose q k ih =>
    show (bif q.forced then runP P ((k 0).bind f) else none) = (bif q.forced then runP P (k 0) else none).bind _
    cases q.forced with
    | true => exact ih 0
    | false => rfl
  | mark k s ih => exact ih
  | _ => rfl

theorem runP_guard (b : BinOp) (t : TypeId) (x y : Operand) (k k' : IntKind) (a c : Int) : runP P (eqGuard b t x y (.int k a) (.int k' c)) = some () := by
  unfold eqGuard
  split <;> rfl
theorem runP_bin {b : BinOp} {a c : Int} {v : Value} (h : iop (.bin b) a c = some v) (t : TypeId) : runP P (binOp b t (.int .i64 a) (.int .i64 c)) = some v := by
  cases b <;> simp only [iop, reduceCtorEq, Option.some.injEq] at h
  case shl =>
    split at h
    · cases h
    · rename_i hb; cases h; simp only [binOp, Op.shift, if_neg hb]; rfl
  case shr =>
    split at h
    · cases h
    · rename_i hb; cases h; simp only [binOp, Op.shift, if_neg hb]; rfl
  case quo =>
    split at h
    · cases h
    · rename_i hb; cases h; simp only [binOp, Op.intDiv, if_neg hb]; rfl
  case rem =>
    split at h
    · cases h
    · rename_i hb; cases h; simp only [binOp, Op.intDiv, if_neg hb]; rfl
  all_goals (subst h; rfl)
theorem iop_ground {i : IOp} {a b : Int} {v : Value} (h : iop i a b = some v) : ground v = true := by
  cases i with
  | bin o =>
    cases o <;> simp only [iop, reduceCtorEq, Option.some.injEq] at h
    all_goals first
      | (subst h; rfl)
      | (split at h <;> first | (cases h; done) | (cases h; rfl))
  | min => simp only [iop, Option.some.injEq] at h; subst h; rfl
  | max => simp only [iop, Option.some.injEq] at h; subst h; rfl

/-- an answer, or the elder word -/
noncomputable def orElse {α : Type} (x : Option α) (y : Option α) : Option α := @Option.rec α (fun _ => Option α) y some x
theorem orElse_eq {α : Type} {x y : Option α} (h : ∀ a, x = some a → y = some a) : orElse x y = y := by
  cases x with
  | none => rfl
  | some a => exact (h a rfl).symm
noncomputable def when {α : Type} (b : Bool) (x : Option α) : Option α := @Bool.rec (fun _ => Option α) none x b
theorem when_some {α : Type} {b : Bool} {x : Option α} {a : α} (h : when b x = some a) : b = true ∧ x = some a := by
  cases b with
  | true => exact ⟨rfl, h⟩
  | false => cases h

/-! ## Operations -/
noncomputable def moveQ (T : Tr Value) (m : AMem) (x : Operand) : Option (Value × AMem) := when (okOpnd x) (some (opndF T x, m))
theorem opA_pure (hc : cls P o = .pure) (hok : o.op.operands.all okOpnd = true) {v : Value} (h : pureA P (opnd T) o = some v) : opA P R T m o = some (v, m) := by
  unfold opA
  rw [hok, cond_true, hc]
  simp only [pureX, h, Option.map_some]
theorem moveQ_ok {x : Operand} (h : o.op = .move x ∨ o.op = .assign x) {r} (e : moveQ T m x = some r) : opA P R T m o = some r := by
  obtain ⟨h1, h2⟩ := when_some e
  cases h2
  rw [opndF_eq]
  rcases h with h | h
  all_goals exact opA_pure (by unfold cls; rw [h]) (by rw [h]; simp [Op.operands, h1]) (by unfold pureA; rw [h])

noncomputable def binV (b : BinOp) (x y : Value) : Option Value :=
  match x, y with
  | .int .i64 a, .int .i64 c => iop (.bin b) a c
  | _, _ => none
noncomputable def binQ (T : Tr Value) (m : AMem) (b : BinOp) (x y : Operand) : Option (Value × AMem) :=
  when (okOpnd x && okOpnd y) (@Option.rec Value (fun _ => Option (Value × AMem)) none (fun v => some (v, m)) (binV b (opndF T x) (opndF T y)))
theorem binQ_ok {b : BinOp} {t u : TypeId} {x y : Operand} (h : o.op = .binOp b t x y u) {r} (e : binQ T m b x y = some r) : opA P R T m o = some r := by
  obtain ⟨h1, h2⟩ := when_some e
  rw [Bool.and_eq_true] at h1
  rw [opndF_eq, opndF_eq] at h2
  cases hv : binV b (opnd T x) (opnd T y) with
  | none => rw [hv] at h2; cases h2
  | some v =>
    rw [hv] at h2
    cases h2
    unfold binV at hv
    split at hv
    case h_2 => cases hv
    case h_1 a c hx hy =>
      refine opA_pure (by unfold cls; rw [h]) (by rw [h]; simp [Op.operands, h1.1, h1.2]) ?_
      unfold pureA
      rw [h]
      simp only [Op.operands]
      have hg : (#[x, y] : Array Operand).all (fun z => ground (opnd T z)) = true := by simp [hx, hy, ground, grd]
      rw [hg, cond_true]
      have : runP P (execOp (opnd T) o) = some (.value v) := by
        unfold execOp
        simp only [h, hx, hy]
        rw [runP_bind, runP_bind, runP_guard, Option.bind_some, runP_bin hv]
        rfl
      rw [this]
      simp only [iop_ground hv, cond_true]

/-- where a field lies -/
def fldOff (P : Program) (s : TypeId) (f : Nat) : Option Nat :=
  match P.underlying s with
  | some (.struct fs) => (fs[f]?).bind fun fd => (sizeT P fd.type).bind fun n => bif Nat.beq n 0 then none else some fd.offset
  | _ => none
noncomputable def ptrOff (off : Nat) (v : Value) : Option Value :=
  match v with
  | .pointer (some ⟨b, o, none⟩) => some (.pointer (some ⟨b, o + off, none⟩))
  | _ => none
noncomputable def faQ (P : Program) (T : Tr Value) (m : AMem) (s : TypeId) (x : Operand) (f : Nat) : Option (Value × AMem) :=
  when (okOpnd x) (@Option.rec Nat (fun _ => Option (Value × AMem)) none (fun off => @Option.rec Value (fun _ => Option (Value × AMem)) none (fun v => some (v, m)) (ptrOff off (opndF T x))) (fldOff P s f))
theorem faQ_ok {s : TypeId} {x : Operand} {f : Nat} (h : o.op = .fieldAddr s x f) {r} (e : faQ P T m s x f = some r) : opA P R T m o = some r := by
  obtain ⟨h1, h2⟩ := when_some e
  rw [opndF_eq] at h2
  cases hf : fldOff P s f with
  | none => rw [hf] at h2; cases h2
  | some off =>
    rw [hf] at h2
    cases hp : ptrOff off (opnd T x) with
    | none => simp only [hp] at h2; cases h2
    | some v =>
      simp only [hp] at h2
      cases h2
      unfold ptrOff at hp
      split at hp
      case h_2 => cases hp
      case h_1 b o' hx =>
        cases hp
        refine opA_pure (by unfold cls; rw [h]) (by rw [h]; simp [Op.operands, h1]) ?_
        unfold pureA
        rw [h]
        simp only [Op.operands]
        have hg : (#[x] : Array Operand).all (fun z => ground (opnd T z)) = false := by simp [hx, ground, grd]
        rw [hg, cond_false, hx]
        unfold fldOff at hf
        unfold fieldA
        split at hf
        case h_2 => cases hf
        case h_1 fs hu =>
          rw [hu]
          obtain ⟨fd, g1, hf⟩ := Option.bind_eq_some_iff.1 hf
          obtain ⟨n, g2, hf⟩ := Option.bind_eq_some_iff.1 hf
          simp only [g1, g2, Option.bind_eq_bind, Option.bind_some]
          cases hz : Nat.beq n 0 with
          | true => rw [hz, cond_true] at hf; cases hf
          | false => rw [hz, cond_false] at hf; cases hf; rfl

/-- how large an element is -/
def elemSz (P : Program) (t : TypeId) : Option Nat := match P.underlying t with
  | some (.slice e) => sizeT P e
  | _ => none
noncomputable def atIx (s : Nat) (x i : Value) : Option Value :=
  match x, i with
  | .slice (some ⟨b, o, _⟩) len _, .int _ n => when (decide (0 ≤ n) && decide (n < len)) (some (.pointer (some ⟨b, o + n.toNat * s, none⟩)))
  | _, _ => none
noncomputable def iaQ (P : Program) (T : Tr Value) (m : AMem) (t : TypeId) (x i : Operand) : Option (Value × AMem) :=
  when (okOpnd x && okOpnd i) (@Option.rec Nat (fun _ => Option (Value × AMem)) none (fun s => @Option.rec Value (fun _ => Option (Value × AMem)) none (fun v => some (v, m)) (atIx s (opndF T x) (opndF T i))) (elemSz P t))
theorem iaQ_ok {t : TypeId} {x i : Operand} (h : o.op = .indexAddr t x i) {r} (e : iaQ P T m t x i = some r) : opA P R T m o = some r := by
  obtain ⟨h1, h2⟩ := when_some e
  rw [Bool.and_eq_true] at h1
  rw [opndF_eq, opndF_eq] at h2
  cases hf : elemSz P t with
  | none => rw [hf] at h2; cases h2
  | some s =>
    rw [hf] at h2
    cases hp : atIx s (opnd T x) (opnd T i) with
    | none => simp only [hp] at h2; cases h2
    | some v =>
      simp only [hp] at h2
      cases h2
      unfold atIx at hp
      split at hp
      case h_2 => cases hp
      case h_1 b o' sp len cap k n hx hi =>
        obtain ⟨h3, h4⟩ := when_some hp
        cases h4
        refine opA_pure (by unfold cls; rw [h]) (by rw [h]; simp [Op.operands, h1.1, h1.2]) ?_
        unfold pureA
        rw [h]
        simp only [Op.operands]
        have hg : (#[x, i] : Array Operand).all (fun z => ground (opnd T z)) = false := by simp [hx, ground, grd]
        rw [hg, cond_false, hx, hi]
        unfold elemSz at hf
        split at hf
        case h_2 => cases hf
        case h_1 el hu =>
          unfold indexAddrA
          simp only [asI, Option.bind_eq_bind, Option.bind_some, hu, h3, cond_true, hf]

noncomputable def partQ (P : Program) (t : TypeId) (c : List Value) (o : Nat) : Option Value :=
  match isAggT P t with
  | some false => nthF c o
  | _ => partA P t c o
theorem partQ_eq (t : TypeId) (c : List Value) (k : Nat) : partQ P t c k = partA P t c k := by
  unfold partQ
  split
  · rename_i h; rw [nthF_eq]; unfold partA; rw [h]; rfl
  · rfl
noncomputable def loadV (P : Program) (m : AMem) (t : TypeId) (v : Value) : Option Value :=
  match v with
  | .pointer (some ⟨b, o, none⟩) => match Tr.getF m.heap b with
    | some (.cells c _) => partQ P t c o
    | _ => none
  | _ => none
theorem loadV_ok {t : TypeId} {v r : Value} (e : loadV P m t v = some r) : loadA P m t v = some r := by
  unfold loadV at e
  split at e
  case h_2 => cases e
  case h_1 b k =>
    rw [Tr.getF_eq] at e
    split at e
    case h_2 => cases e
    case h_1 c el hm =>
      rw [partQ_eq] at e
      show (match m.heap.get b with | some (.cells c _) => partA P t c k | _ => none) = some r
      rw [hm]
      exact e
noncomputable def loadQ (P : Program) (T : Tr Value) (m : AMem) (t : TypeId) (a : Operand) : Option (Value × AMem) :=
  when (okOpnd a) (@Option.rec Value (fun _ => Option (Value × AMem)) none (fun v => some (v, m)) (loadV P m t (opndF T a)))
theorem loadQ_ok {t : TypeId} {a : Operand} (h : o.op = .load t a) {r} (e : loadQ P T m t a = some r) : opA P R T m o = some r := by
  obtain ⟨h1, h2⟩ := when_some e
  rw [opndF_eq] at h2
  cases hv' : loadV P m t (opnd T a) with
  | none => rw [hv'] at h2; cases h2
  | some v =>
    rw [hv'] at h2
    cases h2
    have hv := loadV_ok hv'
    unfold opA
    have hok : o.op.operands.all okOpnd = true := by rw [h]; simp [Op.operands, h1]
    have hc : cls P o = .read := by unfold cls; rw [h]
    rw [hok, cond_true, hc]
    simp only [readA, h, hv, Option.map_some]

noncomputable def cellOf (v : Value) : Bool := match v with
  | .agg _ | .tuple _ => false
  | _ => true
noncomputable def storeM (m : AMem) (a x : Value) : Option AMem :=
  match a with
  | .pointer (some ⟨b, o, none⟩) => match Tr.getF m.heap b with
    | some (.cells c e) => when (cellOf x) (@Option.rec (List Value) (fun _ => Option AMem) none (fun c' => some ⟨m.heap.setQ b (some (.cells c' e)), m.next⟩) (putNth c x o))
    | _ => none
  | _ => none
def oneT (P : Program) (t : TypeId) : Bool := match sizeT P t with
  | some 1 => true
  | _ => false
noncomputable def storeQ (P : Program) (T : Tr Value) (m : AMem) (t : TypeId) (a x : Operand) : Option (Value × AMem) :=
  when (okOpnd a && okOpnd x && oneT P t) (@Option.rec AMem (fun _ => Option (Value × AMem)) none (fun m => some (undef, m)) (storeM m (opndF T a) (opndF T x)))
theorem storeQ_ok {t : TypeId} {a x : Operand} (h : o.op = .store t a x) {r} (e : storeQ P T m t a x = some r) : opA P R T m o = some r := by
  obtain ⟨h1, h2⟩ := when_some e
  rw [Bool.and_eq_true, Bool.and_eq_true] at h1
  rw [opndF_eq, opndF_eq] at h2
  cases hv : storeM m (opnd T a) (opnd T x) with
  | none => rw [hv] at h2; cases h2
  | some m' =>
    rw [hv] at h2
    cases h2
    unfold opA
    have hok : o.op.operands.all okOpnd = true := by rw [h]; simp [Op.operands, h1.1.1, h1.1.2]
    have hc : cls P o = .write := by unfold cls; rw [h]
    rw [hok, cond_true, hc]
    simp only [writeA, h]
    have : storeA P m t (opnd T a) (opnd T x) = some m' := by
      unfold storeM at hv
      split at hv
      case h_2 => cases hv
      case h_1 b k ha =>
        rw [Tr.getF_eq] at hv
        split at hv
        case h_2 => cases hv
        case h_1 c e' hm =>
          obtain ⟨hx, hv⟩ := when_some hv
          rw [putNth_eq] at hv
          cases ho : over c k [opnd T x] with
          | none => rw [ho] at hv; cases hv
          | some c' =>
            rw [ho] at hv
            cases hv
            have hone : sizeT P t = some 1 := by
              have := h1.2
              unfold oneT at this
              split at this
              · assumption
              · cases this
            have hcell : (opnd T x).cells = #[opnd T x] ∧ (opnd T x).oneCell' = true := by
              generalize opnd T x = v at hx
              cases v <;> first | exact ⟨rfl, rfl⟩ | cases hx
            unfold storeA AMem.get
            rw [ha]
            simp only [hm, hone, Option.bind_eq_bind, Option.bind_some, hcell.1]
            rw [ho]
            simp only [List.all_cons, List.all_nil, hcell.2, Bool.and_true, Nat.beq, Array.size, List.length, cond_true, Option.bind_some, AMem.put, Tr.setQ_eq]
    rw [this]
    rfl
end Go.Ev
