import Derived.Test.YtdgkilbimampkaaGreatEvT9
namespace Go.Ev
open Go Go.RowKit
variable {P : Program} {R : Rec} {T : Tr Value} {m : AMem} {o : Oper}

noncomputable def ptrV (v : Value) : Option Value := match v with
  | .pointer (some ⟨b, o, Option.none⟩) => some (.pointer (some ⟨b, o, Option.none⟩))
  | _ => none
noncomputable def nilQ (T : Tr Value) (m : AMem) (x : Operand) : Option (Value × AMem) :=
  when (okOpnd x) (@Option.rec Value (fun _ => Option (Value × AMem)) none (fun v => some (v, m)) (ptrV (opndF T x)))
theorem nilQ_ok {x : Operand} (h : o.op = .nilCheck x) {r} (e : nilQ T m x = some r) : opA P R T m o = some r := by
  obtain ⟨h1, h2⟩ := when_some e
  rw [opndF_eq] at h2
  cases hv : ptrV (opnd T x) with
  | none => rw [hv] at h2; cases h2
  | some v =>
    rw [hv] at h2
    cases h2
    unfold ptrV at hv
    split at hv
    case h_2 => cases hv
    case h_1 b k hx =>
      cases hv
      refine opA_pure (by unfold cls; rw [h]) (by rw [h]; simp [Op.operands, h1]) ?_
      unfold pureA
      rw [h]
      simp only [Op.operands]
      have hg : (#[x] : Array Operand).all (fun z => ground (opnd T z)) = false := by simp [hx, ground, grd]
      rw [hg, cond_false, hx]
      rfl

theorem grd_pick {a b : Value} (t : Bool) (ha : ground a = true) (hb : ground b = true) : ground (if t = true then a else b) = true := by
  cases t with
  | true => exact ha
  | false => exact hb
noncomputable def boolV (v : Value) : Option Bool := match v with
  | .bool b => some b
  | _ => none
theorem boolV_ok {v : Value} {b : Bool} (h : boolV v = some b) : v = .bool b := by
  unfold boolV at h
  split at h
  · cases h; rfl
  · cases h
noncomputable def pickQ (T : Tr Value) (m : AMem) (c a b : Operand) : Option (Value × AMem) :=
  when (okOpnd c && (okOpnd a && okOpnd b)) (@Option.rec Bool (fun _ => Option (Value × AMem)) none (fun t => some (@Bool.rec (fun _ => Value) (opndF T b) (opndF T a) t, m)) (boolV (opndF T c)))
theorem pickQ_ok {c a b : Operand} (h : o.op = .pick c a b) {r} (e : pickQ T m c a b = some r) : opA P R T m o = some r := by
  obtain ⟨h1, h2⟩ := when_some e
  rw [Bool.and_eq_true, Bool.and_eq_true] at h1
  rw [opndF_eq, opndF_eq, opndF_eq] at h2
  cases hv : boolV (opnd T c) with
  | none => rw [hv] at h2; cases h2
  | some t =>
    rw [hv] at h2
    cases h2
    have hc := boolV_ok hv
    have hb : @Bool.rec (fun _ => Value) (opnd T b) (opnd T a) t = (if t = true then opnd T a else opnd T b) := by cases t <;> rfl
    refine opA_pure (by unfold cls; rw [h]) (by rw [h]; simp [Op.operands, h1.1, h1.2.1, h1.2.2]) ?_
    rw [hb]
    unfold pureA
    rw [h]
    simp only [Op.operands]
    cases hg : (#[c, a, b] : Array Operand).all (fun z => ground (opnd T z)) with
    | false =>
      rw [cond_false, hc]
      cases t <;> rfl
    | true =>
      rw [cond_true]
      simp at hg
      have : runP P (execOp (opnd T) o) = some (.value (if t = true then opnd T a else opnd T b)) := by
        unfold execOp
        simp only [h, hc]
        rfl
      rw [this]
      simp only [grd_pick t hg.2.1 hg.2.2, cond_true]

noncomputable def notV (u : UnOp) (v : Value) : Option Value := match u, v with
  | .not, .bool b => some (.bool (@Bool.rec (fun _ => Bool) true false b))
  | _, _ => none
noncomputable def notQ (T : Tr Value) (m : AMem) (u : UnOp) (x : Operand) : Option (Value × AMem) :=
  when (okOpnd x) (@Option.rec Value (fun _ => Option (Value × AMem)) none (fun v => some (v, m)) (notV u (opndF T x)))
theorem notQ_ok {u : UnOp} {t : TypeId} {x : Operand} (h : o.op = .unOp u t x) {r} (e : notQ T m u x = some r) : opA P R T m o = some r := by
  obtain ⟨h1, h2⟩ := when_some e
  rw [opndF_eq] at h2
  cases hv : notV u (opnd T x) with
  | none => rw [hv] at h2; cases h2
  | some v =>
    rw [hv] at h2
    cases h2
    unfold notV at hv
    split at hv
    case h_2 => cases hv
    case h_1 b hx =>
      cases hv
      have hb : @Bool.rec (fun _ => Bool) true false b = !b := by cases b <;> rfl
      rw [hb]
      refine opA_pure (by unfold cls; rw [h]) (by rw [h]; simp [Op.operands, h1]) ?_
      unfold pureA
      rw [h]
      simp only [Op.operands]
      have hg : (#[x] : Array Operand).all (fun z => ground (opnd T z)) = true := by simp [hx, ground, grd]
      rw [hg, cond_true]
      have : runP P (execOp (opnd T) o) = some (.value (.bool !b)) := by
        unfold execOp
        simp only [h, hx]
        rfl
      rw [this]
      rfl

theorem grd_tuple {vs : Array Value} {i : Nat} {v : Value} (h : ground (.tuple vs) = true) (hv : vs.toList[i]? = some v) : grd 11 v = true := by
  have h : vs.toList.all (grd 11) = true := h
  rw [List.all_eq_true] at h
  exact h v (List.mem_of_getElem? hv)
theorem grd_mono : ∀ (n : Nat) (v : Value), grd n v = true → grd (n + 1) v = true
  | 0, v, h => by cases h
  | n + 1, v, h => by
    have ih := grd_mono n
    have hl : ∀ l : List Value, l.all (grd n) = true → l.all (grd (n + 1)) = true := by
      intro l h
      rw [List.all_eq_true] at h ⊢
      exact fun x hx => ih x (h x hx)
    unfold grd at h ⊢
    split
    all_goals first
      | rfl
      | skip
    all_goals simp only [Bool.and_eq_true] at h ⊢
    · exact ih _ h
    · exact hl _ h
    · exact hl _ h
    · exact ⟨⟨h.1.1, hl _ h.1.2⟩, hl _ h.2⟩
    · simp at h
noncomputable def extV (i : Nat) (v : Value) : Option Value := match v with
  | .tuple vs => nthF vs.toList i
  | _ => none
noncomputable def extQ (T : Tr Value) (m : AMem) (t : Operand) (i : Nat) : Option (Value × AMem) :=
  when (okOpnd t) (@Option.rec Value (fun _ => Option (Value × AMem)) none (fun v => some (v, m)) (extV i (opndF T t)))
theorem extQ_ok {t : Operand} {i : Nat} (h : o.op = .extract t i) {r} (e : extQ T m t i = some r) : opA P R T m o = some r := by
  obtain ⟨h1, h2⟩ := when_some e
  rw [opndF_eq] at h2
  cases hv : extV i (opnd T t) with
  | none => rw [hv] at h2; cases h2
  | some v =>
    rw [hv] at h2
    cases h2
    unfold extV at hv
    split at hv
    case h_2 => cases hv
    case h_1 vs hx =>
      rw [nthF_eq] at hv
      refine opA_pure (by unfold cls; rw [h]) (by rw [h]; simp [Op.operands, h1]) ?_
      unfold pureA
      rw [h]
      simp only [Op.operands]
      cases hg : (#[t] : Array Operand).all (fun z => ground (opnd T z)) with
      | false => rw [cond_false, hx]; exact hv
      | true =>
        rw [cond_true]
        simp at hg
        rw [hx] at hg
        rw [nth_eq] at hv
        have hv2 : vs[i]? = some v := by rw [← Array.getElem?_toList]; exact hv
        have : runP P (execOp (opnd T) o) = some (.value v) := by
          unfold execOp
          simp only [h, hx, Instr.extract, hv2]
          rfl
        rw [this]
        have : ground v = true := grd_mono 11 v (grd_tuple hg hv)
        simp only [this, cond_true]

/-! calls -/
noncomputable def mapQ (T : Tr Value) (l : List Operand) : List Value := @List.rec Operand (fun _ => List Value) [] (fun x _ ih => opndF T x :: ih) l
theorem mapQ_eq (T : Tr Value) (l : List Operand) : mapQ T l = l.map (opnd T) := by
  induction l with
  | nil => rfl
  | cons x l ih =>
    show opndF T x :: mapQ T l = _
    rw [ih, opndF_eq]; rfl
def hasBody (P : Program) (g : FuncId) : Bool := match P.funcs[g]? with
  | some fn => !(fn.name == "runtime.NumGoroutine") && fn.body.isSome
  | none => false
noncomputable def callQ (P : Program) (R : Rec) (T : Tr Value) (m : AMem) (c : Call) (g : FuncId) : Option (Value × AMem) :=
  when (c.args.toList.all okOpnd && hasBody P g) (R.call g (mapQ T c.args.toList) m)
theorem callQ_ok {c : Call} {g : FuncId} (h : o.op = .call c) (hc : c.callee = .value (.func g)) {r} (e : callQ P R T m c g = some r) : opA P R T m o = some r := by
  obtain ⟨h1, h2⟩ := when_some e
  rw [Bool.and_eq_true] at h1
  rw [mapQ_eq] at h2
  unfold opA
  have hok : o.op.operands.all okOpnd = true := by
    rw [h]
    simp only [Op.operands, Call.operands, hc]
    have := h1.1
    rw [List.all_eq_true] at this
    simp [okOpnd]
    intro x hx
    exact this _ (by simp)
  have hcl : cls P o = .write := by unfold cls; rw [h]; simp only [hc]
  rw [hok, cond_true, hcl]
  simp only [writeA, h, callA, hc, opnd, fnCall, enterA]
  have hb := h1.2
  unfold hasBody at hb
  split at hb
  case h_2 => cases hb
  case h_1 fn hfn =>
    rw [Bool.and_eq_true] at hb
    rw [hfn]
    simp only [Option.bind_eq_bind, Option.bind_some]
    have : (fn.name == "runtime.NumGoroutine") = false := by simpa using hb.1
    rw [this, cond_false]
    cases hbd : fn.body with
    | none => rw [hbd] at hb; simp at hb
    | some b => simpa using h2

def isSl (P : Program) (c : Call) : Bool := match (c.argTypes[0]?).bind P.underlying with
  | some (.slice _) => true
  | _ => false
noncomputable def lenV (v : Value) : Option Value := match v with
  | .slice (some _) n _ => some (goInt n)
  | _ => none
noncomputable def lenQ (P : Program) (T : Tr Value) (m : AMem) (c : Call) : Option (Value × AMem) :=
  match c.args.toList with
  | [x] => when (okOpnd x && isSl P c) (@Option.rec Value (fun _ => Option (Value × AMem)) none (fun v => some (v, m)) (lenV (opndF T x)))
  | _ => none
theorem lenQ_ok {c : Call} (h : o.op = .call c) (hc : c.callee = .builtin .len) {r} (e : lenQ P T m c = some r) : opA P R T m o = some r := by
  unfold lenQ at e
  split at e
  case h_2 => cases e
  case h_1 x hargs =>
    obtain ⟨h1, h2⟩ := when_some e
    rw [Bool.and_eq_true] at h1
    rw [opndF_eq] at h2
    have ha : c.args = #[x] := by apply Array.toList_inj.1; rw [hargs]
    cases hv : lenV (opnd T x) with
    | none => rw [hv] at h2; cases h2
    | some v =>
      rw [hv] at h2
      cases h2
      unfold lenV at hv
      split at hv
      case h_2 => cases hv
      case h_1 a n k hx =>
        cases hv
        have hsl := h1.2
        unfold isSl at hsl
        split at hsl
        case h_2 => cases hsl
        case h_1 el hu =>
          have hk : kindT P (c.argTypes[0]?) = 3 := by unfold kindT; rw [hu]
          refine opA_pure (by unfold cls; rw [h]; simp only [hc, hk]) (by rw [h]; simp [Op.operands, Call.operands, hc, ha, h1.1]) ?_
          unfold pureA
          rw [h]
          simp only [Op.operands, Call.operands, hc, ha]
          have hg : ((#[] : Array Operand) ++ #[x]).all (fun z => ground (opnd T z)) = false := by simp [hx, ground, grd]
          rw [hg, cond_false]
          simp only [hu, hx, List.getElem?_toArray, List.getElem?_cons_zero, Option.map_some]

/-- an operation -/
noncomputable def callD (P : Program) (R : Rec) (T : Tr Value) (m : AMem) (c : Call) : Option (Value × AMem) :=
  match c.callee with
  | .value (.func g) => callQ P R T m c g
  | .builtin .len => lenQ P T m c
  | _ => none
noncomputable def opD (P : Program) (R : Rec) (T : Tr Value) (m : AMem) (op : Op) : Option (Value × AMem) :=
  match op with
  | .move x => moveQ T m x
  | .assign x => moveQ T m x
  | .binOp b _ x y _ => binQ T m b x y
  | .fieldAddr s x f => faQ P T m s x f
  | .indexAddr t x i => iaQ P T m t x i
  | .load t a => loadQ P T m t a
  | .store t a x => storeQ P T m t a x
  | .nilCheck x => nilQ T m x
  | .pick c a b => pickQ T m c a b
  | .unOp u _ x => notQ T m u x
  | .extract t i => extQ T m t i
  | .call c => callD P R T m c
  | _ => none
theorem opD_ok {r} (e : opD P R T m o.op = some r) : opA P R T m o = some r := by
  unfold opD at e
  split at e
  case h_1 x h => exact moveQ_ok (.inl h) e
  case h_2 x h => exact moveQ_ok (.inr h) e
  case h_3 h => exact binQ_ok h e
  case h_4 h => exact faQ_ok h e
  case h_5 h => exact iaQ_ok h e
  case h_6 h => exact loadQ_ok h e
  case h_7 h => exact storeQ_ok h e
  case h_8 h => exact nilQ_ok h e
  case h_9 h => exact pickQ_ok h e
  case h_10 h => exact notQ_ok h e
  case h_11 h => exact extQ_ok h e
  case h_12 c h =>
    unfold callD at e
    split at e
    case h_1 g hc => exact callQ_ok h hc e
    case h_2 hc => exact lenQ_ok h hc e
    case h_3 => cases e
  case h_13 => cases e
noncomputable def opQ (P : Program) (R : Rec) (T : Tr Value) (m : AMem) (o : Oper) : Option (Value × AMem) := orElse (opD P R T m o.op) (opA P R T m o)
theorem opQ_eq : opQ P R T m o = opA P R T m o := orElse_eq fun _ => opD_ok
end Go.Ev
