import Derived.Test.YtdgkilbimampkaaGreatEvT7
namespace Go.Ev
open Go Go.RowKit
variable {P : Program}

/-! ## The same evaluator, for the kernel: small steps, small bodies. Each word of this text is proved equal to the one that it stands for. -/
section
variable {α : Type}
noncomputable def Tr.getF (t : Tr α) : Nat → Option α :=
  @Tr.rec α (fun _ => Nat → Option α) (fun _ => none) (fun v _ _ l r n => @Nat.rec (fun _ => Option α) v (fun k _ => @Bool.rec (fun _ => Option α) (r (k / 2)) (l (k / 2)) (Nat.beq (k % 2) 0)) n) t
theorem Tr.getF_eq (t : Tr α) : ∀ n, t.getF n = t.get n := by
  induction t with
  | leaf => intro n; rfl
  | node v l r ihl ihr =>
    intro n
    cases n with
    | zero => rfl
    | succ k =>
      show @Bool.rec (fun _ => Option α) (r.getF (k / 2)) (l.getF (k / 2)) (Nat.beq (k % 2) 0) = _
      rw [ihl, ihr, show (Tr.node v l r).get (k + 1) = bif Nat.beq (k % 2) 0 then l.get (k / 2) else r.get (k / 2) from rfl]
      cases Nat.beq (k % 2) 0 <;> rfl

noncomputable def Tr.setG (f : Nat) : Tr α → Nat → Option α → Tr α :=
  @Nat.rec (fun _ => Tr α → Nat → Option α → Tr α) (fun t _ _ => t) (fun _ ih t n x =>
    @Tr.rec α (fun _ => Tr α)
      (@Nat.rec (fun _ => Tr α) (.node x .leaf .leaf) (fun k _ => @Bool.rec (fun _ => Tr α) (.node none .leaf (ih .leaf (k / 2) x)) (.node none (ih .leaf (k / 2) x) .leaf) (Nat.beq (k % 2) 0)) n)
      (fun v l r _ _ => @Nat.rec (fun _ => Tr α) (.node x l r) (fun k _ => @Bool.rec (fun _ => Tr α) (.node v l (ih r (k / 2) x)) (.node v (ih l (k / 2) x) r) (Nat.beq (k % 2) 0)) n) t) f
theorem Tr.setG_eq (f : Nat) : ∀ (t : Tr α) (n : Nat) (x : Option α), Tr.setG f t n x = Tr.setF f t n x := by
  induction f with
  | zero => intro t n x; rfl
  | succ f ih =>
    intro t n x
    cases t with
    | leaf =>
      cases n with
      | zero => rfl
      | succ k =>
        show @Bool.rec (fun _ => Tr α) (.node none .leaf (Tr.setG f .leaf (k / 2) x)) (.node none (Tr.setG f .leaf (k / 2) x) .leaf) (Nat.beq (k % 2) 0) = _
        rw [ih, show Tr.setF (f + 1) (.leaf : Tr α) (k + 1) x = bif Nat.beq (k % 2) 0 then .node none (Tr.setF f .leaf (k / 2) x) .leaf else .node none .leaf (Tr.setF f .leaf (k / 2) x) from rfl]
        cases Nat.beq (k % 2) 0 <;> rfl
    | node v l r =>
      cases n with
      | zero => rfl
      | succ k =>
        show @Bool.rec (fun _ => Tr α) (.node v l (Tr.setG f r (k / 2) x)) (.node v (Tr.setG f l (k / 2) x) r) (Nat.beq (k % 2) 0) = _
        rw [ih, ih, show Tr.setF (f + 1) (.node v l r) (k + 1) x = bif Nat.beq (k % 2) 0 then .node v (Tr.setF f l (k / 2) x) r else .node v l (Tr.setF f r (k / 2) x) from rfl]
        cases Nat.beq (k % 2) 0 <;> rfl
noncomputable def Tr.setQ (t : Tr α) (n : Nat) (x : Option α) : Tr α := Tr.setG (n + 1) t n x
theorem Tr.setQ_eq (t : Tr α) (n : Nat) (x : Option α) : t.setQ n x = t.set n x := Tr.setG_eq _ _ _ _

noncomputable def nthF (l : List α) : Nat → Option α :=
  @List.rec α (fun _ => Nat → Option α) (fun _ => none) (fun a _ ih n => @Nat.rec (fun _ => Option α) (some a) (fun k _ => ih k) n) l
theorem nthF_eq (l : List α) : ∀ n, nthF l n = nth l n := by
  induction l with
  | nil => intro n; rfl
  | cons a l ih =>
    intro n
    cases n with
    | zero => rfl
    | succ k => exact ih k

/-- one cell more -/
noncomputable def putNth (l : List α) (x : α) : Nat → Option (List α) :=
  @List.rec α (fun _ => Nat → Option (List α)) (fun _ => none) (fun a l ih n => @Nat.rec (fun _ => Option (List α)) (some (x :: l)) (fun k _ => @Option.rec (List α) (fun _ => Option (List α)) none (fun r => some (a :: r)) (ih k)) n) l
theorem putNth_eq (x : α) (l : List α) : ∀ n, putNth l x n = over l n [x] := by
  induction l with
  | nil => intro n; cases n <;> rfl
  | cons a l ih =>
    intro n
    cases n with
    | zero => cases l <;> rfl
    | succ k =>
      show @Option.rec (List α) (fun _ => Option (List α)) none (fun r => some (a :: r)) (putNth l x k) = (over l k [x]).map (a :: ·)
      rw [ih]
      cases over l k [x] <;> rfl
end

noncomputable def opndF (T : Tr Value) (x : Operand) : Value :=
  @Operand.rec (fun _ => Value) (fun t => @Option.rec Value (fun _ => Value) undef (fun v => v) (T.getF t)) (fun v => v) (fun g => .pointer (some ⟨g, 0, none⟩)) (fun f => .func (.func f) #[] #[]) x
theorem opndF_eq (T : Tr Value) : ∀ x, opndF T x = opnd T x := by
  intro x
  cases x with
  | tmp t =>
    show @Option.rec Value (fun _ => Value) undef (fun v => v) (T.getF t) = (T.get t).getD undef
    rw [Tr.getF_eq]
    cases T.get t <;> rfl
  | _ => rfl
end Go.Ev
