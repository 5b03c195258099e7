import Derived.Test.YtdgkilbimampkaaGreatEvT1
namespace Go.Ev
open Go Go.RowKit
variable {P : Program}

/-! ## Calls that are answered from outside -/
abbrev Orc := FuncId → List Value → AMem → Option (Value × AMem)

/-- what is told of pure operations -/
abbrev Tell := Op → List Value → Option Value
def noTell : Tell := fun _ _ => none

def evF (P : Program) (O : Orc) (F : Tell) : Nat → Rec
  | 0 => ⟨fun _ _ _ _ _ _ _ => none, fun _ _ _ _ _ _ _ _ => none, fun _ _ _ _ _ _ _ => none, fun _ _ _ => none, F⟩
  | n + 1 => ⟨codeA P (evF P O F n), scopeA (evF P O F n), loopA (evF P O F n), fun f args m => match O f args m with | some r => some r | none => funcA P (evF P O F n) f args m, F⟩
abbrev evO (P : Program) (O : Orc) : Nat → Rec := evF P O noTell

def orcRec (O : Orc) (F : Tell) : Rec := ⟨fun _ _ _ _ _ _ _ => none, fun _ _ _ _ _ _ _ _ => none, fun _ _ _ _ _ _ _ => none, O, F⟩
def OrcSound [Base] (P : Program) (O : Orc) : Prop := CallSound P (orcRec O noTell)
def TellSound [Base] (P : Program) (F : Tell) : Prop := ToldSound P (orcRec (fun _ _ _ => none) F)

theorem evF_sound [Base] (hfit : Fit P) {O : Orc} {F : Tell} (hO : OrcSound P O) (hF : TellSound P F) : ∀ n, AllSound P (evF P O F n)
  | 0 => ⟨fun f args m v m' h => (by cases h), fun fn nt rd c T D m ex T' D' m' h => (by cases h), fun fn nt rd b c T D m ex T' D' m' h => (by cases h), fun fn nt rd c T D m ex T' D' m' h => (by cases h), hF⟩
  | n + 1 => by
    have ih := evF_sound hfit hO hF n
    refine ⟨fun f args m v m' h => ?_, fun fn nt rd c T D m ex T' D' m' h => ?_, fun fn nt rd b c T D m ex T' D' m' h => ?_, fun fn nt rd c T D m ex T' D' m' h => ?_, hF⟩
    · have h : (match O f args m with | some r => some r | none => funcA P (evF P O F n) f args m) = some (v, m') := h
      cases ho : O f args m with
      | some r => rw [ho] at h; cases h; exact hO f args m v m' ho
      | none => rw [ho] at h; exact funcA_sound ih.code h
    · exact code_sound hfit ih.call ih.code ih.told ih.scope ih.loop (fun nt ops T m T' m' h => draw_sound ih.call ih.code ih.told nt ops T m T' m' h) h
    · exact scope_sound ih.code ih.scope h
    · exact loop_sound ih.code ih.loop h

theorem noTell_sound [Base] : TellSound P noTell := fun op vals v h => by cases h

/-- what an answer has to hold -/
def Answers [Base] (P : Program) (f : FuncId) (args : List Value) (m : AMem) (v : Value) (m' : AMem) : Prop := m.next ≤ m'.next ∧
  ∀ ι w (argsC : Array Value), LRel ι args argsC.toList → MRel ι m w → Free ι m m' w → ∀ cs, ∃ vC w' ι' fr,
    Steps P (lone (Frame.enter P f argsC .normal) cs w) (lone fr cs w') ∧ fr.leaving P w' (.returned vC) ∧ fr.fn = f ∧ VRel ι' v vC ∧ MRel ι' m' w' ∧ Ext ι m m' w w' ι'

theorem mrel_below {ι : Inj} {m : AMem} {w w' : World} (h : MRel ι m w) (hb : Below w.heap.size w w') : MRel ι m w' :=
  ⟨fun b o j h1 h2 => (h.obj b o j h1 h2).imp fun c ⟨h3, h4⟩ => ⟨by rw [hb.block _ (h.bound b j h2)]; exact h3, h4⟩, h.inj, fun b j h1 => Nat.lt_of_lt_of_le (h.bound b j h1) hb.size, h.fresh⟩

theorem answers_same [Base] {f : FuncId} {args : List Value} {m : AMem} {v : Value} (h : ∀ ι w (argsC : Array Value), LRel ι args argsC.toList → MRel ι m w → Free ι m m w → Calls P f argsC w (fun e w' => ∃ vC, e = .returned vC ∧ VRel ι v vC ∧ Below w.heap.size w w')) :
    Answers P f args m v m := by
  refine ⟨Nat.le_refl _, fun ι w argsC ha hm hf cs => ?_⟩
  obtain ⟨e, w', fr, ⟨vC, rfl, hv, hb⟩, hc, hfn, hl⟩ := h ι w argsC ha hm hf cs
  exact ⟨vC, w', ι, fr, hc, hl, hfn, hv, mrel_below hm hb, Nat.le_refl _, fun _ _ h => h, fun _ _ => rfl, fun b j h1 h2 _ => by omega, hb.size, fun c hc _ => hb.block c hc, hb.os, hb.tape, hb.output⟩

/-- new values that nothing is known of -/
def more (ι : Inj) (s k blk : Nat) (K : Nat → Value) : Inj := fun b => if s ≤ b ∧ b < s + k then some (@J.mk blk 0 0 { v := some (K (b - s)) }) else ι b

theorem answers_new [Base] {f : FuncId} {args : List Value} {m : AMem} {v : Value} {k : Nat} (h : ∀ ι w (argsC : Array Value), LRel ι args argsC.toList → MRel ι m w → Free ι m { m with next := m.next + k } w →
      Calls P f argsC w (fun e w' => ∃ vC K, e = .returned vC ∧ VRel (more ι m.next k w.heap.size K) v vC ∧ Below w.heap.size w w' ∧ w.heap.size < w'.heap.size)) :
    Answers P f args m v { m with next := m.next + k } := by
  refine ⟨Nat.le_add_right _ _, fun ι w argsC ha hm hf cs => ?_⟩
  obtain ⟨e, w', fr, ⟨vC, K, rfl, hv, hb, hlt⟩, hc, hfn, hl⟩ := h ι w argsC ha hm hf cs
  have hin : ∀ b, ¬ (m.next ≤ b ∧ b < m.next + k) → more ι m.next k w.heap.size K b = ι b := fun b hb => by unfold more; rw [if_neg hb]
  have live : ∀ b o, m.get b = some o → b < m.next := fun b o hb => by
    rcases Nat.lt_or_ge b m.next with hl | hl
    · exact hl
    · rw [hm.fresh b hl] at hb; cases hb
  have sub : ∀ b j, ι b = some j → more ι m.next k w.heap.size K b = some j := fun b j hj => by
    by_cases hb : m.next ≤ b ∧ b < m.next + k
    · rw [hf.none b hb.1 hb.2] at hj; cases hj
    · rw [hin b hb]; exact hj
  have hm' := mrel_below hm hb
  refine ⟨vC, w', _, fr, hc, hl, hfn, hv, ⟨fun b o j h1 h2 => ?_, fun b b' o o' j j' h1 h2 h3 h4 h5 => ?_, fun b j h1 => ?_, fun b hb' => ?_⟩, ⟨Nat.le_add_right _ _, sub, fun b hb' => hin b (by simp only at hb'; omega), fun b j h1 h2 h3 => .inl ?_, hb.size, fun c hc _ => hb.block c hc, hb.os, hb.tape, hb.output⟩⟩
  · have := live b o h1
    rw [hin b (by omega)] at h2
    obtain ⟨c, h3, h4⟩ := hm'.obj b o j h1 h2
    exact ⟨c, h3, h4.mono sub⟩
  · have a1 := live b o h1
    have a2 := live b' o' h2
    rw [hin b (by omega)] at h3
    rw [hin b' (by omega)] at h4
    exact hm'.inj b b' o o' j j' h1 h2 h3 h4 h5
  · by_cases hb' : m.next ≤ b ∧ b < m.next + k
    · unfold more at h1; rw [if_pos hb'] at h1; cases h1; exact hlt
    · rw [hin b hb'] at h1; exact hm'.bound b j h1
  · exact hm.fresh b (by simp only at hb'; omega)
  · unfold more at h3; rw [if_pos ⟨h1, h2⟩] at h3; cases h3; exact Nat.le_refl _

/-! ## The caller's values -/
def holes (l : List Kept) : Inj := fun b => if holeAt ≤ b then some (match l[b - holeAt]? with | some k => @J.mk 0 0 0 k | none => ⟨0, 0, 0⟩) else none
theorem holes_rel {l : List Kept} {i : Nat} {v : Value} (h : l[i]? = some { v := some v }) (hc : v.cells = #[v]) (h1 : v.oneCell' = true) : VRel (holes l) (.pointer (some ⟨holeAt + i, 0, some 0⟩)) v := by
  refine .hole (j := @J.mk 0 0 0 { v := some v }) ?_ rfl hc h1 (fun s e => by cases e)
  unfold holes
  rw [if_pos (Nat.le_add_right _ _), Nat.add_sub_cancel_left, h]
theorem holes_row {l : List Kept} {i s : Nat} {v : Value} (h : l[i]? = some { v := some v, row := some s }) (hc : v.cells = #[v]) (h1 : v.oneCell' = true) : VRel (holes l) (.pointer (some ⟨holeAt + i, s + 1, some 0⟩)) v := by
  refine .hole (j := @J.mk 0 0 0 { v := some v, row := some s }) ?_ rfl hc h1 (fun s' e => by cases e; rfl)
  unfold holes
  rw [if_pos (Nat.le_add_right _ _), Nat.add_sub_cancel_left, h]

def RowsOk (l : List Kept) (w : World) : Prop := ∀ k ∈ l, ∀ s, k.row = some s → RowOk w k.v s
abbrev base {l : List Kept} {w : World} (h : RowsOk l w) : Base where
  ι0 := holes l
  w0 := w
  full b hb := ⟨_, by unfold holes; rw [if_pos hb]⟩
  rows b j s hj hs := by
    unfold holes at hj
    split at hj
    · cases hj
      have key : ∀ x : Option Kept, (∀ k, x = some k → k ∈ l) → (match x with | some k => @J.mk 0 0 0 k | none => ⟨0, 0, 0⟩ : J).kept.row = some s → RowOk w (match x with | some k => @J.mk 0 0 0 k | none => ⟨0, 0, 0⟩ : J).kept.v s := by
        intro x hx hr
        cases x with
        | some k => exact h k (hx k rfl) s hr
        | none => cases hr
      exact key _ (fun k hk => List.mem_of_getElem? hk) hs
    · cases hj

theorem rowOk_nil (w : World) (s : Nat) : RowOk w (some (.slice none 0 0)) s := ⟨none, 0, 0, rfl, by decide, [], by simp, fun P w _ => rfl⟩
theorem rowOk_at {w : World} {b off n c s : Nat} {cC : Array Value} {e : TypeId} {fz : Nat × Nat} (hb : w.heap[b]? = some (.cells cC e fz)) (hn : off + n * s ≤ cC.size) (hle : n ≤ 2 ^ 23) : RowOk w (some (.slice (some ⟨b, off, none⟩) n c)) s := by
  have hlt : b < w.heap.size := by
    rcases Nat.lt_or_ge b w.heap.size with h | h
    · exact h
    · rw [Array.getElem?_eq_none h] at hb; cases hb
  refine ⟨_, _, _, rfl, hle, (cC.toList.drop off).take (n * s), by simp; omega, fun P w1 h1 => ?_⟩
  unfold Builtin.firstCells
  have := run_cells (P := P) (w := w1) (o := off) (l := (cC.toList.drop off).take (n * s)) (by rw [h1 _ hlt]; exact hb) (fun i v hv => by
    have hi := (List.getElem?_eq_some_iff.1 hv).1
    rw [List.getElem?_take_of_lt (by simp at hi; omega), List.getElem?_drop] at hv
    simpa using hv)
  rw [show ((cC.toList.drop off).take (n * s)).length = n * s by simp; omega] at this
  exact this

def saysTrue (r : Option (Value × AMem)) : Bool := match r with | some (.bool true, m) => Nat.ble m.next holeAt | _ => false

theorem calls_evF (hfit : P.follows .mixedOrders = true) {O : Orc} {F : Tell} {n : Nat} {f : FuncId} {args : List Value} {argsC : Array Value} {l : List Kept} {w : World} (hw : 0 < w.heap.size) (hr : RowsOk l w) (hO : @OrcSound (base hr) P O) (hF : @TellSound (base hr) P F) (ha : LRel (holes l) args argsC.toList)
    (h : saysTrue ((evF P O F n).call f args ⟨.leaf, 0⟩) = true) : Calls P f argsC w (fun e w' => e = .returned (.bool true) ∧ Below w.heap.size w w') := by
  intro cs
  cases hr' : (evF P O F n).call f args ⟨.leaf, 0⟩ with
  | none => rw [hr'] at h; cases h
  | some r =>
    obtain ⟨v, m'⟩ := r
    rw [hr'] at h
    have hv : v = .bool true ∧ m'.next ≤ holeAt := by
      unfold saysTrue at h
      split at h
      · rename_i e; cases e; exact ⟨rfl, Nat.le_of_ble_eq_true h⟩
      · cases h
    obtain ⟨rfl, hB⟩ := hv
    letI : Base := base hr
    obtain ⟨_, hs⟩ := (evF_sound ⟨hfit⟩ hO hF n).call f args ⟨.leaf, 0⟩ _ m' hr'
    have hbd : ∀ b j, holes l b = some j → holeAt ≤ b ∧ j.blk = 0 := fun b j hb => by
      unfold holes at hb
      by_cases e : holeAt ≤ b
      · rw [if_pos e] at hb
        cases hb
        refine ⟨e, ?_⟩
        split <;> rfl
      · rw [if_neg e] at hb; cases hb
    have hm : MRel (holes l) ⟨.leaf, 0⟩ w := ⟨fun b o j h _ => (by cases h), fun b b' o o' j j' h _ _ => (by cases h), fun b j h => by rw [(hbd b j h).2]; exact hw, fun b _ => rfl⟩
    obtain ⟨vC, w', ι', fr, s1, s2, s3, s4, s5, s6⟩ := hs (holes l) w argsC ha hm ⟨fun b _ h2 => by unfold holes; rw [if_neg (by omega)], fun b j h => h, fun b j h => absurd h (Nat.not_lt_zero _), Nat.le_refl _, fun _ _ => rfl⟩ cs
    cases s4
    refine ⟨.returned (.bool true), w', fr, ⟨rfl, s6.os, s6.tape, s6.output, s6.size, fun k hk => s6.keep k hk (fun b j h _ => absurd h (Nat.not_lt_zero _))⟩, s1, s3, s2⟩

theorem calls_evO (hfit : P.follows .mixedOrders = true) {O : Orc} {n : Nat} {f : FuncId} {args : List Value} {argsC : Array Value} {l : List Kept} {w : World} (hw : 0 < w.heap.size) (hr : RowsOk l w) (hO : @OrcSound (base hr) P O) (ha : LRel (holes l) args argsC.toList)
    (h : saysTrue ((evO P O n).call f args ⟨.leaf, 0⟩) = true) : Calls P f argsC w (fun e w' => e = .returned (.bool true) ∧ Below w.heap.size w w') :=
  calls_evF hfit hw hr hO (@noTell_sound P (base hr)) ha h

/-- nothing is answered from outside -/
def noOrc : Orc := fun _ _ _ => none
theorem noOrc_sound [Base] : OrcSound P noOrc := fun f args m v m' h => by cases h

/-- a call that the evaluator ran, from nothing -/
theorem calls_true (hfit : P.follows .mixedOrders = true) {n : Nat} {f : FuncId} {args : List Value} (h : saysTrue ((evO P noOrc n).call f args ⟨.leaf, 0⟩) = true) (hg : args.all ground = true) (w : World) (hw : 0 < w.heap.size) :
    Calls P f args.toArray w (fun e w' => e = .returned (.bool true) ∧ Below w.heap.size w w') :=
  calls_evO hfit (l := []) hw (fun k hk => by cases hk) (@noOrc_sound P (base _)) (ground_list hg) h
end Go.Ev
