import Derived.Test.YtdgkilbimampkaaGreatEvT2
import Derived.OpenShut
import Derived.Carry
namespace Go.Ev
open Go Go.RowKit
variable {P : Program}

/-! ## What a law is handed: its cells, one by one -/
inductive LeafK where
  | bool | int (k : IntKind) | str | row (s : Nat)

def LeafOk (w : World) : LeafK → Value → Prop
  | .bool, v => ∃ b, v = .bool b
  | .int k, v => ∃ n, v = .int k n ∧ (Lit.int k n).wf = true
  | .str, v => ∃ s, v = .string s ∧ s.size ≤ maxLen
  | .row s, v => ∃ a n c, v = .slice a n c ∧ (n ≤ 2 ^ 23 → RowOk w (some v) s)

def leavesF (f : TypeId → Option (List LeafK)) (P : Program) : List Field → Nat → Option (List LeafK)
  | [], _ => some []
  | fd :: l, acc => match f fd.type, leavesF f P l (acc + P.cellsOf fd.type) with
    | some ks, some r => bif Nat.beq fd.offset acc && Nat.beq ks.length (P.cellsOf fd.type) then some (ks ++ r) else none
    | _, _ => none

/-- the cells of a type -/
def leaves (P : Program) : Nat → TypeId → Option (List LeafK)
  | 0, _ => none
  | n + 1, t => match P.underlying t with
    | some .bool => some [.bool]
    | some (.int k) => some [.int k]
    | some .string => some [.str]
    | some (.slice e) => some [.row (P.cellsOf e)]
    | some (.struct fs) => match leavesF (leaves P n) P fs.toList 0 with
      | some ks => bif Nat.beq ks.length (P.cellsOf t) then some ks else none
      | none => none
    | some (.array k e) => match leaves P n e with
      | some ks => bif Nat.beq ks.length (P.cellsOf e) && Nat.beq (k * ks.length) (P.cellsOf t) then some (rep k ks) else none
      | none => none
    | _ => none

def LeavesOk (w : World) (ks : List LeafK) (cs : List Value) : Prop := ks.length = cs.length ∧ ∀ (i : Nat) (k : LeafK) (v : Value), ks[i]? = some k → cs[i]? = some v → LeafOk w k v

theorem LeavesOk.nil (w : World) : LeavesOk w [] [] := ⟨rfl, fun i k v h => by simp at h⟩
theorem LeavesOk.one {w : World} {k : LeafK} {v : Value} (h : LeafOk w k v) : LeavesOk w [k] [v] := ⟨rfl, fun i k' v' h1 h2 => by
  cases i with
  | zero => cases h1; cases h2; exact h
  | succ i => simp at h1⟩
theorem LeavesOk.append {w : World} {ks kr : List LeafK} {cs cr : List Value} (h : LeavesOk w ks cs) (g : LeavesOk w kr cr) : LeavesOk w (ks ++ kr) (cs ++ cr) := by
  refine ⟨by simp [h.1, g.1], fun i k v h1 h2 => ?_⟩
  have hl := h.1
  by_cases hi : i < ks.length
  · rw [List.getElem?_append_left hi] at h1
    rw [List.getElem?_append_left (by omega)] at h2
    exact h.2 i k v h1 h2
  · rw [List.getElem?_append_right (by omega)] at h1
    rw [List.getElem?_append_right (by omega), ← hl] at h2
    exact g.2 _ k v h1 h2

section
variable {H : Type} {enc : TypeId × Value → H} {w : World} {base : Nat} {spare : Nat → Bool} {held : Bool}

theorem add_add' (a : Addr) (i k : Nat) : (a.add i).add k = a.add (i + k) := by
  unfold Addr.add
  by_cases h1 : i = 0
  · subst h1; simp
  · by_cases h2 : k = 0
    · subst h2; simp [h1]
    · rw [if_neg h1, if_neg h2, if_neg (by omega)]; simp [Nat.add_assoc]

theorem cell_lt {w : World} {a : Addr} {v : Value} (h : w.cell? a = some v) : a.block < w.heap.size := by
  rcases Nat.lt_or_ge a.block w.heap.size with hl | hl
  · exact hl
  · unfold World.cell? at h
    rw [Array.getElem?_eq_none hl] at h
    cases h
theorem cell_keep {w w1 : World} {a : Addr} {v : Value} (h : w.cell? a = some v) (hw : ∀ c, c < w.heap.size → w1.heap[c]? = w.heap[c]?) : w1.cell? a = some v := by
  unfold World.cell? at h ⊢
  have := cell_lt (w := w) (a := a) (v := v) (by unfold World.cell?; exact h)
  rw [hw _ this]; exact h

theorem rowOk_cells {w : World} {a : Addr} {n c s : Nat} (hle : n ≤ 2 ^ 23) (h : ∀ q, q < n * s → ∃ v, w.cell? (a.add q) = some v) : RowOk w (some (.slice (some a) n c)) s := by
  refine ⟨_, _, _, rfl, hle, (List.range (n * s)).map fun q => (w.cell? (a.add q)).getD undef, by simp, fun P w1 h1 => ?_⟩
  unfold Builtin.firstCells
  have := run_loadCells_list (P := P) w1 a ((List.range (n * s)).map fun q => (w.cell? (a.add q)).getD undef) (fun i v hv => by
    have hi := (List.getElem?_eq_some_iff.1 hv).1
    simp only [List.length_map, List.length_range] at hi
    rw [List.getElem?_map, List.getElem?_range hi] at hv
    obtain ⟨x, hx⟩ := h i hi
    simp only [Option.map_some, hx, Option.getD_some, Option.some.injEq] at hv
    subst hv
    exact cell_keep hx h1)
  simpa using this

theorem rowOk_trod {t e : TypeId} {fuel : Nat} {cs : List Value} {x : DataW H × List MemPlace} (ht : P.underlying t = some (.slice e)) (h : DataW.trod enc P w base spare held fuel t cs = some x) : ∃ v, cs = [v] ∧ LeafOk w (.row (P.cellsOf e)) v := by
  rcases DataW.trod_slice ht h with ⟨rfl, _⟩ | ⟨a, len, cap, elems, rest, n, _, rfl, _, _, _, _, hlen, hel, _⟩
  · exact ⟨_, rfl, _, _, _, rfl, fun _ => rowOk_nil w _⟩
  · refine ⟨_, rfl, _, _, _, rfl, fun hle => rowOk_cells hle fun q hq => ?_⟩
    have hs : 0 < P.cellsOf e := by
      rcases Nat.eq_zero_or_pos (P.cellsOf e) with h0 | h0
      · rw [h0] at hq; omega
      · exact h0
    have hi : q / P.cellsOf e < len := (Nat.div_lt_iff_lt_mul hs).2 hq
    have h1 := hel _ hi
    rw [List.getElem?_eq_getElem (by omega)] at h1
    obtain ⟨l, h2, _⟩ := Option.bind_eq_some_iff.1 h1
    unfold World.cells? at h2
    split at h2
    · have hr : q % P.cellsOf e < P.cellsOf e := Nat.mod_lt _ hs
      have hlen2 := mapM_some_length h2
      have h3 := mapM_some_get h2 (q % P.cellsOf e) (q % P.cellsOf e) (List.getElem?_range hr)
      rw [List.getElem?_eq_getElem (by rw [hlen2]; simpa using hr)] at h3
      rw [add_add', Nat.mul_comm, Nat.div_add_mod] at h3
      exact ⟨_, h3⟩
    · cases h2

theorem leavesF_ok {f : TypeId → Option (List LeafK)} {fuel : Nat} (hf : ∀ t ks cs x, f t = some ks → DataW.trod enc P w base spare held fuel t cs = some x → LeavesOk w ks cs) :
    ∀ (fs : List Field) (acc : Nat) (ks : List LeafK) (cs : List Value) (xs : List (DataW H × List MemPlace)), leavesF f P fs acc = some ks → xs.length = fs.length → (∀ (i : Nat) (fd : Field), fs[i]? = some fd → DataW.trod enc P w base spare held fuel fd.type ((cs.drop fd.offset).take (P.cellsOf fd.type)) = xs[i]?) →
      acc + ks.length ≤ cs.length → LeavesOk w ks ((cs.drop acc).take ks.length)
  | [], acc, ks, cs, xs, h, _, _, _ => by
    cases h
    exact LeavesOk.nil w
  | fd :: fs, acc, ks, cs, xs, h, hl, hx, hlen => by
    unfold leavesF at h
    split at h
    case h_2 => cases h
    case h_1 k1 kr h1 h2 =>
      obtain ⟨hc, h⟩ := cond_some h
      cases h
      simp only [Bool.and_eq_true] at hc
      have ho := beq_of hc.1
      have hn := beq_of hc.2
      cases xs with
      | nil => simp at hl
      | cons x xs =>
        have hx0 := hx 0 fd rfl
        rw [ho] at hx0
        simp only [List.getElem?_cons_zero] at hx0
        have g1 := hf _ _ _ _ h1 hx0
        rw [List.length_append] at hlen
        have g2 := leavesF_ok hf fs (acc + P.cellsOf fd.type) kr cs xs h2 (by simpa using hl) (fun i fd' hfd => hx (i + 1) fd' (by simpa using hfd)) (by omega)
        have e : (cs.drop acc).take (k1 ++ kr).length = (cs.drop acc).take (P.cellsOf fd.type) ++ (cs.drop (acc + P.cellsOf fd.type)).take kr.length := by
          rw [List.length_append, hn, List.take_add, List.drop_drop]
        rw [e]
        exact g1.append g2

theorem rep_ok {w : World} {ks : List LeafK} : ∀ (k : Nat) (cs : List Value), cs.length = k * ks.length → (∀ i, i < k → LeavesOk w ks ((cs.drop (i * ks.length)).take ks.length)) → LeavesOk w (rep k ks) cs
  | 0, cs, hl, _ => by
    have : cs = [] := by simpa using hl
    subst this
    exact LeavesOk.nil w
  | k + 1, cs, hl, h => by
    have h0 := h 0 (Nat.succ_pos _)
    rw [Nat.zero_mul, List.drop_zero] at h0
    have hr := rep_ok (w := w) (ks := ks) k (cs.drop ks.length) (by rw [List.length_drop, hl, Nat.add_mul]; omega) (fun i hi => by
      have := h (i + 1) (by omega)
      rw [List.drop_drop, show ks.length + i * ks.length = (i + 1) * ks.length by rw [Nat.add_mul]; omega]
      exact this)
    have e : cs = cs.take ks.length ++ cs.drop ks.length := (List.take_append_drop _ _).symm
    rw [e]
    exact h0.append hr

theorem leaves_ok : ∀ (n : Nat) (fuel : Nat) (t : TypeId) (ks : List LeafK) (cs : List Value) (x : DataW H × List MemPlace), leaves P n t = some ks → DataW.trod enc P w base spare held fuel t cs = some x → LeavesOk w ks cs
  | 0, _, _, _, _, _, h, _ => by cases h
  | n + 1, fuel, t, ks, cs, x, h, hx => by
    unfold leaves at h
    split at h
    case h_1 hu =>
      cases h
      obtain ⟨b, rfl, _⟩ := DataW.trod_bool hu hx
      exact LeavesOk.one ⟨b, rfl⟩
    case h_2 k hu =>
      obtain ⟨m, rfl, _, hw⟩ := DataW.trod_int hu hx
      cases h
      exact LeavesOk.one ⟨m, rfl, hw⟩
    case h_3 hu =>
      obtain ⟨s, rfl, _, hw⟩ := DataW.trod_string hu hx
      cases h
      exact LeavesOk.one ⟨s, rfl, hw⟩
    case h_4 e hu =>
      cases h
      obtain ⟨v, rfl, hv⟩ := rowOk_trod hu hx
      exact LeavesOk.one hv
    case h_5 fs hu =>
      split at h
      case h_2 => cases h
      case h_1 ks' hks =>
        obtain ⟨hc, h⟩ := cond_some h
        cases h
        have hc := beq_of hc
        obtain ⟨xs, m, rfl, _, hlen, hxl, hfs⟩ := DataW.trod_struct hu hx
        have := leavesF_ok (f := leaves P n) (fuel := m) (fun t ks cs x h1 h2 => leaves_ok n m t ks cs x h1 h2) fs.toList 0 ks cs xs hks (by simpa using hxl) (fun i fd hfd => hfs i fd (by simpa using hfd)) (by omega)
        rw [List.drop_zero, List.take_of_length_le (by omega)] at this
        exact this
    case h_6 k e hu =>
      split at h
      case h_2 => cases h
      case h_1 ks' hks =>
        obtain ⟨hc, h⟩ := cond_some h
        cases h
        simp only [Bool.and_eq_true] at hc
        have hc1 := beq_of hc.1
        have hc2 := beq_of hc.2
        obtain ⟨xs, m, rfl, _, hlen, hxl, hfs⟩ := DataW.trod_array hu hx
        refine rep_ok k cs (by omega) fun i hi => ?_
        have h1 := hfs i hi
        rw [List.getElem?_eq_getElem (by omega), ← hc1] at h1
        exact leaves_ok n m e ks' _ _ hks h1
    case h_7 => cases h
end

/-! ## The same, as the evaluator's values -/
section
variable (hide : Nat → Bool) (rows : Bool) (bv : Nat → Bool) (iv : Nat → Int) (sv : Nat → ByteArray)
def absOf (i : Nat) : LeafK → Value
  | .bool => bif hide i then .pointer (some ⟨holeAt + i, 0, some 0⟩) else .bool (bv i)
  | .int k => bif hide i then .pointer (some ⟨holeAt + i, 0, some 0⟩) else .int k (iv i)
  | .str => bif hide i then .pointer (some ⟨holeAt + i, 0, some 0⟩) else .string (sv i)
  | .row s => .pointer (some ⟨holeAt + i, bif rows then s + 1 else 0, some 0⟩)
def absL : List LeafK → Nat → List Value
  | [], _ => []
  | k :: ks, i => absOf hide rows bv iv sv i k :: absL ks (i + 1)
/-- of each argument: is it an aggregate, its cells -/
def absArgs : List (Bool × List LeafK) → Nat → List Value
  | [], _ => []
  | (true, ks) :: r, i => .agg (absL hide rows bv iv sv ks i).toArray :: absArgs r (i + ks.length)
  | (false, k :: _) :: r, i => absOf hide rows bv iv sv i k :: absArgs r (i + 1)
  | (false, []) :: r, i => absArgs r i
end

def shapeOf (P : Program) (n : Nat) (t : TypeId) : Option (Bool × List LeafK) :=
  match isAggT P t, leaves P n t with
  | some true, some ks => some (true, ks)
  | some false, some [k] => some (false, [k])
  | _, _ => none

/-- the arguments and their cells -/
def ArgsOk (w : World) : List (Bool × List LeafK) → List Value → List Value → Prop
  | [], [], [] => True
  | (true, ks) :: r, v :: vs, flat => ∃ cs rest, flat = cs ++ rest ∧ v = .agg cs.toArray ∧ LeavesOk w ks cs ∧ ArgsOk w r vs rest
  | (false, ks) :: r, v :: vs, flat => ∃ rest k, ks = [k] ∧ flat = v :: rest ∧ LeafOk w k v ∧ ArgsOk w r vs rest
  | _, _, _ => False

abbrev keptOf (rows : Bool) (k : LeafK) (v : Value) : Kept := { v := some v, row := match k with | .row s => bif rows then some s else none | _ => none }
def bOf (flat : List Value) (i : Nat) : Bool := match flat[i]? with | some (.bool b) => b | _ => false
def iOf (flat : List Value) (i : Nat) : Int := match flat[i]? with | some (.int _ n) => n | _ => 0
def sOf (flat : List Value) (i : Nat) : ByteArray := match flat[i]? with | some (.string s) => s | _ => .empty
def allK (shs : List (Bool × List LeafK)) : List LeafK := shs.flatMap (·.2)

theorem absOf_rel {hide : Nat → Bool} {rows : Bool} {flat : List Value} {l : List Kept} {w : World} {k : LeafK} {v : Value} {i : Nat} (hl : l[i]? = some (keptOf rows k v)) (hv : flat[i]? = some v) (h : LeafOk w k v) : VRel (holes l) (absOf hide rows (bOf flat) (iOf flat) (sOf flat) i k) v := by
  cases k with
  | bool =>
    obtain ⟨b, rfl⟩ := h
    unfold absOf
    cases hide i with
    | true => exact holes_rel hl rfl rfl
    | false => unfold bOf; rw [hv]; exact .bool b
  | int k =>
    obtain ⟨n, rfl, _⟩ := h
    unfold absOf
    cases hide i with
    | true => exact holes_rel hl rfl rfl
    | false => unfold iOf; rw [hv]; exact .int k n
  | str =>
    obtain ⟨s, rfl, _⟩ := h
    unfold absOf
    cases hide i with
    | true => exact holes_rel hl rfl rfl
    | false => unfold sOf; rw [hv]; exact .string s
  | row s =>
    obtain ⟨a, n, c, rfl, _⟩ := h
    cases rows with
    | true => exact holes_row hl rfl rfl
    | false => exact holes_rel hl rfl rfl

theorem absL_rel {hide : Nat → Bool} {rows : Bool} {flat : List Value} {l : List Kept} {w : World} : ∀ (ks : List LeafK) (cs : List Value) (i : Nat), LeavesOk w ks cs → (∀ q k v, ks[q]? = some k → cs[q]? = some v → l[i + q]? = some (keptOf rows k v) ∧ flat[i + q]? = some v) →
    LRel (holes l) (absL hide rows (bOf flat) (iOf flat) (sOf flat) ks i) cs
  | [], [], i, _, _ => .nil
  | [], _ :: _, _, h, _ => by have := h.1; simp at this
  | _ :: _, [], _, h, _ => by have := h.1; simp at this
  | k :: ks, v :: cs, i, h, hl => by
    obtain ⟨h1, h2⟩ := hl 0 k v rfl rfl
    refine .cons (absOf_rel h1 h2 (h.2 0 k v rfl rfl)) (absL_rel ks cs (i + 1) ⟨by have := h.1; simpa using this, fun q k' v' g1 g2 => h.2 (q + 1) k' v' (by simpa using g1) (by simpa using g2)⟩ fun q k' v' g1 g2 => ?_)
    have := hl (q + 1) k' v' (by simpa using g1) (by simpa using g2)
    rw [show i + 1 + q = i + (q + 1) by omega]
    exact this

theorem args_all {w : World} : ∀ (shs : List (Bool × List LeafK)) (args flat : List Value), ArgsOk w shs args flat → LeavesOk w (allK shs) flat
  | [], [], [], _ => LeavesOk.nil w
  | (true, ks) :: r, v :: vs, flat, h => by
    obtain ⟨cs, rest, rfl, _, h1, h2⟩ := h
    exact h1.append (args_all r vs rest h2)
  | (false, ks) :: r, v :: vs, flat, h => by
    obtain ⟨rest, k, rfl, rfl, h1, h2⟩ := h
    exact (LeavesOk.one h1).append (args_all r vs rest h2)

theorem args_rel_go {hide : Nat → Bool} {rows : Bool} {flat : List Value} {l : List Kept} {w : World} : ∀ (shs : List (Bool × List LeafK)) (args fl : List Value) (i : Nat), ArgsOk w shs args fl → (∀ q k v, (allK shs)[q]? = some k → fl[q]? = some v → l[i + q]? = some (keptOf rows k v) ∧ flat[i + q]? = some v) →
    LRel (holes l) (absArgs hide rows (bOf flat) (iOf flat) (sOf flat) shs i) args
  | [], [], [], _, _, _ => .nil
  | (true, ks) :: r, v :: vs, fl, i, h, hl => by
    obtain ⟨cs, rest, rfl, rfl, h1, h2⟩ := h
    refine .cons (.agg (absL_rel ks cs i h1 fun q k v g1 g2 => hl q k v ?_ ?_)) (args_rel_go r vs rest (i + ks.length) h2 fun q k v g1 g2 => ?_)
    · have hq := (List.getElem?_eq_some_iff.1 g1).1
      show (ks ++ allK r)[q]? = _
      rw [List.getElem?_append_left hq]; exact g1
    · have hq := (List.getElem?_eq_some_iff.1 g2).1
      rw [List.getElem?_append_left hq]; exact g2
    · have e := h1.1
      rw [Nat.add_assoc]
      refine hl (ks.length + q) k v ?_ ?_
      · show (ks ++ allK r)[_]? = _
        rw [List.getElem?_append_right (by omega), Nat.add_sub_cancel_left]; exact g1
      · rw [List.getElem?_append_right (by omega), show ks.length + q - cs.length = q by omega]; exact g2
  | (false, ks) :: r, v :: vs, fl, i, h, hl => by
    obtain ⟨rest, k, rfl, rfl, h1, h2⟩ := h
    obtain ⟨g1, g2⟩ := hl 0 k v rfl rfl
    refine .cons (absOf_rel g1 g2 h1) (args_rel_go r vs rest (i + 1) h2 fun q k' v' g1 g2 => ?_)
    rw [show i + 1 + q = i + (q + 1) by omega]
    exact hl (q + 1) k' v' (by simpa [allK] using g1) (by simpa using g2)

def keptAll (rows : Bool) (ks : List LeafK) (flat : List Value) : List Kept := ks.zipWith (keptOf rows) flat

theorem args_relX {hide : Nat → Bool} {rows : Bool} {flat : List Value} {w : World} {shs : List (Bool × List LeafK)} {args : List Value} (ext : List Kept) (h : ArgsOk w shs args flat) :
    LRel (holes (keptAll rows (allK shs) flat ++ ext)) (absArgs hide rows (bOf flat) (iOf flat) (sOf flat) shs 0) args := by
  refine args_rel_go shs args flat 0 h fun q k v g1 g2 => ⟨?_, by rw [Nat.zero_add]; exact g2⟩
  rw [Nat.zero_add]
  have e : (keptAll rows (allK shs) flat)[q]? = some (keptOf rows k v) := by
    unfold keptAll
    rw [List.getElem?_zipWith, g1, g2]
  rw [List.getElem?_append_left (List.getElem?_eq_some_iff.1 e).1]
  exact e
theorem args_rel {hide : Nat → Bool} {rows : Bool} {flat : List Value} {w : World} {shs : List (Bool × List LeafK)} {args : List Value} (h : ArgsOk w shs args flat) :
    LRel (holes (keptAll rows (allK shs) flat)) (absArgs hide rows (bOf flat) (iOf flat) (sOf flat) shs 0) args := by
  have := args_relX (hide := hide) (rows := rows) [] h
  rwa [List.append_nil] at this

theorem rows_ext {l ext : List Kept} {w : World} (h : RowsOk l w) (he : ∀ k ∈ ext, k.row = none) : RowsOk (l ++ ext) w := by
  intro k hk s hs
  rcases List.mem_append.1 hk with hk | hk
  · exact h k hk s hs
  · rw [he k hk] at hs; cases hs

theorem rows_none {w : World} {ks : List LeafK} {flat : List Value} : RowsOk (keptAll false ks flat) w := by
  intro k hk s hs
  unfold keptAll at hk
  obtain ⟨i, hi, rfl⟩ := List.mem_iff_getElem.1 hk
  rw [List.getElem_zipWith] at hs
  unfold keptOf at hs
  simp only at hs
  split at hs <;> cases hs

/-- how long a row is -/
def rowLen : Value → Nat | .slice _ n _ => n | _ => 0
theorem rows_some {w : World} {ks : List LeafK} {flat : List Value} (h : LeavesOk w ks flat) (hn : ∀ v ∈ flat, rowLen v ≤ 2 ^ 23) : RowsOk (keptAll true ks flat) w := by
  intro k hk s hs
  unfold keptAll at hk
  obtain ⟨i, hi, rfl⟩ := List.mem_iff_getElem.1 hk
  rw [List.length_zipWith] at hi
  rw [List.getElem_zipWith] at hs ⊢
  have h1 := h.2 i ks[i] flat[i] (List.getElem?_eq_getElem _) (List.getElem?_eq_getElem _)
  have h2 := hn flat[i] (List.getElem_mem _)
  generalize ks[i] = q at hs h1
  cases q with
  | row s' =>
    cases hs
    obtain ⟨a, n, c, e, h3⟩ := h1
    rw [e] at h2
    exact h3 h2
  | bool => cases hs
  | int k => cases hs
  | str => cases hs

theorem agg_of_okWide {t : TypeId} {v : Value} {w : World} {b0 : Nat} (h : isAggT P t = some true) (hv : Value.okWide P w .any b0 t v) : ∃ cs, v = .agg cs := by
  unfold isAggT at h
  unfold Value.okWide at hv
  split at h
  · rename_i e; rw [e] at hv; obtain ⟨cs, rfl, _⟩ := hv; exact ⟨_, rfl⟩
  · rename_i e; rw [e] at hv; obtain ⟨cs, rfl, _⟩ := hv; exact ⟨_, rfl⟩
  · cases h
  · cases h

theorem cells_of_okWide {t : TypeId} {v : Value} {w : World} {b0 : Nat} (h : isAggT P t = some false) (hv : Value.okWide P w .any b0 t v) : v.cells = #[v] := by
  cases v with
  | agg cs =>
    exfalso
    unfold isAggT at h
    unfold Value.okWide at hv
    cases hu : P.underlying t with
    | none => rw [hu] at h; cases h
    | some d =>
      rw [hu] at h hv
      cases d <;> simp_all [Cell.okWide, Cell.ok]
  | _ => rfl

theorem args_open {H : Type} {enc : TypeId × Value → H} {w : World} {n b0 : Nat} : ∀ (ts : List TypeId) (vs : List Value) (ds : List (DataW H)) (p : List MemPlace) (shs : List (Bool × List LeafK)), ts.mapM (shapeOf P n) = some shs → DataW.TrodAll enc P w 0 (fun _ => true) true ts vs ds p →
    (∀ (j : Nat) (t : TypeId) (v : Value), ts[j]? = some t → vs[j]? = some v → Value.okWide P w .any b0 t v) → ∃ flat, ArgsOk w shs vs flat
  | [], [], [], p, shs, h, _, _ => by
    have : shs = [] := by simpa using h.symm
    subst this
    exact ⟨[], trivial⟩
  | t :: ts, v :: vs, d :: ds, p, shs, h, hA, hv => by
    obtain ⟨p1, q, ⟨fuel, h1⟩, h2, _⟩ := hA
    rw [List.mapM_cons] at h
    obtain ⟨s, hs, h⟩ := Option.bind_eq_some_iff.1 h
    obtain ⟨r, hr, h⟩ := Option.bind_eq_some_iff.1 h
    cases h
    obtain ⟨flat, ih⟩ := args_open ts vs ds q r hr h2 (fun j t' v' g1 g2 => hv (j + 1) t' v' (by simpa using g1) (by simpa using g2))
    have hv0 := hv 0 t v rfl rfl
    unfold shapeOf at hs
    split at hs
    case h_1 ks ha hk =>
      cases hs
      obtain ⟨cs, rfl⟩ := agg_of_okWide ha hv0
      exact ⟨cs.toList ++ flat, cs.toList, flat, rfl, rfl, leaves_ok n fuel t ks _ _ hk h1, ih⟩
    case h_2 k ha hk =>
      cases hs
      have hc := cells_of_okWide ha hv0
      rw [hc] at h1
      have := leaves_ok n fuel t [k] _ _ hk h1
      exact ⟨v :: flat, flat, k, rfl, rfl, this.2 0 k v rfl rfl, ih⟩
    case h_3 => cases hs
  | [], [], _ :: _, _, _, _, h, _ => h.elim
  | [], _ :: _, _, _, _, _, h, _ => by cases ‹List (DataW H)› <;> exact h.elim
  | _ :: _, [], _, _, _, _, h, _ => h.elim
  | _ :: _, _ :: _, [], _, _, _, h, _ => h.elim

theorem trodAll_below {H : Type} {enc : TypeId × Value → H} {w w' : World} {sp : Nat → Bool} (hl : laidOutB P = true) (hb : Below w.heap.size w w') : ∀ (ts : List TypeId) (vs : List Value) (ds : List (DataW H)) (p : List MemPlace), ts.all (fun t => P.readableRec t && decide (t < P.types.size)) = true → (∀ x ∈ p, x.block < w.heap.size ∧ sp x.block = true) →
    DataW.TrodAll enc P w 0 (fun _ => true) true ts vs ds p → DataW.TrodAll enc P w' 0 sp true ts vs ds p
  | [], [], [], p, _, _, h => h
  | t :: ts, v :: vs, d :: ds, p, hr, hlt, h => by
    obtain ⟨p1, q, h1, h2, rfl⟩ := h
    rw [List.all_cons, Bool.and_eq_true, Bool.and_eq_true, decide_eq_true_eq] at hr
    exact ⟨p1, q, WideElems.Trod_stays hl hr.1.1 hr.1.2 h1 (fun x hx => hb.same (hlt x (List.mem_append_left _ hx)).1) (fun x hx => (hlt x (List.mem_append_left _ hx)).2), trodAll_below hl hb ts vs ds q hr.2 (fun x hx => hlt x (List.mem_append_right _ hx)) h2, rfl⟩
  | [], [], _ :: _, _, _, _, h => h.elim
  | [], _ :: _, _, _, _, _, h => by cases ‹List (DataW H)› <;> exact h.elim
  | _ :: _, [], _, _, _, _, h => h.elim
  | _ :: _, _ :: _, [], _, _, _, h => h.elim

theorem trodAll_len {H : Type} {enc : TypeId × Value → H} {w : World} {sp : Nat → Bool} : ∀ (ts : List TypeId) (vs : List Value) (ds : List (DataW H)) (p : List MemPlace), DataW.TrodAll enc P w 0 sp true ts vs ds p → ds.length = ts.length
  | [], [], [], p, _ => rfl
  | t :: ts, v :: vs, d :: ds, p, h => by
    obtain ⟨p1, q, h1, h2, rfl⟩ := h
    simp [trodAll_len ts vs ds q h2]
  | [], [], _ :: _, _, h => h.elim
  | [], _ :: _, _, _, h => by cases ‹List (DataW H)› <;> exact h.elim
  | _ :: _, [], _, _, h => h.elim
  | _ :: _, _ :: _, [], _, h => h.elim
end Go.Ev
