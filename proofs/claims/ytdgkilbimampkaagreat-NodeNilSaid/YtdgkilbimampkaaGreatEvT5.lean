import Derived.Test.YtdgkilbimampkaaGreatEvT4
namespace Go.Ev
open Go Go.RowKit
variable {P : Program}

/-! ## For what is answered from outside -/
def isH (a : Array Value) (i h : Nat) : Bool := match a[i]? with | some (.pointer (some ⟨b, _, some 0⟩)) => Nat.beq b (holeAt + h) | _ => false
def isN (a : Array Value) (i : Nat) : Bool := match a[i]? with | some (.slice none 0 0) => true | _ => false
theorem isH_spec {a : Array Value} {i h : Nat} (e : isH a i h = true) : ∃ o, a[i]? = some (.pointer (some ⟨holeAt + h, o, some 0⟩)) := by
  unfold isH at e
  split at e
  · rename_i b o hb
    have : b = holeAt + h := Nat.eq_of_beq_eq_true e
    subst this
    exact ⟨o, hb⟩
  · cases e
theorem isN_spec {a : Array Value} {i : Nat} (e : isN a i = true) : a[i]? = some (.slice none 0 0) := by
  unfold isN at e
  split at e
  · assumption
  · cases e

theorem leaf_at {w : World} {ks : List LeafK} {flat : List Value} (h : LeavesOk w ks flat) {i : Nat} {k : LeafK} (hk : ks[i]? = some k) : ∃ v, flat[i]? = some v ∧ LeafOk w k v := by
  have hi := (List.getElem?_eq_some_iff.1 hk).1
  have hl := h.1
  refine ⟨flat[i], List.getElem?_eq_getElem (by omega), h.2 i k _ hk (List.getElem?_eq_getElem (by omega))⟩

theorem kept_at {rows : Bool} {ks : List LeafK} {flat : List Value} {i : Nat} {k : LeafK} {v : Value} (hk : ks[i]? = some k) (hv : flat[i]? = some v) : (keptAll rows ks flat)[i]? = some (keptOf rows k v) := by
  unfold keptAll
  rw [List.getElem?_zipWith, hk, hv]

theorem hole_is {l : List Kept} {w0 : World} (hr : RowsOk l w0) {ι : Inj} {m m' : AMem} {w : World} (hf : @Free (base hr) ι m m' w) {i o : Nat} {k : Kept} (hk : l[i]? = some k) {v : Value} (h : VRel ι (.pointer (some ⟨holeAt + i, o, some 0⟩)) v) : k.v = some v := by
  letI : Base := base hr
  cases h with
  | hole hj hv _ _ _ =>
    have h0 : holes l (holeAt + i) = some (@J.mk 0 0 0 k) := by
      unfold holes
      rw [if_pos (Nat.le_add_right _ _), Nat.add_sub_cancel_left, hk]
    have := hf.old _ _ h0
    rw [hj] at this
    cases this
    exact hv

/-- an aggregate's cell that is a hole -/
theorem cell_is {rows : Bool} {ks : List LeafK} {flat : List Value} {w0 : World} (hr : RowsOk (keptAll rows ks flat) w0) {ι : Inj} {m m' : AMem} {w : World} (hf : @Free (base hr) ι m m' w) {a c : Array Value} (hac : LRel ι a.toList c.toList) {i h : Nat} (hi : isH a i h = true) {k : LeafK} {v : Value} (hk : ks[h]? = some k) (hv : flat[h]? = some v) : c[i]? = some v := by
  obtain ⟨o, h1⟩ := isH_spec hi
  obtain ⟨v', h2, h3⟩ := hac.get (i := i) (v := .pointer (some ⟨holeAt + h, o, some 0⟩)) (by simpa using h1)
  have := hole_is hr hf (kept_at hk hv) h3
  cases this
  simpa using h2
theorem nil_is {ι : Inj} {a c : Array Value} (hac : LRel ι a.toList c.toList) {i : Nat} (hi : isN a i = true) : c[i]? = some (.slice none 0 0) := by
  obtain ⟨v', h2, h3⟩ := hac.get (i := i) (v := .slice none 0 0) (by simpa using isN_spec hi)
  cases h3
  simpa using h2

/-- a call that is true, from outside -/
theorem answers_true [Base] {f : FuncId} {args : List Value} {m : AMem} {b : Bool} (h : ∀ (w : World) (ι : Inj) (argsC : Array Value), LRel ι args argsC.toList → Free ι m m w → Calls P f argsC w (fun r u => r = .returned (.bool b) ∧ Below w.heap.size w u)) : Answers P f args m (.bool b) m :=
  answers_same fun ι w argsC ha _ hf => (h w ι argsC ha hf).mono fun _ _ ⟨h1, h2⟩ => ⟨_, h1, .bool b, h2⟩
theorem orc_of [Base] {O : Orc} (h : ∀ f args m v m', O f args m = some (v, m') → Answers P f args m v m') : OrcSound P O := fun f args m v m' e => h f args m v m' e
def at' (flat : List Value) (i : Nat) : Value := (flat[i]?).getD undef

/-- only what stands in a row's place has a length -/
theorem rows_small {w : World} {ks : List LeafK} {flat : List Value} (hok : LeavesOk w ks flat) (h : ∀ i, (∃ s, ks[i]? = some (.row s)) → rowLen (at' flat i) ≤ 2 ^ 23) : RowsOk (keptAll true ks flat) w := by
  refine rows_some hok fun v hv => ?_
  obtain ⟨i, hi, rfl⟩ := List.mem_iff_getElem.1 hv
  have hl := hok.1
  have hk : ks[i]? = some ks[i] := List.getElem?_eq_getElem (by omega)
  have := hok.2 i _ _ hk (List.getElem?_eq_getElem hi)
  generalize ks[i] = q at hk this
  cases q with
  | row s =>
    have := h i ⟨s, hk⟩
    unfold at' at this
    rw [List.getElem?_eq_getElem hi] at this
    exact this
  | bool => obtain ⟨b, e⟩ := this; rw [e]; exact Nat.zero_le _
  | int k => obtain ⟨b, e, _⟩ := this; rw [e]; exact Nat.zero_le _
  | str => obtain ⟨b, e, _⟩ := this; rw [e]; exact Nat.zero_le _

/-- the places of rows -/
def rowPlaces : List LeafK → Nat → List Nat
  | [], _ => []
  | .row _ :: ks, i => i :: rowPlaces ks (i + 1)
  | _ :: ks, i => rowPlaces ks (i + 1)
theorem rowPlaces_mem : ∀ (ks : List LeafK) (i q s : Nat), ks[q]? = some (.row s) → i + q ∈ rowPlaces ks i
  | [], i, q, s, h => by simp at h
  | k :: ks, i, q, s, h => by
    cases q with
    | zero => cases h; exact List.mem_cons_self
    | succ q =>
      have := rowPlaces_mem ks (i + 1) q s (by simpa using h)
      rw [show i + 1 + q = i + (q + 1) by omega] at this
      cases k with
      | row _ => exact List.mem_cons_of_mem _ this
      | bool => exact this
      | int _ => exact this
      | str => exact this
theorem rows_small_at {w : World} {ks : List LeafK} {flat : List Value} (hok : LeavesOk w ks flat) (h : ∀ i ∈ rowPlaces ks 0, rowLen (at' flat i) ≤ 2 ^ 23) : RowsOk (keptAll true ks flat) w :=
  rows_small hok fun i ⟨s, hs⟩ => h i (by have := rowPlaces_mem ks 0 i s hs; rwa [Nat.zero_add] at this)

theorem args_one {w : World} {k : LeafK} {r : List (Bool × List LeafK)} {vs flat : List Value} (h : ArgsOk w ((false, [k]) :: r) vs flat) : ∃ v vs' rest, vs = v :: vs' ∧ flat = v :: rest ∧ LeafOk w k v ∧ ArgsOk w r vs' rest := by
  cases vs with
  | nil => cases flat <;> exact False.elim h
  | cons v vs =>
    obtain ⟨rest, k', e, rfl, h1, h2⟩ := h
    cases e
    exact ⟨v, vs, rest, rfl, rfl, h1, h2⟩
theorem args_nil {w : World} {vs flat : List Value} (h : ArgsOk w [] vs flat) : vs = [] ∧ flat = [] := by
  cases vs with
  | nil => cases flat with
    | nil => exact ⟨rfl, rfl⟩
    | cons v flat => exact False.elim h
  | cons v vs => cases flat <;> exact False.elim h
end Go.Ev
