/- NodeNil: no node, and one that nobody made, refuse each call; for any cell, bytes and number the law returns true. Conditions: none. -/
import Derived.Test.YtdgkilbimampkaaGreatNcK
import Derived.Test.YtdgkilbimampkaaGreatNnE
import Derived.Test.YtdgkilbimampkaaGreatNnF
namespace Go.Proofs.YtdgkilbimampkaaGreat
open Go Go.Ev Go.RowKit Go.ChangeShapes Go.WideShapes Go.ChangeAt

theorem nodenil_own : ownKnob Tryz.prog.godebug = none := by kernel_rfl
theorem nodenil_knows (w : World) (hw : 0 < w.heap.size) : Calls Tryz.prog 10 #[] w (fun e w' => e = .returned (.bool true) ∧ Below w.heap.size w w') :=
  calls_true fits (n := 300) (by rw [evO, ← evQ_eq]; exact node_run) rfl w hw

theorem nil_walk (W : World) (args : Array Value) (flat : List Value) (hpos : 0 < W.heap.size) (h : ArgsOk W nilSh args.toList flat) : Calls Tryz.prog 5 args W (fun e w' => e = .returned (.bool true) ∧ Below W.heap.size W w') := by
  have hok := args_all _ _ _ h
  obtain ⟨v2, f2, a, n, c, rfl, _⟩ := leaf_at hok (i := 2) (k := .row 1) rfl
  have hlen : flat.length = 4 := hok.1.symm
  let L : List Kept := keptAll false (allK nilSh) flat ++ [{ v := some (goInt n) }]
  have hk : L[2]? = some (keptOf false (.row 1) (.slice a n c)) := by
    have := kept_at (rows := false) (ks := allK nilSh) (flat := flat) (i := 2) (k := .row 1) rfl f2
    show (keptAll false (allK nilSh) flat ++ _)[2]? = _
    rw [List.getElem?_append_left (List.getElem?_eq_some_iff.1 this).1]
    exact this
  have hkl : (keptAll false (allK nilSh) flat).length = 4 := by
    unfold keptAll
    rw [List.length_zipWith, hlen]
    rfl
  have hj : L[4]? = some { v := some (goInt n) } := by
    show (keptAll false (allK nilSh) flat ++ [_])[4]? = _
    rw [List.getElem?_append_right (by omega), hkl]
    rfl
  have hr : RowsOk L W := rows_ext rows_none (fun k hk => by simp only [List.mem_cons, List.not_mem_nil, or_false] at hk; subst hk; rfl)
  have go : ∀ b : Bool, (b = true → 5000 < (n : Int)) → (b = false → (n : Int) ≤ 5000) →
      Calls Tryz.prog 5 args W (fun e w' => e = .returned (.bool true) ∧ Below W.heap.size W w') := by
    intro b h1 h2
    have hrng : RngOk L (rngOf (nilR b n)) := by
      intro i lo hi e
      match i, e with
      | 4, e =>
        refine ⟨n, ?_, ?_⟩
        · unfold denOf; rw [hj]; rfl
        · cases b with
          | true => cases e; have := h1 rfl; omega
          | false => cases e; have := h2 rfl; omega
      | 0, e => cases e
      | 1, e => cases e
      | 2, e => cases e
      | 3, e => cases e
      | k + 5, e => cases e
    refine calls_evF fits (n := 300) hpos hr (knowsOrc_sound hpos hr nodenil_knows) (@orTell_sound _ (base hr) _ _ (tellLen_sound hr hk rfl hj) (tellT_sound hr (rngTab_ok hrng))) (args_relX (hide := fun _ => true) _ h) ?_
    rw [← evQ_eq]
    cases b with
    | true => exact nil_yes _ _ _ _
    | false => exact nil_no _ _ _ _
  by_cases hn : (n : Int) ≤ 5000
  · exact go false (fun e => by cases e) (fun _ => hn)
  · exact go true (fun _ => by omega) (fun e => by cases e)

set_option maxRecDepth 100000 in
theorem nil_lifted (os : Os) (started : os.Started) (H : Type) (enc : TypeId × Value → H) :
    ReturnsInHanded {} Tryz.checked os 5 .any (Rows.nodeNilSpec.pre6 enc Tryz.prog Tryz.f5 Rows.nodeNilRow.domain false) (Rows.nodeNilSpec.post enc Tryz.prog Tryz.f5 false true false false) :=
  law_lifted (C := Tryz.checked) nodenil_own started (by kernel_rfl) Tryz.func5
    (ChangeSpec.witness6 (enc := enc) (C := Tryz.checked) false ⟨#[], #[.agg #[.int .i64 0, .int .i64 0], .slice none 0 0, .int .i64 0], []⟩ 12 (by kernel_rfl) (by kernel_rfl) (by kernel_rfl) (by kernel_rfl))
    (of_decide_eq_true (by kernel_rfl)) laidOut (by kernel_rfl) (tb := 4) rfl Tryz.underlying4 rfl (fun ds h => by
      match ds, h with
      | [a, b, c], _ => rfl) nilSh_is nil_walk

theorem nil_holds : Rows.NodeNilSaid :=
  OpenClaim.holds_of_wide 5 Tryz.f5 rfl rfl rfl rfl rfl rfl rfl ⟨rfl, rfl, rfl, rfl, rfl⟩ rfl rfl rfl rfl rfl nodenil_named Tryz.func5 nodenil_facts
    (of_decide_eq_true (by kernel_rfl)) (by unfold Func.isWrapper; first | (rw [if_pos (by decide +kernel)]; kernel_rfl) | (rw [if_neg (by decide +kernel)]; exact ⟨rfl, rfl⟩))
    (fun os started H enc _ => nil_lifted os started H enc)
#print axioms nil_holds
end Go.Proofs.YtdgkilbimampkaaGreat
