/- NodeConfigs: which configurations may be, and which nodes there are: for any seven arguments the law returns true. Conditions: none. -/
import Derived.Test.YtdgkilbimampkaaGreatNcK
import Derived.Test.YtdgkilbimampkaaGreatNcE
import Derived.Test.YtdgkilbimampkaaGreatNcF
import Derived.Test.YtdgkilbimampkaaGreatRows
namespace Go.Proofs.YtdgkilbimampkaaGreat
open Go Go.Ev Go.RowKit Go.ChangeShapes Go.WideShapes Go.ChangeAt

theorem own : ownKnob Tryz.prog.godebug = none := by kernel_rfl
theorem node_knows (w : World) (hw : 0 < w.heap.size) : Calls Tryz.prog 10 #[] w (fun e w' => e = .returned (.bool true) ∧ Below w.heap.size w w') :=
  calls_true fits (n := 300) (by rw [evO, ← evQ_eq]; exact node_run) rfl w hw

def confSh : List (Bool × List LeafK) := [(false, [.int .i64]), (false, [.int .i64]), (false, [.int .i64]), (false, [.int .i64]), (false, [.int .i64]), (false, [.int .i64]), (false, [.bool])]
theorem confSh_is : Tryz.f3.params.toList.mapM (shapeOf Tryz.prog 10) = some confSh := by kernel_rfl

abbrev i64K (n : Int) : Kept := { v := some (.int .i64 n) }
def confL (k h a l n m : Int) (f : Bool) : List Kept := [i64K k, i64K h, i64K a, i64K l, i64K n, i64K m, { v := some (.bool f) },
  i64K (IntKind.i64.wrap (2 * k)), i64K (IntKind.i64.wrap (1 * 2 ^ (min k.toNat 64))), i64K (if l < a then l else a), i64K (if l > a then l else a)]

theorem confL_rows (k h a l n m : Int) (f : Bool) (W : World) : RowsOk (confL k h a l n m f) W := by
  intro q hq s hs
  have : q.row = none := by
    unfold confL at hq
    simp only [List.mem_cons, List.not_mem_nil, or_false] at hq
    rcases hq with rfl | rfl | rfl | rfl | rfl | rfl | rfl | rfl | rfl | rfl | rfl <;> rfl
  rw [this] at hs; cases hs

/-- a case of the numbers -/
theorem conf_case (c : Case) {k h a l n m : Int} {f : Bool} {W : World} (hpos : 0 < W.heap.size) (hr : RngAll (confL k h a l n m f) c.1) (hs : ∀ r ∈ c.2, RuleOk (confL k h a l n m f) r) (hrun : ∀ b, runs c b = true) :
    Calls Tryz.prog 3 #[.int .i64 k, .int .i64 h, .int .i64 a, .int .i64 l, .int .i64 n, .int .i64 m, .bool f] W (fun e w' => e = .returned (.bool true) ∧ Below W.heap.size W w') := by
  have hrw := confL_rows k h a l n m f W
  have htab : TabOk (confL k h a l n m f) (orTab (ruleTab (rules ++ c.2)) (rngTab (rngOf c.1))) := by
    refine orTab_ok (ruleTab_ok fun r hr' => ?_) (rngTab_ok (rngOf_ok _ _ hr))
    rcases List.mem_append.1 hr' with h1 | h1
    · unfold rules at h1
      simp only [List.mem_cons, List.not_mem_nil, or_false] at h1
      rcases h1 with rfl | rfl
      · exact ⟨a, l, _, rfl, rfl, rfl, .inr ⟨9, rfl, rfl⟩⟩
      · exact ⟨a, l, _, rfl, rfl, rfl, .inr ⟨10, rfl, rfl⟩⟩
    · exact hs r h1
  refine calls_evF fits (n := 300) hpos hrw (knowsOrc_sound hpos hrw node_knows) (tellT_sound hrw htab) (args := [hl 0, hl 1, hl 2, hl 3, hl 4, hl 5, .bool f]) ?_ ?_
  · exact .cons (holes_rel (i := 0) rfl rfl rfl) (.cons (holes_rel (i := 1) rfl rfl rfl) (.cons (holes_rel (i := 2) rfl rfl rfl) (.cons (holes_rel (i := 3) rfl rfl rfl) (.cons (holes_rel (i := 4) rfl rfl rfl) (.cons (holes_rel (i := 5) rfl rfl rfl) (.cons (.bool f) .nil))))))
  · rw [← evQ_eq]; exact hrun f

theorem conf_any (k h a l n m : Int) (f : Bool) (W : World) (hpos : 0 < W.heap.size) (hk : (Lit.int .i64 k).wf = true) (hh : (Lit.int .i64 h).wf = true) (ha : (Lit.int .i64 a).wf = true) (hl' : (Lit.int .i64 l).wf = true) (hn : (Lit.int .i64 n).wf = true) (hm : (Lit.int .i64 m).wf = true) :
    Calls Tryz.prog 3 #[.int .i64 k, .int .i64 h, .int .i64 a, .int .i64 l, .int .i64 n, .int .i64 m, .bool f] W (fun e w' => e = .returned (.bool true) ∧ Below W.heap.size W w') := by
  have bd : ∀ x : Int, (Lit.int .i64 x).wf = true → -9223372036854775808 ≤ x ∧ x ≤ 9223372036854775808 := by
    intro x hx
    simp only [Lit.wf, Bool.and_eq_true, decide_eq_true_eq] at hx
    have e1 : IntKind.i64.min = -9223372036854775808 := by decide
    have e2 : IntKind.i64.max = 9223372036854775807 := by decide
    omega
  have bk := bd k hk
  have bh := bd h hh
  have ba := bd a ha
  have bl := bd l hl'
  have bn := bd n hn
  have bm := bd m hm
  clear hk hh ha hl' hn hm bd
  have nil : ∀ r ∈ ([] : List Rule), RuleOk (confL k h a l n m f) r := fun r hr => by cases hr
  have I : ∀ {x lo hi : Int}, lo ≤ x → x ≤ hi → ∃ n, (i64K x).v = some (.int .i64 n) ∧ lo ≤ n ∧ n ≤ hi := fun h1 h2 => ⟨_, rfl, h1, h2⟩
  by_cases c1 : k < 1
  · exact conf_case conf1 hpos ⟨I (by unfold B; omega) (by omega), trivial⟩ nil run1
  by_cases c2 : 16 < k
  · exact conf_case conf2 hpos ⟨I (by omega) (by unfold B; omega), trivial⟩ nil run2
  by_cases c3 : h < 0
  · exact conf_case conf3 hpos ⟨I (by omega) (by omega), I (by unfold B; omega) (by omega), trivial⟩ nil run3
  by_cases c4 : 4 < h
  · exact conf_case conf4 hpos ⟨I (by omega) (by omega), I (by omega) (by unfold B; omega), trivial⟩ nil run4
  have K : ∃ n, (i64K k).v = some (.int .i64 n) ∧ 1 ≤ n ∧ n ≤ 16 := I (by omega) (by omega)
  have HH : ∃ n, (i64K h).v = some (.int .i64 n) ∧ 0 ≤ n ∧ n ≤ 4 := I (by omega) (by omega)
  by_cases c5 : a < 1
  · exact conf_case conf5 hpos ⟨K, HH, I (by unfold B; omega) (by omega), I (by unfold B; split <;> omega) (by split <;> omega), trivial⟩ nil run5
  by_cases c6 : 1048576 < a
  · by_cases c7 : l < 1
    · exact conf_case conf6 hpos ⟨K, HH, I (by unfold L; omega) (by unfold B; omega), I (by unfold B; split <;> omega) (by split <;> omega), trivial⟩ nil run6
    · exact conf_case conf7 hpos ⟨K, HH, I (by unfold L; omega) (by unfold B; omega), I (by split <;> omega) (by unfold B; split <;> omega), I (by unfold L; split <;> omega) (by unfold B; split <;> omega), trivial⟩ nil run7
  have A : ∃ n, (i64K a).v = some (.int .i64 n) ∧ 1 ≤ n ∧ n ≤ L := I (by omega) (by unfold L; omega)
  by_cases c8 : l < 1
  · exact conf_case conf8 hpos ⟨K, HH, A, I (by unfold B; omega) (by omega), I (by unfold B; split <;> omega) (by split <;> omega), trivial⟩ nil run8
  by_cases c9 : 1048576 < l
  · exact conf_case conf9 hpos ⟨K, HH, A, I (by unfold L; omega) (by unfold B; omega), I (by split <;> omega) (by unfold B; split <;> omega), I (by unfold L; split <;> omega) (by unfold B; split <;> omega), trivial⟩ nil run9
  have LL : ∃ n, (i64K l).v = some (.int .i64 n) ∧ 1 ≤ n ∧ n ≤ L := I (by omega) (by unfold L; omega)
  have MN : ∃ n, (i64K (if l < a then l else a)).v = some (.int .i64 n) ∧ 1 ≤ n ∧ n ≤ L := I (by split <;> omega) (by unfold L; split <;> omega)
  have MX : ∃ n, (i64K (if l > a then l else a)).v = some (.int .i64 n) ∧ 1 ≤ n ∧ n ≤ L := I (by split <;> omega) (by unfold L; split <;> omega)
  by_cases c10 : n < 1
  · exact conf_case conf10 hpos ⟨K, HH, A, LL, I (by unfold B; omega) (by omega), MN, MX, trivial⟩ nil run10
  by_cases c11 : 8 < n
  · exact conf_case conf11 hpos ⟨K, HH, A, LL, I (by omega) (by unfold B; omega), MN, MX, trivial⟩ nil run11
  have NN : ∃ q, (i64K n).v = some (.int .i64 q) ∧ 1 ≤ q ∧ q ≤ 8 := I (by omega) (by omega)
  by_cases c12 : m < 0
  · exact conf_case conf12 hpos ⟨K, HH, A, LL, NN, I (by unfold B; omega) (by omega), MN, MX, trivial⟩ nil run12
  by_cases c13 : n ≤ m
  · refine conf_case conf13 hpos ⟨K, HH, A, LL, NN, I (by omega) (by unfold B; omega), MN, MX, trivial⟩ (fun r hr => ?_) run13
    have e1 : decide (m < n) = false := by simp; omega
    have e2 : decide (m ≥ n) = true := by simp; omega
    unfold conf13 at hr
    simp only [List.mem_cons, List.not_mem_nil, or_false] at hr
    rcases hr with rfl | rfl
    · exact ⟨m, n, .bool (decide (m < n)), rfl, rfl, rfl, .inl ⟨rfl, by rw [e1]⟩⟩
    · exact ⟨m, n, .bool (decide (m ≥ n)), rfl, rfl, rfl, .inl ⟨rfl, by rw [e2]⟩⟩
  · have w64 : ∀ x : Int, 0 ≤ x → x < 9223372036854775808 → IntKind.i64.wrap x = x := fun x h1 h2 => by rw [IntKind.wrap_i64]; omega
    have e7 : IntKind.i64.wrap (2 * k) = 2 * k := w64 _ (by omega) (by omega)
    have hpow : ∀ q : Nat, 1 ≤ q → q ≤ 16 → (2 : Int) ≤ 2 ^ q ∧ (2 : Int) ^ q ≤ 65536 := by
      intro q h1 h2
      have : q = 1 ∨ q = 2 ∨ q = 3 ∨ q = 4 ∨ q = 5 ∨ q = 6 ∨ q = 7 ∨ q = 8 ∨ q = 9 ∨ q = 10 ∨ q = 11 ∨ q = 12 ∨ q = 13 ∨ q = 14 ∨ q = 15 ∨ q = 16 := by omega
      rcases this with rfl | rfl | rfl | rfl | rfl | rfl | rfl | rfl | rfl | rfl | rfl | rfl | rfl | rfl | rfl | rfl <;> decide
    have hq : min k.toNat 64 = k.toNat := by omega
    have h2 := hpow k.toNat (by omega) (by omega)
    have e8 : IntKind.i64.wrap (1 * 2 ^ (min k.toNat 64)) = 2 ^ k.toNat := by rw [hq, Int.one_mul]; exact w64 _ (by omega) (by omega)
    refine conf_case conf14 hpos ⟨K, HH, A, LL, NN, I (by omega) (by omega), I (by rw [e7]; omega) (by rw [e7]; omega), I (by rw [e8]; exact h2.1) (by rw [e8]; exact h2.2), MN, MX, trivial⟩ (fun r hr => ?_) run14
    have e1 : decide (m < n) = true := by simp; omega
    have e2 : decide (m ≥ n) = false := by simp; omega
    unfold conf14 at hr
    simp only [List.mem_cons, List.not_mem_nil, or_false] at hr
    rcases hr with rfl | rfl | rfl | rfl
    · exact ⟨m, n, .bool (decide (m < n)), rfl, rfl, rfl, .inl ⟨rfl, by rw [e1]⟩⟩
    · exact ⟨m, n, .bool (decide (m ≥ n)), rfl, rfl, rfl, .inl ⟨rfl, by rw [e2]⟩⟩
    · exact ⟨2, k, _, rfl, rfl, rfl, .inr ⟨7, rfl, rfl⟩⟩
    · refine ⟨1, k, .int .i64 (IntKind.i64.wrap (1 * 2 ^ (min k.toNat 64))), rfl, rfl, ?_, .inr ⟨8, rfl, rfl⟩⟩
      simp only [iop]
      rw [if_neg (by omega)]

theorem conf_walk (W : World) (args : Array Value) (flat : List Value) (hpos : 0 < W.heap.size) (h : ArgsOk W confSh args.toList flat) : Calls Tryz.prog 3 args W (fun e w' => e = .returned (.bool true) ∧ Below W.heap.size W w') := by
  unfold confSh at h
  obtain ⟨_, _, _, e1, _, ⟨k, rfl, hk⟩, h⟩ := args_one h
  obtain ⟨_, _, _, e2, _, ⟨x2, rfl, hh⟩, h⟩ := args_one h
  obtain ⟨_, _, _, e3, _, ⟨x3, rfl, ha⟩, h⟩ := args_one h
  obtain ⟨_, _, _, e4, _, ⟨x4, rfl, hl⟩, h⟩ := args_one h
  obtain ⟨_, _, _, e5, _, ⟨x5, rfl, hn⟩, h⟩ := args_one h
  obtain ⟨_, _, _, e6, _, ⟨x6, rfl, hm⟩, h⟩ := args_one h
  obtain ⟨_, _, _, e7, _, ⟨f, rfl⟩, h⟩ := args_one h
  obtain ⟨rfl, _⟩ := args_nil h
  subst e7; subst e6; subst e5; subst e4; subst e3; subst e2
  have : args = #[.int .i64 k, .int .i64 x2, .int .i64 x3, .int .i64 x4, .int .i64 x5, .int .i64 x6, .bool f] := by
    apply Array.toList_inj.1; rw [e1]
  subst this
  exact conf_any k x2 x3 x4 x5 x6 f W hpos hk hh ha hl hn hm

set_option maxRecDepth 100000 in
theorem conf_lifted (os : Os) (started : os.Started) (H : Type) (enc : TypeId × Value → H) :
    ReturnsInHanded {} Tryz.checked os 3 .any (Rows.nodeConfigsSpec.pre6 enc Tryz.prog Tryz.f3 Rows.nodeConfigsRow.domain false) (Rows.nodeConfigsSpec.post enc Tryz.prog Tryz.f3 false true false false) :=
  law_lifted (C := Tryz.checked) own started (by kernel_rfl) Tryz.func3
    (ChangeSpec.witness6 (enc := enc) (C := Tryz.checked) false ⟨#[], #[.int .i64 0, .int .i64 0, .int .i64 0, .int .i64 0, .int .i64 0, .int .i64 0, .bool false], []⟩ 12 (by kernel_rfl) (by kernel_rfl) (by kernel_rfl) (by kernel_rfl))
    (of_decide_eq_true (by kernel_rfl)) laidOut (by kernel_rfl) (tb := 4) rfl Tryz.underlying4 rfl (fun ds h => by
      match ds, h with
      | [a, b, c, d, e, f, g], _ => rfl) confSh_is conf_walk

theorem conf_holds : Rows.NodeConfigsSaid :=
  OpenClaim.holds_of_wide 3 Tryz.f3 rfl rfl rfl rfl rfl rfl rfl ⟨rfl, rfl, rfl, rfl, rfl⟩ rfl rfl rfl rfl rfl conf_named Tryz.func3 conf_facts
    (of_decide_eq_true (by kernel_rfl)) (by unfold Func.isWrapper; first | (rw [if_pos (by decide +kernel)]; kernel_rfl) | (rw [if_neg (by decide +kernel)]; exact ⟨rfl, rfl⟩))
    (fun os started H enc _ => conf_lifted os started H enc)
end Go.Proofs.YtdgkilbimampkaaGreat
