import Derived.Test.YtibbgmimjdbcfaaGreatSnK
import Derived.Test.YtibbgmimjdbcfaaGreatSnL
import Derived.Test.YtibbgmimjdbcfaaGreatSnE
namespace Go.Proofs.YtibbgmimjdbcfaaGreat
open Go Go.Ev Go.RowKit

theorem light_of {c : Array Value} {a8 a20 a21 : Option Addr} {n8 k8 n20 k20 n21 k21 : Nat} {s13 s14 : ByteArray} (hs : c.size = 22) (h8 : c[8]? = some (.slice a8 n8 k8)) (h13 : c[13]? = some (.string s13)) (h14 : c[14]? = some (.string s14))
    (h20 : c[20]? = some (.slice a20 n20 k20)) (h21 : c[21]? = some (.slice a21 n21 k21)) (w : World) :
    Calls Tryz.prog 39 #[.agg c] w (LightIs (lightB n21 n8 n20 s13.size s14.size) w) := by
  obtain ⟨l⟩ := c
  match l, hs with
  | [c0, c1, c2, c3, c4, c5, c6, c7, c8, c9, c10, c11, c12, c13, c14, c15, c16, c17, c18, c19, c20, c21], _ =>
    obtain rfl : c8 = _ := Option.some.inj h8
    obtain rfl : c13 = _ := Option.some.inj h13
    obtain rfl : c14 = _ := Option.some.inj h14
    obtain rfl : c20 = _ := Option.some.inj h20
    obtain rfl : c21 = _ := Option.some.inj h21
    exact light_any _ _ _ _ _ _ _ _ _ _ _ _ _ _ _ _ _ _ _ _ _ _ _ _ _ _ _ _ w

def strLen : Value → Nat | .string s => s.size | _ => 0
/-- is what stands at n a light note, what stands at e a light entry? -/
def noteB (flat : List Value) (n : Nat) : Bool := lightB (rowLen (at' flat (n + 21))) (rowLen (at' flat (n + 8))) (rowLen (at' flat (n + 20))) (strLen (at' flat (n + 13))) (strLen (at' flat (n + 14)))
def entB (flat : List Value) (e : Nat) : Bool := lightB 0 0 (rowLen (at' flat (e + 11))) (strLen (at' flat (e + 4))) (strLen (at' flat (e + 5)))

def noteAt (ks : List LeafK) (n : Nat) : Prop := ks[n + 8]? = some (.row 1) ∧ ks[n + 13]? = some .str ∧ ks[n + 14]? = some .str ∧ ks[n + 20]? = some (.row 1) ∧ ks[n + 21]? = some (.row 1)
def entAt (ks : List LeafK) (e : Nat) : Prop := ks[e + 4]? = some .str ∧ ks[e + 5]? = some .str ∧ ks[e + 11]? = some (.row 1)

theorem orc_sound {rows : Bool} {ks : List LeafK} {flat : List Value} {w0 : World} (hw0 : 0 < w0.heap.size) (hr : RowsOk (keptAll rows ks flat) w0) (hok : LeavesOk w0 ks flat) {n e : Nat} (hn : noteAt ks n) (he : entAt ks e) {k : FuncId} (hk : ∀ w : World, 0 < w.heap.size → Calls Tryz.prog k #[] w (fun e w' => e = .returned (.bool true) ∧ Below w.heap.size w w')) :
    @OrcSound (base hr) Tryz.prog (seatOrc (noteB flat n) (entB flat e) n e k) := by
  letI : Base := base hr
  refine orc_of fun f args m v m' h => ?_
  unfold seatOrc at h
  cases h39 : Nat.beq f 39 with
  | true =>
    rw [h39, cond_true] at h
    have hf39 : f = 39 := Nat.eq_of_beq_eq_true h39
    subst hf39
    split at h
    · rename_i a
      obtain ⟨k1, k2, k3, k4, k5⟩ := hn
      obtain ⟨j1, j2, j3⟩ := he
      obtain ⟨v1, f1, a1, n1, c1, rfl, _⟩ := leaf_at hok k1
      obtain ⟨v2, f2, s2, rfl, b2⟩ := leaf_at hok k2
      obtain ⟨v3, f3, s3, rfl, b3⟩ := leaf_at hok k3
      obtain ⟨v4, f4, a4, n4, c4, rfl, _⟩ := leaf_at hok k4
      obtain ⟨v5, f5, a5, n5, c5, rfl, _⟩ := leaf_at hok k5
      obtain ⟨u1, g1, t1, rfl, d1⟩ := leaf_at hok j1
      obtain ⟨u2, g2, t2, rfl, d2⟩ := leaf_at hok j2
      obtain ⟨u3, g3, a3, n3, c3, rfl, _⟩ := leaf_at hok j3
      have hone : ∀ {ι : Inj} {argsC : Array Value}, LRel ι [.agg a] argsC.toList → ∃ c, argsC = #[.agg c] ∧ LRel ι a.toList c.toList := by
        intro ι argsC ha
        obtain ⟨l⟩ := argsC
        cases ha with
        | cons h1 h2 => cases h2; cases h1 with | agg h => exact ⟨_, rfl, h⟩
      cases hA : Nat.beq a.size 22 && isH a 8 (n + 8) && isH a 13 (n + 13) && isH a 14 (n + 14) && isH a 20 (n + 20) && isH a 21 (n + 21) with
      | true =>
        rw [hA, cond_true] at h
        cases h
        simp only [Bool.and_eq_true] at hA
        obtain ⟨⟨⟨⟨⟨e0, e1⟩, e2⟩, e3⟩, e4⟩, e5⟩ := hA
        have e0 : a.size = 22 := Nat.eq_of_beq_eq_true e0
        refine answers_true fun w ι argsC ha hf => ?_
        obtain ⟨c, rfl, hac⟩ := hone ha
        have hsz : c.size = 22 := by have := hac.length; simp only [Array.length_toList] at this; omega
        have := light_of hsz (cell_is hr hf hac e1 k1 f1) (cell_is hr hf hac e2 k2 f2) (cell_is hr hf hac e3 k3 f3) (cell_is hr hf hac e4 k4 f4) (cell_is hr hf hac e5 k5 f5) w
        unfold noteB at'
        rw [f1, f2, f3, f4, f5]
        exact this
      | false =>
        rw [hA, cond_false] at h
        cases hB : Nat.beq a.size 22 && isN a 8 && isH a 13 (e + 4) && isH a 14 (e + 5) && isH a 20 (e + 11) && isN a 21 with
        | false => rw [hB, cond_false] at h; cases h
        | true =>
          rw [hB, cond_true] at h
          cases h
          simp only [Bool.and_eq_true] at hB
          obtain ⟨⟨⟨⟨⟨e0, e1⟩, e2⟩, e3⟩, e4⟩, e5⟩ := hB
          have e0 : a.size = 22 := Nat.eq_of_beq_eq_true e0
          refine answers_true fun w ι argsC ha hf => ?_
          obtain ⟨c, rfl, hac⟩ := hone ha
          have hsz : c.size = 22 := by have := hac.length; simp only [Array.length_toList] at this; omega
          have := light_of hsz (nil_is hac e1) (cell_is hr hf hac e2 j1 g1) (cell_is hr hf hac e3 j2 g2) (cell_is hr hf hac e4 j3 g3) (nil_is hac e5) w
          unfold entB at'
          rw [g1, g2, g3]
          exact this
    · cases h
  | false =>
    rw [h39, cond_false] at h
    cases hfk : Nat.beq f k with
    | true =>
      rw [hfk, cond_true] at h
      have hfk' : f = k := Nat.eq_of_beq_eq_true hfk
      subst hfk'
      split at h
      · cases h
        refine answers_true fun w ι argsC ha hf => ?_
        have : argsC = #[] := by
          cases argsC with | mk l => cases ha; rfl
        subst this
        exact hk w (Nat.lt_of_lt_of_le hw0 hf.size)
      · cases h
    | false => rw [hfk, cond_false] at h; cases h

theorem small_note {flat : List Value} {n : Nat} (h : noteB flat n = true) : rowLen (at' flat (n + 8)) ≤ 30 ∧ rowLen (at' flat (n + 20)) ≤ 30 ∧ rowLen (at' flat (n + 21)) ≤ 3000 := by
  unfold noteB lightB at h
  simp only [Bool.and_eq_true, decide_eq_true_eq] at h
  omega
theorem small_ent {flat : List Value} {e : Nat} (h : entB flat e = true) : rowLen (at' flat (e + 11)) ≤ 30 := by
  unfold entB lightB at h
  simp only [Bool.and_eq_true, decide_eq_true_eq] at h
  omega

theorem seat_noteAt : noteAt (allK seatSh) 14 := ⟨rfl, rfl, rfl, rfl, rfl⟩
theorem seat_entAt : entAt (allK seatSh) 2 := ⟨rfl, rfl, rfl⟩
theorem seat_rows : rowPlaces (allK seatSh) 0 = [13, 22, 34, 35] := rfl

theorem seat_walk (W : World) (args : Array Value) (flat : List Value) (hpos : 0 < W.heap.size) (h : ArgsOk W seatSh args.toList flat) : Calls Tryz.prog 3 args W (fun e w' => e = .returned (.bool true) ∧ Below W.heap.size W w') := by
  have hok := args_all _ _ _ h
  cases h1 : noteB flat 14 with
  | true =>
    cases h2 : entB flat 2 with
    | true =>
      have hr : RowsOk (keptAll true (allK seatSh) flat) W := rows_small_at hok (by
        rw [seat_rows]
        have a1 := small_note h1
        have a2 := small_ent h2
        simp only [Nat.reduceAdd] at a1 a2
        intro i hi
        simp only [List.mem_cons, List.not_mem_nil, or_false] at hi
        rcases hi with rfl | rfl | rfl | rfl <;> omega)
      refine calls_evO fits (n := 200) hpos hr (orc_sound (n := 14) (e := 2) (k := 6) hpos hr hok seat_noteAt seat_entAt seat_knows) (args_rel (hide := true) h) ?_
      rw [h1, h2]
      exact seat_yes _ _ _
    | false =>
      refine calls_evO fits (n := 200) hpos rows_none (orc_sound (n := 14) (e := 2) (k := 6) hpos rows_none hok seat_noteAt seat_entAt seat_knows) (args_rel (hide := true) h) ?_
      rw [h1, h2]
      exact seat_no1 _ _ _
  | false =>
    refine calls_evO fits (n := 200) hpos rows_none (orc_sound (n := 14) (e := 2) (k := 6) hpos rows_none hok seat_noteAt seat_entAt seat_knows) (args_rel (hide := true) h) ?_
    rw [h1]
    exact seat_no2 _ _ _ _
end Go.Proofs.YtibbgmimjdbcfaaGreat
