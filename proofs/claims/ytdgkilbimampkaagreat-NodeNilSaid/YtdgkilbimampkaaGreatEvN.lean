import Derived.Test.YtdgkilbimampkaaGreatEvM
namespace Go.Ev
open Go
variable {P : Program}

theorem growBy_le (newLen : Nat) : ∀ (r c : Nat), c < newLen → Builtin.growBy newLen r c ≤ 2 * newLen + 768
  | 0, c, h => by simp only [Builtin.growBy]; omega
  | r + 1, c, h => by
    simp only [Builtin.growBy]
    split
    · omega
    · by_cases h2 : c + (c + 768) / 4 < newLen
      · exact growBy_le newLen r _ h2
      · cases r with
        | zero => simp only [Builtin.growBy]; omega
        | succ r => simp only [Builtin.growBy]; rw [if_pos (by omega)]; omega

theorem nextslicecap_le (need cap : Nat) (h : cap < need) : Builtin.nextslicecap need cap ≤ 2 * need + 768 := by
  unfold Builtin.nextslicecap
  split
  · omega
  · split
    · omega
    · exact growBy_le _ _ _ h

/-- an append that grows: the new row -/
theorem grow_run {elem : TypeId} {i : TypeInfo} {z : Value} {n cap k : Nat} {base' : Option Addr} {x' : Value} {argTypes : Array TypeId} {args : Array Value} {t t1 ty : TypeId} {old new : List Value} {w : World}
    (hu : P.underlying t = some (.slice elem)) (hi : P.info? elem = some i) (hzr : ∀ w, (zeroValue elem).run P w = .ok z w) (hzs : z.cells.size = i.size)
    (ht : argTypes[0]? = some t) (ht1 : argTypes[1]? = some t1) (hnt : (∃ e, P.underlying t1 = some (.slice e)) ∨ P.underlying t1 = some .string) (ha0 : args[0]? = some (.slice base' n cap)) (ha1 : args[1]? = some x')
    (hlen : (Builtin.lenOf x').run P w = .ok k w) (hgt : cap < n + k) (hb1 : n + k ≤ 2 ^ 24) (hb2 : i.bytes ≤ 2 ^ 20)
    (hold : ∀ w1 : World, w1.heap = w.heap → (Builtin.firstCells i.size n (.slice base' n cap)).run P w1 = .ok old.toArray w1) (hnew : ∀ w1 : World, w1.heap = w.heap → (Builtin.firstCells i.size k x').run P w1 = .ok new.toArray w1)
    (hol : old.length = n * i.size) (hnl : new.length = k * i.size) :
    ∃ (rest : Array Value) (cap2 : Nat) (w' : World), (Builtin.append_ argTypes ty args).run P w = .ok (.slice (some ⟨w.heap.size, 0, none⟩) (n + k) cap2) w' ∧ n + k ≤ cap2 ∧ w'.heap = w.heap.push (.cells (old.toArray ++ new.toArray ++ rest) elem) ∧
      (old.toArray ++ new.toArray ++ rest).size = cap2 * i.size ∧ w'.os = w.os ∧ w'.tape = w.tape ∧ w'.output = w.output := by
  have hs : sizeT P elem = some i.size := by simp [sizeT, hi]
  generalize hcap : (Question.appendCap (n + k) cap elem).cut (w.tape w.drawn (Question.appendCap (n + k) cap elem)) = cap2
  have hle : n + k ≤ cap2 := by rw [← hcap]; simp only [Question.cut]; omega
  refine ⟨Builtin.zeroCells z.cells (cap2 - (n + k)), cap2, { w with heap := w.heap.push (.cells (old.toArray ++ new.toArray ++ Builtin.zeroCells z.cells (cap2 - (n + k))) elem), drawn := w.drawn + 1 }, ?_, hle, rfl, ?_, rfl, rfl, rfl⟩
  · unfold Builtin.append_
    simp only [ht, ha0, ha1]
    rw [Sem.run_bind, run_underlying hu, Result.andThen_ok]
    simp only []
    rw [Sem.run_bind, run_sizeOfT hs, Result.andThen_ok]
    simp only [ht1]
    have g1 : ¬ (((n + k : Nat) : Int) > IntKind.i64.max ∧ (False ∨ i.bytes = 0)) := by
      intro h
      have : IntKind.i64.max = 9223372036854775807 := by decide
      rw [this] at h
      omega
    have g2 : ¬ (Builtin.nextslicecap (n + k) cap * i.bytes > 2 ^ 48) := by
      have h1 := nextslicecap_le (n + k) cap hgt
      have h2 : Builtin.nextslicecap (n + k) cap * i.bytes ≤ (2 ^ 25 + 768) * 2 ^ 20 := Nat.mul_le_mul (by omega) hb2
      omega
    rcases hnt with ⟨e1, hd1⟩ | hd1
    all_goals
      rw [Sem.run_bind, run_underlying hd1, Result.andThen_ok]
      simp only [pure_bind, Bool.false_eq_true, if_false, Bool.not_false, if_true]
      rw [Sem.run_bind, hlen, Result.andThen_ok, if_neg (by omega)]
      rw [Sem.run_bind, run_typeInfoT hi, Result.andThen_ok, if_neg g1, Sem.run_bind, run_typeInfoT hi, Result.andThen_ok, if_neg g2]
      try simp only [pure_bind]
      rw [Sem.run_bind, run_choose, if_neg (by simp [Question.forced]), Result.andThen_ok, hcap, Sem.run_bind, run_typeInfoT hi, Result.andThen_ok, Sem.run_bind, run_askRoom, Result.andThen_ok]
      rw [Sem.run_bind, hold { w with drawn := w.drawn + 1 } rfl, Result.andThen_ok, Sem.run_bind, hnew { w with drawn := w.drawn + 1 } rfl, Result.andThen_ok, Sem.run_bind, hzr, Result.andThen_ok, Sem.run_bind]
      rfl
  · have : (Builtin.zeroCells z.cells (cap2 - (n + k))).size = (cap2 - (n + k)) * i.size := by
      unfold Builtin.zeroCells
      simp [hzs]
    simp only [Array.size_append, List.size_toArray, hol, hnl, this]
    rw [← Nat.add_mul, ← Nat.add_mul]
    congr 1
    omega

theorem room_run {elem : TypeId} {s : Nat} {n cap k : Nat} {base' : Option Addr} {x' : Value} {argTypes : Array TypeId} {args : Array Value} {t t1 ty : TypeId} {new : List Value} {w w' : World}
    (hu : P.underlying t = some (.slice elem)) (hs : sizeT P elem = some s)
    (ht : argTypes[0]? = some t) (ht1 : argTypes[1]? = some t1) (hnt : (∃ e, P.underlying t1 = some (.slice e)) ∨ P.underlying t1 = some .string) (ha0 : args[0]? = some (.slice base' n cap)) (ha1 : args[1]? = some x')
    (hlen : (Builtin.lenOf x').run P w = .ok k w) (hgt : n + k ≤ cap) (hnew : (Builtin.firstCells s k x').run P w = .ok new.toArray w)
    (hst : (match base' with | some a => storeCells (a.add (n * s)) new | none => pure ()).run P w = .ok () w') :
    (Builtin.append_ argTypes ty args).run P w = .ok (.slice base' (n + k) cap) w' := by
  unfold Builtin.append_
  simp only [ht, ha0, ha1]
  rw [Sem.run_bind, run_underlying hu, Result.andThen_ok]
  simp only []
  rw [Sem.run_bind, run_sizeOfT hs, Result.andThen_ok]
  simp only [ht1]
  rcases hnt with ⟨e1, hd1⟩ | hd1
  all_goals
    rw [Sem.run_bind, run_underlying hd1, Result.andThen_ok]
    simp only [pure_bind, Bool.false_eq_true, if_false, Bool.not_false, if_true]
    rw [Sem.run_bind, hlen, Result.andThen_ok, if_pos hgt, Sem.run_bind, hnew, Result.andThen_ok]
    cases base' with
    | none => simp only [Sem.run_pure, Result.ok.injEq] at hst; rw [hst.2]; rfl
    | some a =>
      simp only [] at hst ⊢
      rw [Sem.run_bind, hst]
      rfl
end Go.Ev
