import Derived.Test.YtdgkilbimampkaaGreatEvE
namespace Go.Ev
open Go
variable {P : Program}

theorem cond_some {α : Type} {b : Bool} {x : Option α} {v : α} (h : (bif b then x else none) = some v) : b = true ∧ x = some v := by
  cases b
  · cases h
  · exact ⟨rfl, h⟩

theorem beq_of {a b : Nat} (h : Nat.beq a b = true) : a = b := Nat.eq_of_beq_eq_true h
theorem beq_ne {a b : Nat} (h : Nat.beq a b = false) : a ≠ b := fun e => by subst e; simp at h

theorem sliceA_run {ι : Inj} {t : TypeId} {x x' v : Value} {lo lo' hi hi' mx mx' : Option Value} (hx : VRel ι x x') (hlo : OptRel ι lo lo') (hhi : OptRel ι hi hi') (hmx : OptRel ι mx mx') (h : sliceA P t x lo hi mx = some v) (w : World) :
    ∃ v', (Instr.sliceAt t x' lo' hi' mx').run P w = .ok v' w ∧ VRel ι v v' := by
  unfold sliceA at h
  cases mx with
  | some _ => cases h
  | none =>
    cases mx' with
    | some _ => exact hmx.elim
    | none =>
      simp only at h
      split at h
      case h_1 elem a len cap hu =>
        simp only [Option.bind_eq_bind, Option.bind_eq_some_iff] at h
        obtain ⟨hh, hb, ll, lb, n, hn, h⟩ := h
        have B1 := boundA_run hb hhi
        have B2 := boundA_run lb hlo
        have B1' : (hi' = none ∧ hh = len) ∨ ∃ k i, hi' = some (.int k i) ∧ 0 ≤ i ∧ i ≤ cap ∧ hh = i.toNat := B1.imp (fun h => h.2) id
        have B2' : (lo' = none ∧ ll = 0) ∨ ∃ k i, lo' = some (.int k i) ∧ 0 ≤ i ∧ i ≤ hh ∧ ll = i.toNat := B2.imp (fun h => h.2) id
        cases hx with
        | snil _ _ =>
          cases h
          refine ⟨_, ?_, .snil _ _⟩
          unfold Instr.sliceAt Instr.slice
          simp only [Sem.run_bind, run_underlying hu, Result.andThen_ok, run_bounds B1' B2', run_sizeOfT hn, Sem.run_pure, Option.map_none, ite_self]
        | slice _ _ hj =>
          rename_i b o j
          simp only at h
          cases h
          refine ⟨.slice (some ⟨j.blk, (bif Nat.beq cap ll then o else o + ll * n) + j.off, none⟩) (hh - ll) (cap - ll), ?_, .slice _ _ hj⟩
          unfold Instr.sliceAt Instr.slice
          simp only [Sem.run_bind, run_underlying hu, Result.andThen_ok, run_bounds B1' B2', run_sizeOfT hn, Sem.run_pure, Option.map_some, add_eq]
          cases hb' : Nat.beq cap ll with
          | true => simp [beq_of hb']
          | false => simp only [if_neg (beq_ne hb'), cond_false]; rw [show o + j.off + ll * n = o + ll * n + j.off by omega]
        | loose hj ho hc hr =>
          rename_i b o o' s cap' j
          simp only at h
          obtain ⟨hs, h⟩ := cond_some h
          simp only [Bool.and_eq_true] at hs
          have hlc : len ≤ cap := Nat.le_of_ble_eq_true hs.2
          have hs := beq_of hs.1
          subst hs
          have hll : ll ≤ hh := by
            rcases B2' with ⟨_, rfl⟩ | ⟨k, i, _, h1, h2, rfl⟩
            · omega
            · omega
          have hhc : hh ≤ cap := by
            rcases B1' with ⟨_, rfl⟩ | ⟨k, i, _, h1, h2, rfl⟩ <;> omega
          have hrun : (Instr.sliceAt t (.slice (some ⟨j.blk, o', none⟩) len cap') lo' hi' none).run P w = .ok (.slice (some (if cap' = ll then ⟨j.blk, o', none⟩ else ⟨j.blk, o' + ll * s, none⟩)) (hh - ll) (cap' - ll)) w := by
            unfold Instr.sliceAt Instr.slice
            simp only [Sem.run_bind, run_underlying hu, Result.andThen_ok, run_bounds_cap hc B1' B2', run_sizeOfT hn, Sem.run_pure, Option.map_some, add_eq]
            by_cases e : cap' = ll
            · simp [e]
            · simp [e]
          cases hb' : Nat.beq cap ll with
          | true =>
            have hcl := beq_of hb'
            simp only [hb', cond_true, Option.some.injEq] at h
            subst h
            have hz : hh - ll = 0 := by omega
            rw [hrun, hz]
            by_cases e : cap' = ll
            · rw [if_pos e]; exact ⟨_, rfl, .loose hj (.inr ⟨rfl, rfl⟩) (by omega) (by rw [e]; simp; rw [e] at hr; omega)⟩
            · rw [if_neg e]
              refine ⟨_, rfl, .loose hj (.inr ⟨rfl, rfl⟩) (by omega) ?_⟩
              have : ll * s + (cap' - ll) * s = cap' * s := by rw [← Nat.add_mul]; congr 1; omega
              omega
          | false =>
            have hcl := beq_ne hb'
            simp only [hb', cond_false, Option.some.injEq] at h
            subst h
            rw [hrun, if_neg (by omega)]
            have ho' := ho.resolve_right (fun e => by omega)
            subst ho'
            refine ⟨_, rfl, .loose hj (.inl (by omega)) (by omega) ?_⟩
            have : ll * s + (cap' - ll) * s = cap' * s := by rw [← Nat.add_mul]; congr 1; omega
            omega
      case h_2 k elem b o hu =>
        simp only [Option.bind_eq_bind, Option.bind_eq_some_iff] at h
        obtain ⟨hh, hb, ll, lb, n, hn, h⟩ := h
        have B1 := boundA_run hb hhi
        have B2 := boundA_run lb hlo
        have B1' : (hi' = none ∧ hh = k) ∨ ∃ kd i, hi' = some (.int kd i) ∧ 0 ≤ i ∧ i ≤ k ∧ hh = i.toNat := B1.imp (fun h => h.2) id
        have B2' : (lo' = none ∧ ll = 0) ∨ ∃ k i, lo' = some (.int k i) ∧ 0 ≤ i ∧ i ≤ hh ∧ ll = i.toNat := B2.imp (fun h => h.2) id
        cases hx with
        | ptr hj =>
          rename_i j
          cases h
          refine ⟨.slice (some ⟨j.blk, (bif Nat.beq k ll then o else o + ll * n) + j.off, none⟩) (hh - ll) (k - ll), ?_, .slice _ _ hj⟩
          unfold Instr.sliceAt
          simp only [Sem.run_bind, run_underlying hu, Result.andThen_ok, Instr.sureAddr, Sem.run_pure, run_bounds B1' B2', run_sizeOfT hn, add_eq]
          cases hb' : Nat.beq k ll with
          | true => simp [beq_of hb']
          | false => simp only [if_neg (beq_ne hb'), cond_false]; rw [show o + j.off + ll * n = o + ll * n + j.off by omega]
      case h_3 => cases h
end Go.Ev
