import Derived.Test.YtdgkilbimampkaaGreatEvD
namespace Go.Ev
open Go
variable {P : Program}

theorem run_equal_of {t : TypeId} {x y : Value} {r : Bool} {w : World} (h : ∀ d, (Op.equalIn (d + 1) t x y).run P w = .ok r w) : (Op.equal t x y).run P w = .ok r w := h 9999

theorem eqA_run {ι : Inj} {t : TypeId} {x y x' y' : Value} {r : Bool} (hx : VRel ι x x') (hy : VRel ι y y') (h : eqA P t x y = some r) (w : World) :
    (∀ op cx cy, (eqGuard op t cx cy x' y').run P w = .ok () w) ∧ (binOp .eql t x' y').run P w = .ok (.bool r) w ∧ (binOp .neq t x' y').run P w = .ok (.bool (!r)) w := by
  have fin : (∀ d, (Op.equalIn (d + 1) t x' y').run P w = .ok r w) → (∀ op cx cy, (eqGuard op t cx cy x' y').run P w = .ok () w) → (binOp .eql t x' y' = do pure (.bool (← Op.equal t x' y'))) → (binOp .neq t x' y' = do pure (.bool (!(← Op.equal t x' y')))) →
      (∀ op cx cy, (eqGuard op t cx cy x' y').run P w = .ok () w) ∧ (binOp .eql t x' y').run P w = .ok (.bool r) w ∧ (binOp .neq t x' y').run P w = .ok (.bool (!r)) w := by
    intro h1 h0 h2 h3
    refine ⟨h0, ?_, ?_⟩
    · rw [h2]; simp [run_equal_of h1]
    · rw [h3]; simp [run_equal_of h1]
  unfold eqA at h
  split at h <;> cases h
  all_goals
    rename_i hu
    cases hx <;> cases hy
    all_goals
      refine fin (fun d => ?_) (fun op cx cy => ?_) rfl rfl
      · simp only [Op.equalIn, Sem.run_bind, run_underlying hu, Result.andThen_ok]; rfl
      · unfold eqGuard; cases op <;> rfl

theorem typeAssertA_run {ι : Inj} {x x' : Value} {xt asserted : TypeId} {ok : Bool} {v : Value} (hx : VRel ι x x') (h : typeAssertA P x asserted ok = some v) (w : World) :
    ∃ v', (Instr.typeAssert x' xt asserted ok).run P w = .ok v' w ∧ VRel ι v v' := by
  have zero : ∀ {z : Value}, zeroT P asserted = some z → VRel ι (.tuple #[z, .bool false]) (.tuple #[z, .bool false]) := fun hz => .tuple (.cons (ground_rel ι (zeroT_some hz).1) (.cons (.bool _) .nil))
  unfold typeAssertA at h
  cases hu : P.underlying asserted with
  | none => rw [hu] at h; cases h
  | some d =>
    rw [hu] at h
    by_cases hi : ∃ want, d = .interface want
    · obtain ⟨want, rfl⟩ := hi; cases h
    · have hd : ∀ want, d ≠ TypeDesc.interface want := fun want e => hi ⟨want, e⟩
      split at h
      case h_1 e => cases e; exact absurd rfl (hd _)
      case h_2 hni hdd =>
        rename_i t y
        cases hx with
        | iface _ hy =>
          rename_i y'
          cases hb : Nat.beq t asserted with
          | true =>
            have ht := Nat.eq_of_beq_eq_true hb
            simp only [hb, cond_true, Option.some.injEq] at h
            refine ⟨if ok then .tuple #[y', .bool true] else y', ?_, ?_⟩
            · unfold Instr.typeAssert
              simp only [Sem.run_bind, run_underlying hu, Result.andThen_ok]
              cases d <;> first | exact absurd rfl (hd _) | simp [ht]
            · subst h; cases ok
              · exact hy
              · exact .tuple (.cons hy (.cons (.bool _) .nil))
          | false =>
            have ht : t ≠ asserted := fun e => by subst e; simp at hb
            simp only [hb, cond_false] at h
            cases ok with
            | false => cases h
            | true =>
              simp only [cond_true, Option.map_eq_some_iff] at h
              obtain ⟨z, hz, rfl⟩ := h
              refine ⟨_, ?_, zero hz⟩
              unfold Instr.typeAssert
              simp only [Sem.run_bind, run_underlying hu, Result.andThen_ok]
              cases d <;> first | exact absurd rfl (hd _) | simp [ht, (zeroT_some hz).2]
      case h_3 hni hdd =>
        cases hx
        cases ok with
        | false => cases h
        | true =>
          simp only [cond_true, Option.map_eq_some_iff] at h
          obtain ⟨z, hz, rfl⟩ := h
          refine ⟨_, ?_, zero hz⟩
          unfold Instr.typeAssert
          simp only [Sem.run_bind, run_underlying hu, Result.andThen_ok]
          cases d <;> first | exact absurd rfl (hd _) | simp [(zeroT_some hz).2]
      case h_4 => cases h

theorem fieldA_run {ι : Inj} {s : TypeId} {x x' v : Value} {f : Nat} (hx : VRel ι x x') (h : fieldA P s x f = some v) (w : World) : ∃ v', (Instr.fieldAt s x' f).run P w = .ok v' w ∧ VRel ι v v' := by
  unfold fieldA at h
  split at h
  case h_2 => cases h
  case h_1 fs b o hu =>
    cases hx with
    | ptr hj =>
      rename_i j
      simp only [Option.bind_eq_bind, Option.bind_eq_some_iff] at h
      obtain ⟨fd, hfd, n, hn, h⟩ := h
      cases hb : Nat.beq n 0 with
      | true => rw [hb] at h; cases h
      | false =>
        rw [hb] at h; cases h
        have hn0 : n ≠ 0 := fun e => by subst e; cases hb
        refine ⟨.pointer (some ⟨j.blk, o + fd.offset + j.off, none⟩), ?_, .ptr hj⟩
        unfold Instr.fieldAt
        simp only [Sem.run_bind, run_underlying hu, Result.andThen_ok, hfd, Instr.sureAddr, Sem.run_pure, run_fieldPlace hn hn0]
        rw [show o + j.off + fd.offset = o + fd.offset + j.off by omega]

theorem indexAddrA_run {ι : Inj} {t : TypeId} {x x' i i' v : Value} (hx : VRel ι x x') (hi : VRel ι i i') (h : indexAddrA P t x i = some v) (w : World) : ∃ v', (Instr.indexAt t x' i').run P w = .ok v' w ∧ VRel ι v v' := by
  unfold indexAddrA at h
  simp only [Option.bind_eq_bind, Option.bind_eq_some_iff] at h
  obtain ⟨n, hn, h⟩ := h
  obtain ⟨kd, rfl, rfl⟩ := asI_rel hi hn
  split at h
  case h_1 len elem b o hu =>
    cases hx with
    | ptr hj =>
      rename_i j
      cases hb : (decide (0 ≤ n) && decide (n < (len : Int))) with
      | false => rw [hb] at h; cases h
      | true =>
        rw [hb] at h
        simp only [cond_true, Option.bind_eq_some_iff] at h
        obtain ⟨s, hs, h⟩ := h
        cases h
        simp only [Bool.and_eq_true, decide_eq_true_eq] at hb
        refine ⟨.pointer (some ⟨j.blk, o + n.toNat * s + j.off, none⟩), ?_, .ptr hj⟩
        unfold Instr.indexAt
        simp only [Sem.run_bind, run_asIntOf, run_underlying hu, Result.andThen_ok, Instr.sureAddr, Sem.run_pure, Sem.run_ite, if_pos hb, run_sizeOfT hs, add_eq]
        rw [show o + j.off + n.toNat * s = o + n.toNat * s + j.off by omega]
  case h_2 elem b o _ len cap hu =>
    have key : ∀ {o' c' : Nat} {j : J}, ι b = some j → (o' = o + j.off ∨ (len = 0 ∧ cap = 0)) → x' = .slice (some ⟨j.blk, o', none⟩) len c' → ∃ v', (Instr.indexAt t x' (.int kd n)).run P w = .ok v' w ∧ VRel ι v v' := by
      intro o' c' j hj ho hxe
      subst hxe
      cases hb : (decide (0 ≤ n) && decide (n < (len : Int))) with
      | false => rw [hb] at h; cases h
      | true =>
        rw [hb] at h
        simp only [cond_true, Option.bind_eq_some_iff] at h
        obtain ⟨s, hs, h⟩ := h
        cases h
        simp only [Bool.and_eq_true, decide_eq_true_eq] at hb
        refine ⟨.pointer (some ⟨j.blk, o + n.toNat * s + j.off, none⟩), ?_, .ptr hj⟩
        have ho' := ho.resolve_right (fun e => by omega)
        subst ho'
        unfold Instr.indexAt
        simp only [Sem.run_bind, run_asIntOf, run_underlying hu, Result.andThen_ok, Sem.run_pure, Sem.run_ite, if_pos hb, run_sizeOfT hs, add_eq]
        rw [show o + j.off + n.toNat * s = o + n.toNat * s + j.off by omega]
    cases hx with
    | slice _ _ hj => exact key hj (.inl rfl) rfl
    | loose hj ho hc hr => exact key hj ho rfl
  case h_3 => cases h

theorem run_bounds {len cap : Nat} {hi lo : Option Value} {h l : Nat} {b : Bool} (hh : (hi = none ∧ h = len) ∨ ∃ k i, hi = some (.int k i) ∧ 0 ≤ i ∧ i ≤ cap ∧ h = i.toNat) (hl : (lo = none ∧ l = 0) ∨ ∃ k i, lo = some (.int k i) ∧ 0 ≤ i ∧ i ≤ h ∧ l = i.toNat) (w : World) :
    (Instr.sliceBounds b len cap lo hi none).run P w = .ok (l, h, cap) w := by
  unfold Instr.sliceBounds
  rcases hh with ⟨rfl, rfl⟩ | ⟨k, i, rfl, h1, h2, rfl⟩
  · rcases hl with ⟨rfl, rfl⟩ | ⟨k, i, rfl, h1, h2, rfl⟩
    · rfl
    · simp only [Sem.run_bind, Sem.run_pure, Result.andThen_ok, Instr.sliceBound, run_asIntOf, Sem.run_ite, if_pos (And.intro h1 h2)]
  · rcases hl with ⟨rfl, rfl⟩ | ⟨k', i', rfl, h1', h2', rfl⟩
    · simp only [Sem.run_bind, Sem.run_pure, Result.andThen_ok, Instr.sliceBound, run_asIntOf, Sem.run_ite, if_pos (And.intro h1 h2)]
    · simp only [Sem.run_bind, Sem.run_pure, Result.andThen_ok, Instr.sliceBound, run_asIntOf, Sem.run_ite, if_pos (And.intro h1 h2), if_pos (And.intro h1' h2')]

theorem run_bounds_cap {len cap cap' : Nat} {hi lo : Option Value} {h l : Nat} {b : Bool} (hc : cap ≤ cap') (hh : (hi = none ∧ h = len) ∨ ∃ k i, hi = some (.int k i) ∧ 0 ≤ i ∧ i ≤ cap ∧ h = i.toNat) (hl : (lo = none ∧ l = 0) ∨ ∃ k i, lo = some (.int k i) ∧ 0 ≤ i ∧ i ≤ h ∧ l = i.toNat) (w : World) :
    (Instr.sliceBounds b len cap' lo hi none).run P w = .ok (l, h, cap') w :=
  run_bounds (hh.imp id fun ⟨k, i, h1, h2, h3, h4⟩ => ⟨k, i, h1, h2, by omega, h4⟩) hl w
end Go.Ev
