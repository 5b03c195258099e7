import Derived.Test.YtdgkilbimampkaaGreatEvC
namespace Go.Ev
open Go
variable {P : Program}

theorem lrel_map {ι : Inj} {ρ ρ' : Operand → Value} {l : List Operand} (h : ∀ x ∈ l, VRel ι (ρ x) (ρ' x)) : LRel ι (l.map ρ) (l.map ρ') := by
  induction l with
  | nil => exact .nil
  | cons a l ih => exact .cons (h a (by simp)) (ih fun x hx => h x (by simp [hx]))

theorem lrel_amap {ι : Inj} {ρ ρ' : Operand → Value} {l : Array Operand} (h : ∀ x ∈ l, VRel ι (ρ x) (ρ' x)) : LRel ι (l.map ρ).toList (l.map ρ').toList := by
  simp only [Array.toList_map]
  exact lrel_map fun x hx => h x (by simpa using hx)

theorem asI_rel {ι : Inj} {v v' : Value} {n : Int} (h : VRel ι v v') (k : asI v = some n) : ∃ kd, v = .int kd n ∧ v' = .int kd n := by
  cases h <;> simp [asI] at k
  subst k; exact ⟨_, rfl, rfl⟩

/-- part, run on a concrete array -/
theorem run_part_rel {ι : Inj} {t : TypeId} {cs : List Value} {cs' : Array Value} {off : Nat} {v : Value} (hc : LRel ι cs cs'.toList) (h : partA P t cs off = some v) (w : World) :
    ∃ v', (part t cs' off).run P w = .ok v' w ∧ VRel ι v v' := by
  have key := partA_rel (cs' := cs'.toList) (off' := 0) (fun i x hx => by obtain ⟨x', h1, h2⟩ := hc.get hx; exact ⟨x', by simpa using h1, h2⟩) h
  rcases key with ⟨ha, n, l, l', hn, rfl, hl', hlen, hrel⟩ | ⟨ha, v', hv', hrel⟩
  · refine ⟨.agg (cs'.extract off (off + n)), ?_, ?_⟩
    · unfold part
      simp [run_isAgg ha, run_sizeOfT hn]
    · refine .agg ?_
      have : (cs'.extract off (off + n)).toList = l' := by
        rw [hl']; simp [Array.toList_extract]
      rw [this]; simpa using hrel
  · refine ⟨v', ?_, hrel⟩
    unfold part
    simp only [Sem.run_bind, run_isAgg ha, Result.andThen_ok, Bool.false_eq_true, if_false]
    simp only [Nat.add_zero, Array.getElem?_toList] at hv'
    rw [hv']; rfl

theorem run_fieldPlace {b o : Nat} {f : Field} {n : Nat} (h : sizeT P f.type = some n) (hn : n ≠ 0) (w : World) : (fieldPlace ⟨b, o, none⟩ f).run P w = .ok ⟨b, o + f.offset, none⟩ w := by
  unfold fieldPlace
  simp only [Sem.run_bind, run_sizeOfT h, Result.andThen_ok, Sem.run_ite, if_neg hn, Sem.run_pure, add_eq]

theorem cells_rel {ι : Inj} {v v' : Value} (h : VRel ι v v') : LRel ι v.cells.toList v'.cells.toList := by
  cases h with
  | agg h => exact h
  | bool b => exact .cons (.bool b) .nil
  | int k n => exact .cons (.int k n) .nil
  | float k n => exact .cons (.float k n) .nil
  | complex k a b => exact .cons (.complex k a b) .nil
  | string s => exact .cons (.string s) .nil
  | pnil => exact .cons .pnil .nil
  | ptr h => exact .cons (.ptr h) .nil
  | snil n c => exact .cons (.snil n c) .nil
  | slice n c h => exact .cons (.slice n c h) .nil
  | loose h ho hc hr => exact .cons (.loose h ho hc hr) .nil
  | hole h hv hc h1 hr => rw [hc]; exact .cons (.hole h hv hc h1 hr) .nil
  | mnil => exact .cons .mnil .nil
  | map h ho => exact .cons (.map h ho) .nil
  | cnil => exact .cons .cnil .nil
  | chan h ho => exact .cons (.chan h ho) .nil
  | func hf ha hc => exact .cons (.func hf ha hc) .nil
  | nilFunc => exact .cons .nilFunc .nil
  | iface t h => exact .cons (.iface t h) .nil
  | nilIface => exact .cons .nilIface .nil
  | tuple h => exact .cons (.tuple h) .nil

theorem cells_size {ι : Inj} {v v' : Value} (h : VRel ι v v') : v'.cells.size = v.cells.size := by
  have := (cells_rel h).length
  simpa using this

/-- the foldl of 'fill' -/
theorem put_list_rel {ι : Inj} {off : Nat} : ∀ (l : List (Value × Nat)) (l' : List (Value × Nat)) (cs cs' : Array Value), (l'.map (·.2)) = (l.map (·.2)) → LRel ι (l.map (·.1)) (l'.map (·.1)) → LRel ι cs.toList cs'.toList →
    LRel ι (l.foldl (fun cs (c, j) => cs.setIfInBounds (off + j) c) cs).toList (l'.foldl (fun cs (c, j) => cs.setIfInBounds (off + j) c) cs').toList
  | [], [], _, _, _, _, h => h
  | [], _ :: _, _, _, hk, _, _ => by simp at hk
  | _ :: _, [], _, _, hk, _, _ => by simp at hk
  | (c, j) :: l, (c', j') :: l', cs, cs', hk, hl, h => by
    simp only [List.map_cons, List.cons.injEq] at hk hl
    obtain ⟨rfl, hk⟩ := hk
    cases hl with
    | cons hc hl =>
      simp only [List.foldl_cons]
      refine put_list_rel l l' _ _ hk hl ?_
      refine LRel.of_get (by simpa using h.length) fun i v hv => ?_
      simp only [Array.getElem?_toList] at hv ⊢
      have hs : cs'.size = cs.size := by simpa using h.length
      by_cases e : off + j' = i
      · subst e
        by_cases hlt : off + j' < cs.size
        · rw [Array.getElem?_setIfInBounds_self_of_lt hlt] at hv
          cases hv
          exact ⟨_, Array.getElem?_setIfInBounds_self_of_lt (by omega), hc⟩
        · have : (cs.setIfInBounds (off + j') c)[off + j']? = none := by simp; omega
          rw [this] at hv; cases hv
      · rw [Array.getElem?_setIfInBounds_ne e] at hv
        rw [Array.getElem?_setIfInBounds_ne e]
        obtain ⟨v', h1, h2⟩ := h.get (i := i) (v := v) (by simpa using hv)
        exact ⟨v', by simpa using h1, h2⟩

theorem fill_rel {ι : Inj} {place place' : Nat → Option (Nat × Nat)} (hp : ∀ i, place' i = place i) : ∀ {parts parts' : List (Nat × Value)} {cs cs' r : Array Value}, (parts'.map (·.1)) = (parts.map (·.1)) → LRel ι (parts.map (·.2)) (parts'.map (·.2)) →
    LRel ι cs.toList cs'.toList → Instr.fill place cs parts = some r → ∃ r', Instr.fill place' cs' parts' = some r' ∧ LRel ι r.toList r'.toList
  | [], [], cs, cs', r, _, _, h, hf => by simp only [Instr.fill, Option.some.injEq] at hf ⊢; subst hf; exact ⟨cs', rfl, h⟩
  | [], _ :: _, _, _, _, hk, _, _, _ => by simp at hk
  | _ :: _, [], _, _, _, hk, _, _, _ => by simp at hk
  | (i, v) :: parts, (i', v') :: parts', cs, cs', r, hk, hl, h, hf => by
    simp only [List.map_cons, List.cons.injEq] at hk hl
    obtain ⟨rfl, hk⟩ := hk
    cases hl with
    | cons hv hl =>
      simp only [Instr.fill] at hf ⊢
      rw [hp]
      cases hpl : place i' with
      | none => rw [hpl] at hf; cases hf
      | some x =>
        obtain ⟨off, size⟩ := x
        rw [hpl] at hf
        simp only at hf ⊢
        have hs : cs'.size = cs.size := by simpa using h.length
        rw [cells_size hv, hs]
        cases hb : (decide (v.cells.size ≠ size) || decide (off + v.cells.size > cs.size)) with
        | true => simp only [hb, if_true] at hf; cases hf
        | false =>
          simp only [hb, Bool.false_eq_true, if_false] at hf ⊢
          refine fill_rel hp hk hl ?_ hf
          have hz := put_list_rel (ι := ι) (off := off) v.cells.zipIdx.toList v'.cells.zipIdx.toList cs cs' (by
              simp only [Array.toList_zipIdx]
              simp [List.zipIdx_map_snd, cells_size hv]) (by simpa [Array.toList_zipIdx, List.zipIdx_map_fst] using cells_rel hv) h
          rw [← Array.foldl_toList, ← Array.foldl_toList]
          exact hz

theorem list_mapM_rel (P : Program) (w : World) : ∀ {fs : List Field} {r : List (Nat × Nat)}, (fs.mapM fun f => (sizeT P f.type).map fun n => (f.offset, n)) = some r →
    (fs.mapM fun f => do pure (f.offset, ← sizeOf f.type) : Sem (List (Nat × Nat))).run P w = .ok r w
  | [], r, h => by simp only [List.mapM_nil, Option.pure_def, Option.some.injEq] at h; subst h; rfl
  | f :: fs, r, h => by
    simp only [List.mapM_cons, Option.pure_def, Option.bind_eq_bind, Option.bind_eq_some_iff, Option.map_eq_some_iff] at h
    obtain ⟨x, ⟨n, hn, rfl⟩, l, hl, hr⟩ := h
    cases hr
    simp only [List.mapM_cons, Sem.run_bind, run_sizeOfT hn, Result.andThen_ok, Sem.run_pure, list_mapM_rel P w hl]

theorem toList_arr_map {α β : Type} (a : Array α) (f : α → β) : (a.map f).toList = a.toList.map f := by simp

theorem buildA_run {ι : Inj} {t : TypeId} {parts : Array (Nat × Operand)} {ρ ρ' : Operand → Value} {v : Value} (h : ∀ x ∈ parts, VRel ι (ρ x.2) (ρ' x.2))
    (hb : buildA P t (parts.toList.map fun (i, x) => (i, ρ x)) = some v) (w : World) : ∃ v', (Instr.build t (parts.map fun (i, x) => (i, ρ' x))).run P w = .ok v' w ∧ VRel ι v v' := by
  unfold buildA at hb
  simp only [Option.bind_eq_bind, Option.bind_eq_some_iff] at hb
  obtain ⟨z, hz, hb⟩ := hb
  obtain ⟨hg, hzr⟩ := zeroT_some hz
  have hzc : LRel ι z.cells.toList z.cells.toList := cells_rel (ground_rel ι hg)
  have hk : ((parts.map fun x => (x.1, ρ' x.2)).toList.map (·.1)) = ((parts.toList.map fun x => (x.1, ρ x.2)).map (·.1)) := by simp
  have hv : LRel ι ((parts.toList.map fun x => (x.1, ρ x.2)).map (·.2)) ((parts.map fun x => (x.1, ρ' x.2)).toList.map (·.2)) := by
    simp only [toList_arr_map, List.map_map]
    have : ∀ l : List (Nat × Operand), (∀ x ∈ l, VRel ι (ρ x.2) (ρ' x.2)) → LRel ι (l.map ((fun x => x.2) ∘ fun x => (x.1, ρ x.2))) (l.map ((fun x => x.2) ∘ fun x => (x.1, ρ' x.2))) := by
      intro l
      induction l with
      | nil => intro _; exact .nil
      | cons a l ih => intro hh; exact .cons (hh a (by simp)) (ih fun x hx => hh x (by simp [hx]))
    exact this _ fun x hx => h x (by simpa using hx)
  split at hb
  case h_1 fields hu =>
    simp only [Option.bind_eq_some_iff, Option.map_eq_some_iff] at hb
    obtain ⟨places, hpl, r, hf, rfl⟩ := hb
    obtain ⟨r', h1, h2⟩ := fill_rel (place' := fun i => places.toArray[i]?) (fun i => by simp [nth_eq]) hk hv hzc hf
    refine ⟨.agg r', ?_, .agg h2⟩
    unfold Instr.build
    simp only [Sem.run_bind, hzr, Result.andThen_ok, run_underlying hu]
    rw [Array.mapM_eq_mapM_toList]
    simp only [Sem.run_map, list_mapM_rel P w hpl, Result.andThen_ok, h1]
    rfl
  case h_2 len elem hu =>
    simp only [Option.bind_eq_some_iff, Option.map_eq_some_iff] at hb
    obtain ⟨n, hn, r, hf, rfl⟩ := hb
    obtain ⟨r', h1, h2⟩ := fill_rel (place' := fun i => some (i * n, n)) (fun i => rfl) hk hv hzc hf
    refine ⟨.agg r', ?_, .agg h2⟩
    unfold Instr.build
    simp only [Sem.run_bind, hzr, Result.andThen_ok, run_underlying hu, run_sizeOfT hn, h1]
    rfl
  case h_3 => cases hb

theorem run_asIntOf (k : IntKind) (n : Int) (w : World) : (asIntOf (.int k n)).run P w = .ok (k, n) w := rfl

def OptRel (ι : Inj) : Option Value → Option Value → Prop
  | none, none => True
  | some a, some b => VRel ι a b
  | _, _ => False

theorem boundA_run {ι : Inj} {x : Option Value} {d y : Nat} {x' : Option Value} {n : Nat} (h : boundA x d y = some n) (hx : OptRel ι x x') :
    (x = none ∧ x' = none ∧ n = d) ∨ ∃ k i, x' = some (.int k i) ∧ 0 ≤ i ∧ i ≤ y ∧ n = i.toNat := by
  cases x with
  | none => cases x' with
    | none => simp only [boundA, Option.some.injEq] at h; exact .inl ⟨rfl, rfl, h.symm⟩
    | some b => exact hx.elim
  | some a => cases x' with
    | none => exact hx.elim
    | some b =>
      simp only [boundA, Option.bind_eq_bind, Option.bind_eq_some_iff] at h
      obtain ⟨i, hi, h⟩ := h
      obtain ⟨kd, rfl, rfl⟩ := asI_rel (show VRel ι a b from hx) hi
      cases hb : (decide (0 ≤ i) && decide (i ≤ (y : Int))) with
      | false => rw [hb] at h; cases h
      | true =>
        rw [hb] at h; cases h
        simp only [Bool.and_eq_true, decide_eq_true_eq] at hb
        exact .inr ⟨kd, i, rfl, hb.1, hb.2, rfl⟩
end Go.Ev
