import Derived.Test.YtdgkilbimampkaaGreatEvU
namespace Go.Ev
open Go
variable {P : Program} [Base]

omit [Base] in
theorem storeA_next {m m' : AMem} {t : TypeId} {p x : Value} (h : storeA P m t p x = some m') : m'.next = m.next := by
  unfold storeA at h
  split at h
  case h_2 => cases h
  case h_1 =>
    split at h
    case h_2 => cases h
    case h_1 =>
      obtain ⟨_, _, h⟩ := Option.bind_eq_some_iff.1 h
      obtain ⟨_, h⟩ := cond_some h
      obtain ⟨_, _, h⟩ := Option.bind_eq_some_iff.1 h
      cases h; rfl

omit [Base] in
theorem mapSetA_next {m m' : AMem} {t : TypeId} {x k v : Value} (h : mapSetA P m t x k v = some m') : m'.next = m.next := by
  unfold mapSetA at h
  split at h
  case h_2 => cases h
  case h_1 =>
    split at h
    case h_2 => cases h
    case h_1 =>
      simp only [Option.bind_eq_bind, Option.bind_eq_some_iff] at h
      obtain ⟨_, _, r, _, h⟩ := h
      cases r with
      | none => cases h; rfl
      | some iv =>
        simp only at h
        split at h
        case h_2 => cases h
        case h_1 =>
          obtain ⟨_, h⟩ := cond_some h
          obtain ⟨_, _, h⟩ := Option.map_eq_some_iff.1 h
          cases h; rfl

omit [Base] in
theorem mapEntryA_next {m m' : AMem} {t : TypeId} {x k v : Value} (h : mapEntryA P m t x k = some (v, m')) : m'.next = m.next := by
  unfold mapEntryA at h
  split at h
  case h_2 => cases h
  case h_1 =>
    split at h
    case h_2 => cases h
    case h_1 =>
      simp only [Option.bind_eq_bind, Option.bind_eq_some_iff] at h
      obtain ⟨_, _, r, _, h⟩ := h
      cases r with
      | none =>
        obtain ⟨_, _, h⟩ := Option.bind_eq_some_iff.1 h
        cases h; rfl
      | some iv =>
        simp only at h
        split at h
        case h_2 => cases h
        case h_1 =>
          obtain ⟨_, h⟩ := cond_some h
          obtain ⟨_, _, h⟩ := Option.map_eq_some_iff.1 h
          cases h; rfl

omit [Base] in
theorem entryStoreA_next {m m' : AMem} {x s v : Value} (h : entryStoreA m x s v = some m') : m'.next = m.next := by
  unfold entryStoreA at h
  split at h
  case h_2 => cases h
  case h_1 =>
    split at h
    case h_2 => cases h
    case h_1 =>
      simp only [Option.bind_eq_bind, Option.bind_eq_some_iff] at h
      obtain ⟨_, _, _, _, _, _, _, _, h⟩ := h
      cases h; rfl

omit [Base] in
theorem rangeA_next {m m' : AMem} {t : TypeId} {x v : Value} (h : rangeA P m t x = some (v, m')) : m'.next = m.next + 1 := by
  unfold rangeA at h
  split at h
  case h_1 => cases h; rfl
  case h_2 => cases h; rfl
  case h_3 =>
    split at h
    case h_2 => cases h
    case h_1 => cases h; rfl
  case h_4 => cases h

omit [Base] in
theorem nextA_next {m m' : AMem} {it v : Value} {str : Bool} (h : nextA m it str = some (v, m')) : m'.next = m.next := by
  unfold nextA at h
  split at h
  case h_2 => cases h
  case h_1 =>
    split at h
    case h_1 =>
      split at h <;> (cases h; rfl)
    case h_2 => cases h; rfl
    case h_3 =>
      split at h
      case h_2 => cases h
      case h_1 =>
        cases hb : (!(_ : List Nat).isEmpty && !(_ : List MapEntry).isEmpty && _) with
        | true => rw [hb] at h; cases h
        | false =>
          rw [hb, cond_false] at h
          simp only at h
          split at h
          case h_1 => cases h; rfl
          case h_2 => obtain ⟨_, h⟩ := cond_some h; cases h; rfl
          case h_3 => cases h
    case h_4 => cases h

/-- an operation at its place -/
structure At (P : Program) (fr : Frame) (o : Oper) : Prop where
  mode : fr.mode = .run
  todo : ∃ ops i rest k, fr.todo = .inRegion ops (i :: rest) :: k ∧ ops[i]? = some o ∧ Region.wanted o (yielded ops fr.tmps) = true

omit [Base] in
theorem At.applies {fr : Frame} {o : Oper} (h : At P fr o) (hd : ∀ c, o.op ≠ .defer c) (cs : List Frame) (w : World) : Applies P fr cs (execOp fr.eval o) w := by
  obtain ⟨ops, i, rest, k, ht, ho, hw⟩ := h.todo
  exact applies_op h.mode ht ho hw hd

theorem write_step {R : Rec} (hR : CallSound P R) (hC : CodeSound P R) {ρ : Operand → Value} {o : Oper} {m m' : AMem} {v : Value} (h : writeA P R ρ o m = some (v, m')) :
    m.next ≤ m'.next ∧ ∀ ι w fr cs, At P fr o → (∀ x ∈ o.op.operands, VRel ι (ρ x) (fr.eval x)) → MRel ι m w → Free ι m m' w → Comes' P ι m m' w fr cs v := by
  obtain ⟨dst, op, type, pos, after, guard⟩ := o
  cases op <;> simp only [writeA] at h <;> try (cases h; done)
  case store t a x =>
    obtain ⟨m1, h1, h⟩ := Option.map_eq_some_iff.1 h
    cases h
    refine ⟨by rw [storeA_next h1]; exact Nat.le_refl _, fun ι w fr cs hat hρ hm hf => ?_⟩
    obtain ⟨w', r1, r2, r3⟩ := storeA_run (P := P) hm (hρ a (by simp [Op.operands])) (hρ x (by simp [Op.operands])) h1
    refine ⟨undef, w', ι, (hat.applies (by simp) cs w).skip (w' := w') ?_, vrel_undef _, r2, r3⟩
    show (Instr.storeAt t (fr.eval a) (fr.eval x) >>= fun _ => pure Next.skip).run P w = _
    rw [run_bind_eq r1]; rfl
  case mapUpdate t x k y =>
    obtain ⟨m1, h1, h⟩ := Option.map_eq_some_iff.1 h
    cases h
    refine ⟨by rw [mapSetA_next h1]; exact Nat.le_refl _, fun ι w fr cs hat hρ hm hf => ?_⟩
    obtain ⟨w', r1, r2, r3⟩ := mapSetA_run (P := P) hm (hρ x (by simp [Op.operands])) (hρ k (by simp [Op.operands])) (hρ y (by simp [Op.operands])) h1
    refine ⟨undef, w', ι, (hat.applies (by simp) cs w).skip (w' := w') ?_, vrel_undef _, r2, r3⟩
    show (Instr.mapUpdate t (fr.eval x) (fr.eval k) (fr.eval y) >>= fun _ => pure Next.skip).run P w = _
    rw [run_bind_eq r1]; rfl
  case insert t x k y =>
    obtain ⟨m1, h1, h⟩ := Option.map_eq_some_iff.1 h
    cases h
    refine ⟨by rw [mapSetA_next h1]; exact Nat.le_refl _, fun ι w fr cs hat hρ hm hf => ?_⟩
    obtain ⟨w', r1, r2, r3⟩ := mapSetA_run (P := P) hm (hρ x (by simp [Op.operands])) (hρ k (by simp [Op.operands])) (hρ y (by simp [Op.operands])) h1
    refine ⟨undef, w', ι, (hat.applies (by simp) cs w).skip (w' := w') ?_, vrel_undef _, r2, r3⟩
    show (Instr.mapUpdate t (fr.eval x) (fr.eval k) (fr.eval y) >>= fun _ => pure Next.skip).run P w = _
    rw [run_bind_eq r1]; rfl
  case mapEntry t x k =>
    refine ⟨by rw [mapEntryA_next h]; exact Nat.le_refl _, fun ι w fr cs hat hρ hm hf => ?_⟩
    obtain ⟨v', w', r1, r0, r2, r3⟩ := mapEntryA_run (P := P) hm (hρ x (by simp [Op.operands])) (hρ k (by simp [Op.operands])) h
    refine ⟨v', w', ι, (hat.applies (by simp) cs w).value (w' := w') ?_, r0, r2, r3⟩
    show (Instr.mapEntry t (fr.eval x) (fr.eval k) >>= fun v => pure (Next.value v)).run P w = _
    rw [run_bind_eq r1]; rfl
  case entryStore t x s y =>
    obtain ⟨m1, h1, h⟩ := Option.map_eq_some_iff.1 h
    cases h
    refine ⟨by rw [entryStoreA_next h1]; exact Nat.le_refl _, fun ι w fr cs hat hρ hm hf => ?_⟩
    obtain ⟨w', r1, r2, r3⟩ := entryStoreA_run (P := P) (t := t) hm (hρ x (by simp [Op.operands])) (hρ s (by simp [Op.operands])) (hρ y (by simp [Op.operands])) h1
    refine ⟨undef, w', ι, (hat.applies (by simp) cs w).skip (w' := w') ?_, vrel_undef _, r2, r3⟩
    show (Instr.entryStore t (fr.eval x) (fr.eval s) (fr.eval y) >>= fun _ => pure Next.skip).run P w = _
    rw [run_bind_eq r1]; rfl
  case range t x =>
    refine ⟨by rw [rangeA_next h]; omega, fun ι w fr cs hat hρ hm hf => ?_⟩
    obtain ⟨v', w', ι', r1, r0, r2, r3⟩ := rangeA_run (P := P) hm hf (hρ x (by simp [Op.operands])) h
    refine ⟨v', w', ι', (hat.applies (by simp) cs w).value (w' := w') ?_, r0, r2, r3⟩
    show (Instr.range t (fr.eval x) >>= fun v => pure (Next.value v)).run P w = _
    rw [run_bind_eq r1]; rfl
  case next it str =>
    refine ⟨by rw [nextA_next h]; exact Nat.le_refl _, fun ι w fr cs hat hρ hm hf => ?_⟩
    obtain ⟨v', w', r1, r0, r2, r3⟩ := nextA_run (P := P) (ty := type) hm (hρ it (by simp [Op.operands])) h
    refine ⟨v', w', ι, (hat.applies (by simp) cs w).value (w' := w') ?_, r0, r2, r3⟩
    show (Instr.next (fr.eval it) str type >>= fun v => pure (Next.value v)).run P w = _
    rw [run_bind_eq r1]; rfl
  case call c =>
    obtain ⟨h1, h2⟩ := callA_step hR hC h type
    refine ⟨h1, fun ι w fr cs hat hρ hm hf => ?_⟩
    exact h2 ι w fr.eval hρ hm hf _ fr cs (hat.applies (by simp) cs w) rfl
  case send ch x =>
    obtain ⟨m1, h1, h⟩ := Option.map_eq_some_iff.1 h
    cases h
    unfold sendA at h1
    split at h1
    case h_2 => cases h1
    case h_1 b hb =>
      split at h1
      case h_2 => cases h1
      case h_1 n buf s r hbb =>
        obtain ⟨hlt, h1⟩ := cond_some h1
        cases h1
        refine ⟨Nat.le_refl _, fun ι w fr cs hat hρ hm hf => ?_⟩
        have hch := hρ ch (by simp [Op.operands])
        have hx := hρ x (by simp [Op.operands])
        rw [hb] at hch
        generalize hcc : fr.eval ch = c' at hch
        cases hch with
        | chan hj ho =>
          rename_i j
          obtain ⟨cc, hcc', hor⟩ := hm.obj _ _ _ hbb hj
          cases cc with
          | chan n' buf' cl s' r' tm =>
            obtain ⟨_, rfl, rfl, rfl, rfl, rfl, hbuf⟩ := hor
            have hl : buf'.size = buf.length := by simpa using hbuf.length
            have hlt : buf.length < n' := Nat.le_of_ble_eq_true hlt
            obtain ⟨ops, i, rest, k, ht, hop, hw⟩ := hat.todo
            refine ⟨undef, _, ι, .one (step_send (r := j.blk) (z := .tuple #[]) (v := fr.eval x) hat.mode ht hop hw (by simp) (w' := w) ?_ hcc' (by omega)), vrel_undef _, hm.put hbb hj ⟨ho, rfl, rfl, rfl, rfl, rfl, ?_⟩, Ext.wr hm hbb hj⟩
            · simp only [execOp, hcc]; rfl
            · rw [Array.toList_push]; exact hbuf.snoc hx
          | _ => simp [ORel] at hor
  case recv ct ch ok =>
    split at h
    case h_2 => cases h
    case h_1 dir e hu =>
      obtain ⟨z, hz, h⟩ := Option.bind_eq_some_iff.1 h
      obtain ⟨⟨v1, m1⟩, h1, h⟩ := Option.map_eq_some_iff.1 h
      cases h
      obtain ⟨_, hzr⟩ := zeroT_some hz
      unfold recvA at h1
      split at h1
      case h_2 => cases h1
      case h_1 b hb =>
        split at h1
        case h_2 => cases h1
        case h_1 n u buf s r hbb =>
          cases h1
          refine ⟨Nat.le_refl _, fun ι w fr cs hat hρ hm hf => ?_⟩
          have hch := hρ ch (by simp [Op.operands])
          rw [hb] at hch
          generalize hcc : fr.eval ch = c' at hch
          cases hch with
          | chan hj ho =>
            rename_i j
            obtain ⟨cc, hcc', hor⟩ := hm.obj _ _ _ hbb hj
            cases cc with
            | chan n' buf' cl s' r' tm =>
              obtain ⟨_, rfl, rfl, rfl, rfl, rfl, hbuf⟩ := hor
              generalize hbl : buf'.toList = bl at hbuf
              cases hbuf with
              | cons hv ht =>
                rename_i v' bl'
                have hb0 : buf'.getD 0 undef = v' := by
                  rw [Array.getD_eq_getD_getElem?, ← Array.getElem?_toList, hbl]; rfl
                have hbe : (buf'.extract 1 buf'.size).toList = bl' := by
                  have hs : buf'.size = bl'.length + 1 := by have := congrArg List.length hbl; simpa using this
                  rw [Array.toList_extract, hbl, hs]
                  simp
                have hpos : 0 < buf'.size := by have := congrArg List.length hbl; simp at this; omega
                obtain ⟨ops, i, rest, k, htd, hop, hw⟩ := hat.todo
                refine ⟨_, _, ι, .one (step_recv (r := j.blk) (z := z) (ok := ok) hat.mode htd hop hw (by simp) (w' := w) ?_ hcc' hpos), ?_, hm.put hbb hj ⟨ho, rfl, rfl, rfl, rfl, rfl, by rw [hbe]; exact ht⟩, Ext.wr hm hbb hj⟩
                · simp only [execOp, hcc]
                  rw [run_bind_eq (run_underlying hu w)]
                  simp only []
                  rw [run_bind_eq (hzr w)]
                  rfl
                · rw [hb0]
                  cases ok
                  · exact hv
                  · exact .tuple (.cons hv (.cons (.bool _) .nil))
            | _ => simp [ORel] at hor
end Go.Ev
