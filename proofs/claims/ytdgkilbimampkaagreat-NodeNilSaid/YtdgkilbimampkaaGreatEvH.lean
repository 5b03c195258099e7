import Derived.Test.YtdgkilbimampkaaGreatEvG
namespace Go.Ev
open Go
variable {P : Program}

theorem MRel.of_heap {ι : Inj} {m : AMem} {w w' : World} (h : MRel ι m w) (e : w'.heap = w.heap) : MRel ι m w' :=
  ⟨fun b o j h1 h2 => by rw [e]; exact h.obj b o j h1 h2, h.inj, fun b j hb => by rw [e]; exact h.bound b j hb, h.fresh⟩

theorem rep_get {α : Type} (l : List α) (hl : l.length ≠ 0) : ∀ (k i : Nat), i < k * l.length → (rep k l)[i]? = l[i % l.length]?
  | 0, i, h => by simp at h
  | k + 1, i, h => by
    rw [rep]
    by_cases hi : i < l.length
    · rw [List.getElem?_append_left hi, Nat.mod_eq_of_lt hi]
    · rw [List.getElem?_append_right (by omega), rep_get l hl k _ (by rw [Nat.add_mul] at h; omega)]
      congr 1
      exact (Nat.mod_eq_sub_mod (by omega)).symm

theorem rep_length {α : Type} (l : List α) : ∀ k, (rep k l).length = k * l.length
  | 0 => by simp [rep]
  | k + 1 => by rw [rep, List.length_append, rep_length l k, Nat.add_mul]; omega

theorem range_rep (zero : Array Value) (k n : Nat) (hn : n = zero.size) (h0 : n ≠ 0) : (Array.range (k * n)).map (zero[· % zero.size]!) = (rep k zero.toList).toArray := by
  apply Array.ext'
  apply List.ext_getElem?
  intro i
  have hl : zero.toList.length ≠ 0 := by simpa [← hn] using h0
  by_cases hi : i < k * n
  · have h1 : i < k * zero.toList.length := by simpa [← hn] using hi
    simp only []
    rw [rep_get _ hl k i h1]
    have hm : i % zero.size < zero.size := Nat.mod_lt _ (by omega)
    simp [hi, hm]
  · have : (rep k zero.toList).length ≤ i := by rw [rep_length]; simp [← hn]; omega
    simp only []
    rw [List.getElem?_eq_none this, List.getElem?_eq_none (by simp; omega)]

theorem range_none : Array.range 0 = #[] := by apply Array.ext <;> simp

theorem lrel_rep {ι : Inj} {l l' : List Value} (h : LRel ι l l') : ∀ k, LRel ι (rep k l) (rep k l')
  | 0 => .nil
  | k + 1 => h.append (lrel_rep h k)

/-- the cells of a new row -/
theorem cells_new {ι : Inj} {c : List Value} {cC : Array Value} {e e' : TypeId} {b : Nat} {j : J} (hc : LRel (upd ι b j) c cC.toList) (ho : j.off = 0) (hs : cC.size = j.size) : ORel (upd ι b j) (.cells c e) j (.cells cC e' (0, 0)) := by
  refine ⟨hs, fun i v hv => ?_, .inl (Nat.le_refl _)⟩
  obtain ⟨v', h1, h2⟩ := hc.get hv
  exact ⟨v', by rw [ho]; simpa using h1, h2⟩

def Made (P : Program) (ι : Inj) (x : AObj) (f : Nat → Value) (s : Sem Next) (w : World) : Prop :=
  ∃ c v' w1 j, s.run P w = .ok (.value v') w1 ∧ w1.heap = w.heap.push c ∧ w1.os = w.os ∧ w1.tape = w.tape ∧ w1.output = w.output ∧ j.blk = w.heap.size ∧
    ∀ b, ι b = none → ORel (upd ι b j) x j c ∧ VRel (upd ι b j) (f b) v'

theorem run_newRow (t : TypeId) (c : Array Value) (w : World) : (newRow t c).run P w = .ok ⟨w.heap.size, 0, none⟩ { w with heap := w.heap.push (.cells c t) } := rfl

theorem modify_push {α : Type} (a : Array α) (x : α) (f : α → α) : (a.push x).modify a.size f = a.push (f x) := by
  apply Array.ext
  · simp
  · intro i h1 h2
    rw [Array.getElem_modify]
    by_cases e : a.size = i
    · subst e; simp
    · rw [if_neg e]
      have : i < a.size := by simp at h2; omega
      rw [Array.getElem_push_lt this, Array.getElem_push_lt this]

theorem stringToBytes_run (e : TypeId) (s : ByteArray) (w : World) : ∃ c cap w1, (Conv.stringToBytes e s).run P w = .ok (.slice (some ⟨w.heap.size, 0, none⟩) s.size cap) w1 ∧ s.size ≤ cap ∧ c.size = cap ∧
    w1.heap = w.heap.push (.cells c e (c.size, c.size + 1)) ∧ w1.os = w.os ∧ w1.tape = w.tape ∧ w1.output = w.output ∧ ∀ (i : Nat), i < s.size → c[i]? = (s.data.map fun b => Value.int .u8 b.toNat)[i]? := by
  unfold Conv.stringToBytes
  rw [Sem.run_bind, run_choose, if_neg (by simp [Question.forced]), Result.andThen_ok]
  generalize hcap : (Question.appendCap s.size 0 e).cut (w.tape w.drawn (Question.appendCap s.size 0 e)) = cap
  have hle : s.size ≤ cap := by rw [← hcap]; simp only [Question.cut]; omega
  have hds : s.data.size = s.size := rfl
  obtain ⟨C, hC⟩ : ∃ C : Array Value, C = (s.data.map fun b => Value.int .u8 b.toNat) ++ Array.replicate (cap - s.size) (.int .u8 0) := ⟨_, rfl⟩
  have hCs : C.size = cap := by rw [hC]; simp [hds]; omega
  refine ⟨C, cap, ({ w with heap := w.heap.push (.cells C e), drawn := w.drawn + 1 } : World).freeze ⟨w.heap.size, C.size, none⟩ 1, ?_, hle, hCs, ?_, ?_, ?_, ?_, ?_⟩
  · simp only []
    rw [← hC, Sem.run_bind]
    show ((newRow e C).run P { w with drawn := w.drawn + 1 }).andThen _ = _
    rw [run_newRow, Result.andThen_ok, Sem.run_bind]
    unfold markStringish
    rw [Sem.run_bind, run_shape, Result.andThen_ok]
    have hsh : ({ w with heap := w.heap.push (.cells C e), drawn := w.drawn + 1 } : World).shape? w.heap.size = some (e, C.size) := by
      simp [World.shape?]
    simp only [hsh]
    rw [run_freeze, Result.andThen_ok]
    rfl
  · unfold World.freeze
    rw [if_neg (by simp)]
    simp only
    rw [modify_push]
    simp
  · rfl
  · rfl
  · rfl
  · intro i hi
    rw [hC, Array.getElem?_append_left (by simp [hds]; exact hi)]

theorem alloc_run {ι : Inj} {o : Oper} {ρ ρ' : Operand → Value} {x : AObj} {f : Nat → Value} (h : ∀ y ∈ o.op.operands, VRel ι (ρ y) (ρ' y)) (hp : allocA P ρ o = some (x, f)) (w : World) :
    Made P ι x f (execOp ρ' o) w := by
  obtain ⟨dst, op, type, pos, after, guard⟩ := o
  simp only at h
  cases op <;> simp only [allocA] at hp <;> try (cases hp; done)
  case alloc t =>
    simp only [Option.map_eq_some_iff] at hp
    obtain ⟨z, hz, hp⟩ := hp
    cases hp
    obtain ⟨hg, hzr⟩ := zeroT_some hz
    refine ⟨.cells z.cells t, .pointer (some ⟨w.heap.size, 0, none⟩), { w with heap := w.heap.push (.cells z.cells t) }, ⟨w.heap.size, 0, z.cells.size⟩, ?_, rfl, rfl, rfl, rfl, rfl, fun b hb => ?_⟩
    · simp only [execOp, Instr.alloc, Sem.run_bind, hzr, Result.andThen_ok, newVar, run_newRow, Sem.run_pure]
    · exact ⟨cells_new (cells_rel (ground_rel _ hg)) rfl rfl, .ptr (j := ⟨w.heap.size, 0, z.cells.size⟩) (upd_same _ _ _)⟩
  case box t y =>
    cases hp
    have hy := h y (by simp [Op.operands])
    refine ⟨.cells (ρ' y).cells t, .pointer (some ⟨w.heap.size, 0, none⟩), { w with heap := w.heap.push (.cells (ρ' y).cells t) }, ⟨w.heap.size, 0, (ρ' y).cells.size⟩, ?_, rfl, rfl, rfl, rfl, rfl, fun b hb => ?_⟩
    · simp only [execOp, Instr.box, Sem.run_bind, Result.andThen_ok, newVar, run_newRow, Sem.run_pure]
    · exact ⟨cells_new (cells_rel (hy.mono (upd_sub hb))) rfl rfl, .ptr (j := ⟨w.heap.size, 0, (ρ' y).cells.size⟩) (upd_same _ _ _)⟩
  case buildSlice t len parts =>
    split at hp
    case h_2 => cases hp
    case h_1 elem hu =>
      simp only [Option.bind_eq_bind, Option.bind_eq_some_iff] at hp
      obtain ⟨n, hn, z, hz, hp⟩ := hp
      obtain ⟨hg, hzr⟩ := zeroT_some hz
      cases hl : Nat.beq len 0 with
      | true =>
        rw [hl, cond_true] at hp
        have hl := beq_of hl
        subst hl
        obtain ⟨hpe, hp⟩ := cond_some hp
        cases hp
        have hpe : parts = #[] := by simpa using hpe
        subst hpe
        refine ⟨.cells #[] elem, .slice (some ⟨w.heap.size, 0, none⟩) 0 0, { w with heap := w.heap.push (.cells #[] elem) }, ⟨w.heap.size, 0, 0⟩, ?_, rfl, rfl, rfl, rfl, rfl, fun b hb => ?_⟩
        · simp [execOp, Instr.buildSlice, run_underlying hu, run_sizeOfT hn, Instr.fill, run_newRow, range_none]
        · exact ⟨cells_new .nil rfl rfl, .slice (j := ⟨w.heap.size, 0, 0⟩) _ _ (upd_same _ _ _)⟩
      | false =>
        rw [hl, cond_false] at hp
        obtain ⟨hc, hp⟩ := cond_some hp
        simp only [Bool.and_eq_true, decide_eq_true_eq, Bool.not_eq_true'] at hc
        obtain ⟨⟨hle, hzs⟩, hn0⟩ := hc
        have hzs := beq_of hzs
        have hn0 := beq_ne hn0
        have hl0 := beq_ne hl
        simp only [Option.bind_eq_some_iff] at hp
        obtain ⟨r, hf, hp⟩ := hp
        cases hp
        have hzc : LRel ι z.cells.toList z.cells.toList := cells_rel (ground_rel ι hg)
        have hk : ((parts.map fun x => (x.1, ρ' x.2)).toList.map (·.1)) = ((parts.toList.map fun x => (x.1, ρ x.2)).map (·.1)) := by simp
        have hv : LRel ι ((parts.toList.map fun x => (x.1, ρ x.2)).map (·.2)) ((parts.map fun x => (x.1, ρ' x.2)).toList.map (·.2)) := by
          rw [toList_arr_map, List.map_map, List.map_map]
          have : ∀ l : List (Nat × Operand), (∀ x ∈ l, VRel ι (ρ x.2) (ρ' x.2)) → LRel ι (l.map ((fun x => x.2) ∘ fun x => (x.1, ρ x.2))) (l.map ((fun x => x.2) ∘ fun x => (x.1, ρ' x.2))) := by
            intro l
            induction l with
            | nil => intro _; exact .nil
            | cons a l ih => intro hh; exact .cons (hh a (by simp)) (ih fun x hx => hh x (by simp [hx]))
          exact this _ fun x hx => h x.2 (by show x.2 ∈ (parts.toList.map (·.2)).toArray; simp; exact ⟨x.1, by simpa using hx⟩)
        obtain ⟨r', h1, h2⟩ := fill_rel (ι := ι) (place' := fun i => some (i * n, n)) (cs' := (rep len z.cells.toList).toArray) (fun i => rfl) hk hv (by simpa using lrel_rep hzc len) hf
        refine ⟨.cells r' elem, .slice (some ⟨w.heap.size, 0, none⟩) len len, { w with heap := w.heap.push (.cells r' elem) }, ⟨w.heap.size, 0, r'.size⟩, ?_, rfl, rfl, rfl, rfl, rfl, fun b hb => ?_⟩
        · have hne : ¬ (len * n = 0) := Nat.mul_ne_zero hl0 hn0
          have hle' : ¬ (len * n > 2 ^ 24) := by omega
          have hr : (Instr.buildSlice t len (parts.map fun (x : Nat × Operand) => (x.1, ρ' x.2))).run P w = .ok (.slice (some ⟨w.heap.size, 0, none⟩) len len) { w with heap := w.heap.push (.cells r' elem) } := by
            unfold Instr.buildSlice
            rw [Sem.run_bind, run_underlying hu, Result.andThen_ok]
            simp only []
            rw [Sem.run_bind, run_sizeOfT hn, Result.andThen_ok, if_neg hle', if_neg hne]
            simp only [pure_bind]
            rw [Sem.run_bind, hzr, Result.andThen_ok, range_rep z.cells len n hzs.symm hn0, h1]
            rfl
          show (do let v ← Instr.buildSlice t len (parts.map fun (x : Nat × Operand) => (x.1, ρ' x.2)); pure (Next.value v)).run P w = _
          rw [Sem.run_bind, hr]
          rfl
        · exact ⟨cells_new (h2.mono (upd_sub hb)) rfl rfl, .slice (j := ⟨w.heap.size, 0, r'.size⟩) _ _ (upd_same _ _ _)⟩
  case makeMap t r =>
    have key : (execOp ρ' ⟨dst, .makeMap t r, type, pos, after, guard⟩).run P w = .ok (.value (.map (some w.heap.size))) { w with heap := w.heap.push (.map #[] 0) } → x = .map [] 0 → f = (fun b => .map (some b)) → Made P ι x f (execOp ρ' ⟨dst, .makeMap t r, type, pos, after, guard⟩) w := by
      intro h1 h2 h3
      subst h2; subst h3
      exact ⟨.map #[] 0, _, _, ⟨w.heap.size, 0, 0⟩, h1, rfl, rfl, rfl, rfl, rfl, fun b hb => ⟨⟨rfl, rfl, trivial⟩, .map (j := ⟨w.heap.size, 0, 0⟩) (upd_same _ _ _) rfl⟩⟩
    cases r with
    | none => cases hp; exact key rfl rfl rfl
    | some y =>
      have hy := h y (by simp [Op.operands])
      simp only at hp
      split at hp
      case h_1 hu hi =>
        cases hp
        rw [hi] at hy
        generalize hyy : ρ' y = y' at hy
        cases hy
        refine key ?_ rfl rfl
        simp only [execOp, Instr.makeMap, Option.map_some, hyy, Sem.run_bind, run_underlying hu, Result.andThen_ok, asInt, run_asIntOf, Sem.run_pure, run_newObj]
      case h_2 => cases hp
  case makeSlice t l c =>
    split at hp
    case h_2 => cases hp
    case h_1 elem hu =>
      simp only [Option.bind_eq_bind, Option.bind_eq_some_iff] at hp
      obtain ⟨ll, hl, cc, hc, i, hi, z, hz, hp⟩ := hp
      obtain ⟨hb, hp⟩ := cond_some hp
      cases hp
      obtain ⟨hg, hzr⟩ := zeroT_some hz
      obtain ⟨kl, _, hl'⟩ := asI_rel (h l (by simp [Op.operands])) hl
      obtain ⟨kc, _, hc'⟩ := asI_rel (h c (by simp [Op.operands])) hc
      rw [Bool.and_eq_true, Bool.and_eq_true, Bool.and_eq_true, Bool.and_eq_true, Bool.and_eq_true, decide_eq_true_eq, decide_eq_true_eq, decide_eq_true_eq, decide_eq_true_eq, Bool.not_eq_true'] at hb
      obtain ⟨⟨⟨⟨⟨b1, b2⟩, b3⟩, b4⟩, b5⟩, b6⟩ := hb
      have b5 := beq_of b5
      have b6 := beq_ne b6
      have hn : sizeT P elem = some i.size := by simp [sizeT, hi]
      refine ⟨.cells (rep cc.toNat z.cells.toList).toArray elem, .slice (some ⟨w.heap.size, 0, none⟩) ll.toNat cc.toNat, { w with heap := w.heap.push (.cells (rep cc.toNat z.cells.toList).toArray elem) }, ⟨w.heap.size, 0, (rep cc.toNat z.cells.toList).length⟩, ?_, rfl, rfl, rfl, rfl, rfl, fun b hb => ?_⟩
      · have wl : IntKind.i64.wrap ll = ll := by unfold IntKind.wrap; simp [IntKind.bits, IntKind.signed]; omega
        have wc : IntKind.i64.wrap cc = cc := by unfold IntKind.wrap; simp [IntKind.bits, IntKind.signed]; omega
        have hm : (i.bytes : Int) * cc ≤ (2 ^ 20) * (2 ^ 20) := Int.mul_le_mul (by omega) b3 (by omega) (by omega)
        have hr : (Instr.makeSlice t (.int kl ll) (.int kc cc)).run P w = .ok (.slice (some ⟨w.heap.size, 0, none⟩) ll.toNat cc.toNat) { w with heap := w.heap.push (.cells (rep cc.toNat z.cells.toList).toArray elem) } := by
          unfold Instr.makeSlice
          rw [Sem.run_bind, run_underlying hu, Result.andThen_ok]
          simp only []
          rw [Sem.run_bind, show (asInt (.int kl ll)).run P w = .ok ll w from rfl, Result.andThen_ok, Sem.run_bind, show (asInt (.int kc cc)).run P w = .ok cc w from rfl, Result.andThen_ok,
            Sem.run_bind, run_typeInfoT hi, Result.andThen_ok]
          simp only [wl, wc]
          have t1 : (decide (cc < 0) || decide ((i.bytes : Int) * cc > 2 ^ 48) || decide (ll < 0) || decide (ll > cc)) = false := by
            simp; omega
          rw [if_neg (by rw [t1]; simp)]
          rw [Sem.run_bind, run_askRoom, Result.andThen_ok, Sem.run_bind, run_sizeOfT hn, Result.andThen_ok]
          by_cases hc0 : cc.toNat = 0
          · rw [hc0]
            simp [rep, run_newRow, range_none]
          · have hne : ¬ (cc.toNat * i.size = 0) := Nat.mul_ne_zero hc0 b6
            rw [if_neg hne]
            simp only [pure_bind]
            rw [Sem.run_bind, hzr, Result.andThen_ok, range_rep z.cells cc.toNat i.size b5.symm b6]
            rfl
        show (do let v ← Instr.makeSlice t (ρ' l) (ρ' c); pure (Next.value v)).run P w = _
        rw [hl', hc', Sem.run_bind, hr]
        rfl
      · refine ⟨cells_new ?_ rfl (by simp), .slice (j := ⟨w.heap.size, 0, _⟩) _ _ (upd_same _ _ _)⟩
        simpa using lrel_rep (cells_rel (ground_rel (upd ι b ⟨w.heap.size, 0, (rep cc.toNat z.cells.toList).length⟩) hg)) cc.toNat
  case convert s d y =>
    have hy := h y (by simp [Op.operands])
    split at hp
    case h_2 => cases hp
    case h_1 e b hs hd hb =>
      rw [hb] at hy
      generalize hyy : ρ' y = y' at hy
      cases hy
      split at hp
      case h_2 => cases hp
      case h_1 he =>
        obtain ⟨hle, hp⟩ := cond_some hp
        cases hp
        obtain ⟨c, cap, w1, hr, h1, h2, h3, h4, h5, h6, h7⟩ := stringToBytes_run (P := P) e b w
        refine ⟨.cells c e (c.size, c.size + 1), .slice (some ⟨w.heap.size, 0, none⟩) b.size cap, w1, ⟨w.heap.size, 0, c.size⟩, ?_, h3, h4, h5, h6, rfl, fun r hb => ?_⟩
        · show (do let v ← convert s d (ρ' y); pure (Next.value v)).run P w = _
          rw [hyy, Sem.run_bind]
          have : (convert s d (.string b)).run P w = (Conv.stringToBytes e b).run P w := by
            unfold convert
            rw [Sem.run_bind, run_underlying hs, Result.andThen_ok, Sem.run_bind, run_underlying hd, Result.andThen_ok]
            simp only
            rw [Sem.run_bind, run_underlying he, Result.andThen_ok]
          rw [this, hr]
          rfl
        · refine ⟨⟨rfl, fun i v hv => ?_, .inr (Nat.le_refl _)⟩, ?_⟩
          · have hi : i < b.size := by
              have := (List.getElem?_eq_some_iff.1 hv).1
              simpa using this
            refine ⟨v, ?_, ?_⟩
            · rw [show i + (0 : Nat) = i from rfl]
              show c[i + 0]? = some v
              rw [Nat.add_zero, h7 i hi]
              simpa using hv
            · simp at hv
              obtain ⟨x, _, rfl⟩ := hv
              exact .int _ _
          · refine .loose (j := ⟨w.heap.size, 0, c.size⟩) (upd_same _ _ _) (.inl rfl) h1 ?_
            simp [h2]
  case makeChan t s =>
    have hs := h s (by simp [Op.operands])
    split at hp
    case h_2 => cases hp
    case h_1 d elem hu =>
      simp only [Option.bind_eq_bind, Option.bind_eq_some_iff] at hp
      obtain ⟨n, hn, i, hi, hp⟩ := hp
      obtain ⟨hb, hp⟩ := cond_some hp
      cases hp
      obtain ⟨k, _, hk⟩ := asI_rel hs hn
      simp only [Bool.and_eq_true, decide_eq_true_eq] at hb
      obtain ⟨⟨b1, b2⟩, b3⟩ := hb
      have hm : (i.bytes : Int) * n ≤ (2 ^ 20) * (2 ^ 20) := Int.mul_le_mul (by omega) b2 (by omega) (by omega)
      refine ⟨.chan n.toNat #[] false 0 0 false, .chan (some w.heap.size), { w with heap := w.heap.push (.chan n.toNat #[] false 0 0 false) }, ⟨w.heap.size, 0, 0⟩, ?_, rfl, rfl, rfl, rfl, rfl, fun r hb => ?_⟩
      · show (do let v ← Instr.makeChan t (ρ' s); pure (Next.value v)).run P w = _
        rw [hk, Sem.run_bind]
        have : (Instr.makeChan t (.int k n)).run P w = .ok (.chan (some w.heap.size)) { w with heap := w.heap.push (.chan n.toNat #[] false 0 0 false) } := by
          unfold Instr.makeChan
          rw [Sem.run_bind, show (asInt (.int k n)).run P w = .ok n w from rfl, Result.andThen_ok, Sem.run_bind, run_underlying hu, Result.andThen_ok]
          simp only
          rw [Sem.run_bind, run_typeInfoT hi, Result.andThen_ok]
          have hmax : IntKind.i64.max = 9223372036854775807 := by decide
          rw [if_neg (by rw [hmax]; omega)]
          simp
        rw [this]
        rfl
      · exact ⟨⟨rfl, rfl, rfl, rfl, rfl, rfl, .nil⟩, .chan (j := ⟨w.heap.size, 0, 0⟩) (upd_same _ _ _) rfl⟩
end Go.Ev
