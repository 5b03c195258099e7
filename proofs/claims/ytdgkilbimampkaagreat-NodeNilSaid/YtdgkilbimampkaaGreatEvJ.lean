import Derived.Test.YtdgkilbimampkaaGreatEvI
namespace Go.Ev
open Go
variable {P : Program}

/-- a stretch of a block's cells, as lists -/
theorem sub_rel {ι : Inj} {c : List Value} {cC : Array Value} {o d n : Nat} {l : List Value} (hc : ∀ (i : Nat) (v : Value), c[i]? = some v → ∃ v', cC[i + d]? = some v' ∧ VRel ι v v') (h : sub c o n = some l) :
    ∃ l', LRel ι l l' ∧ l'.length = n ∧ ∀ (i : Nat) (v : Value), l'[i]? = some v → cC[o + d + i]? = some v := by
  obtain ⟨h1, h2⟩ := sub_some h
  have hl : ((cC.toList.drop (o + d)).take n).length = n := by
    rw [List.length_take, List.length_drop]
    cases n with
    | zero => simp
    | succ n =>
      have hlast : c[o + n]? = some (l[n]'(by omega)) := by
        have : l[n]? = some (l[n]'(by omega)) := List.getElem?_eq_getElem _
        rw [← this, h1]
        simp [List.getElem?_drop]
      obtain ⟨x', hx', _⟩ := hc _ _ hlast
      have := (Array.getElem?_eq_some_iff.1 hx').1
      simp only [Array.length_toList]
      omega
  refine ⟨(cC.toList.drop (o + d)).take n, LRel.of_get (by omega) ?_, hl, ?_⟩
  · intro i x hx
    have hin : i < n := by have := (List.getElem?_eq_some_iff.1 hx).1; omega
    rw [h1] at hx
    simp only [List.getElem?_take, List.getElem?_drop, if_pos hin] at hx ⊢
    obtain ⟨x', h3, h4⟩ := hc _ _ hx
    exact ⟨x', by rw [← h3]; simp only [Array.getElem?_toList]; congr 1; omega, h4⟩
  · intro i v hv
    have hin : i < n := by have := (List.getElem?_eq_some_iff.1 hv).1; omega
    simp only [List.getElem?_take, List.getElem?_drop, if_pos hin, Array.getElem?_toList] at hv
    exact hv

theorem run_cells {w : World} {g o : Nat} {cC : Array Value} {t : TypeId} {fz : Nat × Nat} (hg : w.heap[g]? = some (.cells cC t fz)) {l : List Value} (h : ∀ (i : Nat) (v : Value), l[i]? = some v → cC[o + i]? = some v) :
    (loadCells ⟨g, o, none⟩ l.length).run P w = .ok l.toArray w := by
  refine run_loadCells_list (P := P) w ⟨g, o, none⟩ l fun i v hv => ?_
  rw [add_eq, cell?_of hg]
  exact h i v hv

theorem bytesToString_run {w : World} {a : Addr} {ns : List Int} (h : (loadCells a ns.length).run P w = .ok (ns.map fun n => Value.int .u8 n).toArray w) (c : Nat) :
    (Conv.bytesToString (.slice (some a) ns.length c)).run P w = .ok (.string ⟨(ns.map fun n => UInt8.ofNat n.toNat).toArray⟩) w := by
  unfold Conv.bytesToString
  simp only []
  rw [Sem.run_bind, h, Result.andThen_ok, Sem.run_bind]
  rw [run_byteLoop (P := P) w _ (fun n s => rfl) ns ByteArray.empty]
  simp [ByteArray.empty, ByteArray.emptyWithCapacity]
  rfl

theorem read_run {ι : Inj} {m : AMem} {w : World} (hm : MObj ι m w) {o : Oper} {ρ ρ' : Operand → Value} {v : Value} (h : ∀ x ∈ o.op.operands, VRel ι (ρ x) (ρ' x)) (hp : readA P m ρ o = some v) :
    ∃ v', (execOp ρ' o).run P w = .ok (.value v') w ∧ VRel ι v v' := by
  obtain ⟨dst, op, type, pos, after, guard⟩ := o
  simp only at h
  cases op <;> simp only [readA] at hp <;> try (cases hp; done)
  case load t a =>
    obtain ⟨ad, v', h1, h2, h3⟩ := loadA_run hm (h a (by simp [Op.operands])) hp
    refine ⟨v', ?_, h3⟩
    show (do let v ← Instr.loadAt t (ρ' a); pure (Next.value v)).run P w = _
    unfold Instr.loadAt
    rw [h1]
    simp only [Instr.sureAddr, pure_bind]
    rw [Sem.run_bind, h2]
    rfl
  case lookup t x k ok =>
    obtain ⟨v', h1, h2⟩ := lookupA_run hm (h x (by simp [Op.operands])) (h k (by simp [Op.operands])) hp
    refine ⟨v', ?_, h2⟩
    show (do let v ← Instr.lookup t (ρ' x) (ρ' k) ok; pure (Next.value v)).run P w = _
    rw [Sem.run_bind, h1]
    rfl
  case entry it =>
    have hi := h it (by simp [Op.operands])
    split at hp
    case h_2 => cases hp
    case h_1 r hr =>
      rw [hr] at hi
      split at hp
      case h_2 => cases hp
      case h_1 b since seen stepped hb =>
        split at hp
        case h_2 => cases hp
        case h_1 es clock stamp hes hst =>
          obtain ⟨hcl, hp2⟩ := cond_some hp
          clear hp
          replace hcl := beq_of hcl
          subst hcl
          obtain ⟨e, he, rfl⟩ := Option.map_eq_some_iff.1 hp2
          generalize hii : ρ' it = i' at hi
          cases hi with
          | ptr hj =>
            rename_i j
            obtain ⟨c1, hc1, ho1⟩ := hm _ _ _ hb hj
            cases c1 with
            | mapIter mo since' seen' stepped' =>
              obtain ⟨e1, e2, e3, e4, e5⟩ := ho1
              cases mo with
              | none => exact e5.elim
              | some b' =>
                obtain ⟨jb, hjb, hjo, rfl⟩ := e5
                obtain ⟨c2, hc2, ho2⟩ := hm _ _ _ hes hjb
                cases c2 with
                | map esC clkC =>
                  obtain ⟨_, rfl, hes2⟩ := ho2
                  have hfind : ∃ e', esC.find? (fun e => e.born == stamp) = some e' ∧ e'.key = e.key ∧ ground e.key = true ∧ VRel ι e.val e'.val := by
                    rw [← Array.find?_toList]
                    clear hc2 hes hp2
                    revert he
                    generalize esC.toList = l' at hes2
                    intro he
                    induction es generalizing l' with
                    | nil => simp at he
                    | cons a l ih =>
                      cases l' with
                      | nil => exact hes2.elim
                      | cons a' l' =>
                        obtain ⟨g1, g2, g3, g4, g5⟩ := hes2
                        simp only [List.find?_cons, g3] at he ⊢
                        split at he
                        · cases he; exact ⟨a', rfl, g2, g1, g4⟩
                        · exact ih _ g5 he
                  obtain ⟨e', he', hk, hg, hv⟩ := hfind
                  refine ⟨.tuple #[e'.key, e'.val], ?_, .tuple (.cons (by rw [hk]; exact ground_rel ι hg) (.cons hv .nil))⟩
                  show (do let v ← Instr.entry (ρ' it); pure (Next.value v)).run P w = _
                  rw [hii]
                  unfold Instr.entry
                  simp only [e1, Nat.zero_add]
                  have hback : seen'.back? = some stamp := by
                    rw [← e3] at hst
                    simpa [Array.getLast?_toList] using hst
                  simp only [bind_assoc]
                  rw [Sem.run_bind, run_getObj hc1 (by simp), Result.andThen_ok]
                  simp only [hback]
                  rw [Sem.run_bind, Sem.run_bind, run_getObj hc2 (by simp), Result.andThen_ok]
                  simp [e4, he']
                | _ => simp [ORel] at ho2
            | _ => simp [ORel] at ho1
  case convert s d x =>
    have hx := h x (by simp [Op.operands])
    split at hp
    case h_2 => cases hp
    case h_1 e hs hd =>
      have conv : ∀ {y : Value} {r : ByteArray}, P.underlying e = some (.int .u8) → (∀ k n, y ≠ .int k n) → (∀ k n, y ≠ .float k n) → (∀ k a b, y ≠ .complex k a b) → (∀ s, y ≠ .string s) → ρ' x = y → (Conv.bytesToString y).run P w = .ok (.string r) w → (execOp ρ' ⟨dst, .convert s d x, type, pos, after, guard⟩).run P w = .ok (.value (.string r)) w := by
        intro y r he n1 n2 n3 n4 hy hr
        show (do let v ← convert s d (ρ' x); pure (Next.value v)).run P w = _
        rw [hy, Sem.run_bind]
        have : (convert s d y).run P w = (Conv.bytesToString y).run P w := by
          unfold convert
          rw [Sem.run_bind, run_underlying hs, Result.andThen_ok, Sem.run_bind, run_underlying hd, Result.andThen_ok]
          cases y <;> first | exact absurd rfl (n1 _ _) | exact absurd rfl (n2 _ _) | exact absurd rfl (n3 _ _ _) | exact absurd rfl (n4 _) | (simp only []; rw [Sem.run_bind, run_underlying he, Result.andThen_ok])
        rw [this, hr]
        rfl
      split at hp
      case h_3 => cases hp
      case h_1 he hxx =>
        cases hp
        rw [hxx] at hx
        generalize hxy : ρ' x = x' at hx
        cases hx
        exact ⟨_, conv he (by simp) (by simp) (by simp) (by simp) hxy rfl, .string _⟩
      case h_2 b o sp n cap he hxx =>
        rw [hxx] at hx
        generalize hxy : ρ' x = x' at hx
        split at hp
        case h_2 => cases hp
        case h_1 c ce hb =>
          simp only [Option.bind_eq_bind, Option.bind_eq_some_iff, Option.map_eq_some_iff] at hp
          obtain ⟨l, hl, bs, hbs, rfl⟩ := hp
          obtain ⟨ns, rfl, rfl⟩ := bytesOf_spec hbs
          have key : ∀ {o' c' : Nat} {j : J}, ι b = some j → (o' = o + j.off ∨ n = 0) → x' = .slice (some ⟨j.blk, o', none⟩) n c' → ∃ v', (execOp ρ' ⟨dst, .convert s d x, type, pos, after, guard⟩).run P w = .ok (.value v') w ∧ VRel ι (.string ⟨(ns.map fun n => UInt8.ofNat n.toNat).toArray⟩) v' := by
            intro o' c' j hj ho hxe
            obtain ⟨cc, hcc, hor⟩ := hm _ _ _ hb hj
            cases cc with
            | cells cC eC fz =>
              obtain ⟨l', h1, h2, h3⟩ := sub_rel hor.2.1 hl
              have h1 := lrel_bytes h1
              subst h1
              have hn : ns.length = n := by simpa using h2
              subst hn
              have hload : (loadCells ⟨j.blk, o', none⟩ ns.length).run P w = .ok (ns.map fun n => Value.int .u8 n).toArray w := by
                have := run_cells (P := P) (o := o') hcc (l := ns.map fun n => Value.int .u8 n) (fun i v hv => by
                  rcases ho with ho | ho
                  · subst ho; exact h3 i v hv
                  · have : ns = [] := by simpa using ho
                    subst this; simp at hv)
                simpa using this
              exact ⟨_, conv he (by simp) (by simp) (by simp) (by simp) (hxy.trans hxe) (bytesToString_run hload c'), .string _⟩
            | _ => simp [ORel] at hor
          cases hx with
          | slice _ _ hj => exact key hj (.inl rfl) rfl
          | loose hj ho hc hr => exact key hj (ho.imp id (fun h => h.1)) rfl
  case call c =>
    obtain ⟨callee, args, argTypes⟩ := c
    simp only at hp
    have look : ∀ {x : Value}, (args[0]?).map ρ = some x → ∃ x', (args.map ρ')[0]? = some x' ∧ VRel ι x x' := by
      intro x hx
      obtain ⟨a, ha, rfl⟩ := Option.map_eq_some_iff.1 hx
      exact ⟨ρ' a, by simp [ha], h a (by simp only [Op.operands, Call.operands]; simp; exact .inr ((Array.mem_iff_getElem?).2 ⟨0, ha⟩))⟩
    split at hp
    case h_1 k e hx ht =>
      cases hp
      obtain ⟨t, ht, hu⟩ := Option.bind_eq_some_iff.1 ht
      obtain ⟨x', hx', hrel⟩ := look hx
      cases hrel
      refine ⟨goInt 0, ?_, .int _ _⟩
      simp only [execOp, resolve, invoke, builtin, Builtin.len_, Sem.run_bind, Sem.run_pure, Result.andThen_ok, ht, hx', run_underlying hu]
    case h_2 b k e hx ht =>
      obtain ⟨t, ht, hu⟩ := Option.bind_eq_some_iff.1 ht
      obtain ⟨x', hx', hrel⟩ := look hx
      split at hp
      case h_2 => cases hp
      case h_1 es clk hb =>
        cases hp
        cases hrel with
        | map hj ho =>
          rename_i j
          obtain ⟨cc, hcc, hor⟩ := hm _ _ _ hb hj
          cases cc with
          | map esC clkC =>
            have hsz : esC.size = es.length := by simpa using hor.2.2.length
            refine ⟨goInt es.length, ?_, .int _ _⟩
            simp only [execOp, resolve, invoke, builtin, Builtin.len_, Sem.run_bind, Sem.run_pure, Result.andThen_ok, ht, hx', run_underlying hu, run_getObj hcc (by simp), hsz]
          | _ => simp [ORel] at hor
    case h_3 b k e hx ht =>
      obtain ⟨t, ht, hu⟩ := Option.bind_eq_some_iff.1 ht
      obtain ⟨x', hx', hrel⟩ := look hx
      split at hp
      case h_2 => cases hp
      case h_1 n buf s r hb =>
        cases hp
        cases hrel with
        | chan hj ho =>
          rename_i j
          obtain ⟨cc, hcc, hor⟩ := hm _ _ _ hb hj
          cases cc with
          | chan n' buf' cl s' r' tm =>
            obtain ⟨_, _, _, _, _, htm, hbuf⟩ := hor
            have hsz : buf'.size = buf.length := by simpa using hbuf.length
            refine ⟨goInt buf.length, ?_, .int _ _⟩
            simp only [execOp, resolve, invoke, builtin, Builtin.len_, Sem.run_bind, Sem.run_pure, Result.andThen_ok, ht, hx', run_underlying hu, run_getObj hcc (by simp), hsz, htm, Bool.false_eq_true, if_false]
          | _ => simp [ORel] at hor
    case h_4 b k e hx ht =>
      obtain ⟨t, ht, hu⟩ := Option.bind_eq_some_iff.1 ht
      obtain ⟨x', hx', hrel⟩ := look hx
      split at hp
      case h_2 => cases hp
      case h_1 n buf s r hb =>
        cases hp
        cases hrel with
        | chan hj ho =>
          rename_i j
          obtain ⟨cc, hcc, hor⟩ := hm _ _ _ hb hj
          cases cc with
          | chan n' buf' cl s' r' tm =>
            obtain ⟨_, hn, _, _, _, htm, hbuf⟩ := hor
            refine ⟨goInt n, ?_, .int _ _⟩
            simp only [execOp, resolve, invoke, builtin, Builtin.cap_, Sem.run_bind, Sem.run_pure, Result.andThen_ok, ht, hx', run_underlying hu, run_getObj hcc (by simp), hn, htm, Bool.false_eq_true, if_false]
          | _ => simp [ORel] at hor
    case h_5 => cases hp
end Go.Ev
