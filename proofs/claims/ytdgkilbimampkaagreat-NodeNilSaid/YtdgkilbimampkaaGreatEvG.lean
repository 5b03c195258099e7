import Derived.Test.YtdgkilbimampkaaGreatEvF
namespace Go.Ev
open Go
variable {P : Program}

theorem optrel_map {ι : Inj} {ρ ρ' : Operand → Value} {x : Option Operand} (h : ∀ y ∈ x.toArray, VRel ι (ρ y) (ρ' y)) : OptRel ι (x.map ρ) (x.map ρ') := by
  cases x with
  | none => trivial
  | some y => exact h y (by simp)

theorem nilCheckA_run {ι : Inj} {v v' r : Value} (h : VRel ι v v') (k : nilA v = some r) :
    r = v ∧ ((∃ a, v' = .pointer (some a)) ∨ (∃ t x, v' = .iface t x) ∨ ∃ f a b, v' = .func (.func f) a b) := by
  unfold nilA at k
  split at k <;> cases k
  · rename_i a; cases h; exact ⟨rfl, .inl ⟨_, rfl⟩⟩
  · cases h; exact ⟨rfl, .inr (.inl ⟨_, _, rfl⟩)⟩
  · rename_i f a b
    cases h with
    | func hf _ _ =>
      rename_i f' _ _ _ _
      cases f' <;> simp only [FnRel] at hf
      · exact ⟨rfl, .inr (.inr ⟨_, _, _, rfl⟩)⟩
      all_goals cases hf

theorem pure_run {ι : Inj} {o : Oper} {ρ ρ' : Operand → Value} {v : Value} (h : ∀ x ∈ o.op.operands, VRel ι (ρ x) (ρ' x)) (hcls : cls P o = .pure) (hp : pureA P ρ o = some v) (w : World) :
    ∃ v', (execOp ρ' o).run P w = .ok (.value v') w ∧ VRel ι v v' := by
  by_cases hg : o.op.operands.all (fun x => ground (ρ x)) = true ∧ (∀ x, o.op ≠ .move x) ∧ (∀ x, o.op ≠ .assign x)
  · obtain ⟨hg, hm1, hm2⟩ := hg
    have hs : ∀ cs b, o.op ≠ .select cs b := fun cs b e => by unfold cls at hcls; rw [e] at hcls; cases hcls
    have he : ∀ x ∈ o.op.operands, ρ' x = ρ x := fun x hx => ground_eq (by simpa using (Array.all_eq_true_iff_forall_mem.1 hg) x hx) (h x hx)
    rw [execOp_congr o hs he]
    unfold pureA at hp
    split at hp
    case h_1 e => exact absurd e (hm1 _)
    case h_2 e => exact absurd e (hm2 _)
    case h_3 =>
      rw [hg] at hp
      simp only [cond_true] at hp
      split at hp
      case h_1 hr =>
        obtain ⟨hgv, hv⟩ := cond_some hp
        cases hv
        exact ⟨_, runP_run P hr w, ground_rel ι hgv⟩
      case h_2 => cases hp
  · obtain ⟨dst, op, type, pos, after, guard⟩ := o
    simp only at h hg
    have hng : (∀ x, op ≠ .move x) → (∀ x, op ≠ .assign x) → (op.operands.all fun x => ground (ρ x)) = false := by
      intro h1 h2
      cases hb : op.operands.all fun x => ground (ρ x) with
      | false => rfl
      | true => exact absurd ⟨hb, h1, h2⟩ hg
    clear hg
    cases op
    case move x => cases hp; exact ⟨_, rfl, h x (by simp [Op.operands])⟩
    case assign x => cases hp; exact ⟨_, rfl, h x (by simp [Op.operands])⟩
    all_goals
      replace hng := hng (fun _ e => by cases e) (fun _ e => by cases e)
      simp only [pureA, hng, cond_false] at hp
    all_goals first | (cases hp; done) | skip
    case pick c a b =>
      have hc := h c (by simp [Op.operands]); have ha := h a (by simp [Op.operands]); have hb := h b (by simp [Op.operands])
      split at hp
      case h_1 t ht =>
        rw [ht] at hc
        generalize hcc : ρ' c = c' at hc
        cases hc
        cases hp
        cases t
        · exact ⟨ρ' b, by simp [execOp, hcc, asBool], hb⟩
        · exact ⟨ρ' a, by simp [execOp, hcc, asBool], ha⟩
      case h_2 => cases hp
    case build t parts =>
      obtain ⟨v', h1, h2⟩ := buildA_run (ι := ι) (ρ := ρ) (ρ' := ρ') (fun x hx => h x.2 (by simp only [Op.operands]; simp; exact ⟨_, by simpa using hx⟩)) hp w
      exact ⟨v', by simp only [execOp, Sem.run_bind, h1, Result.andThen_ok, Sem.run_pure], h2⟩
    case nilCheck x =>
      have hx := h x (by simp [Op.operands])
      obtain ⟨rfl, h2⟩ := nilCheckA_run hx hp
      refine ⟨ρ' x, ?_, hx⟩
      simp only [execOp]
      rcases h2 with ⟨a, e⟩ | ⟨t, y, e⟩ | ⟨f, a, b, e⟩ <;> rw [e] <;> rfl
    case binOp op t x y yt =>
      have hx := h x (by simp [Op.operands]); have hy := h y (by simp [Op.operands])
      cases op <;> first | (cases hp; done) | skip
      case eql =>
        simp only [Option.map_eq_some_iff] at hp
        obtain ⟨r, hr, rfl⟩ := hp
        obtain ⟨h1, h2, h3⟩ := eqA_run hx hy hr w
        exact ⟨_, by simp only [execOp, Sem.run_bind, h1, Result.andThen_ok, h2, Sem.run_pure], .bool _⟩
      case neq =>
        simp only [Option.map_eq_some_iff] at hp
        obtain ⟨r, hr, rfl⟩ := hp
        obtain ⟨h1, h2, h3⟩ := eqA_run hx hy hr w
        exact ⟨_, by simp only [execOp, Sem.run_bind, h1, Result.andThen_ok, h3, Sem.run_pure], .bool _⟩
    case makeInterface t x =>
      have hx := h x (by simp [Op.operands])
      split at hp
      case h_1 => cases hp
      case h_2 d hd hu =>
        cases hp
        refine ⟨.iface t (ρ' x), ?_, .iface t hx⟩
        simp only [execOp, Instr.makeInterface, Sem.run_bind, run_underlying hu, Result.andThen_ok]
        cases d <;> first | exact absurd hu (hd _) | rfl
      case h_3 => cases hp
    case makeFunc fn first captured =>
      have h1 : LRel ι (first.map ρ).toList (first.map ρ').toList := lrel_amap fun x hx => h x (by simp [Op.operands, hx])
      have h2 : LRel ι (captured.map ρ).toList (captured.map ρ').toList := lrel_amap fun x hx => h x (by simp [Op.operands, hx])
      split at hp
      case h_1 => cases hp
      case h_2 hfn =>
        cases hp
        refine ⟨_, rfl, .func ?_ h1 h2⟩
        cases fn <;> first | exact absurd rfl (hfn _) | rfl
    case slice t x lo hi mx =>
      obtain ⟨v', h1, h2⟩ := sliceA_run (h x (by simp [Op.operands])) (optrel_map (x := lo) fun y hy => h y (by simp only [Op.operands, Array.mem_append]; exact .inl (.inl (.inr hy))))
        (optrel_map (x := hi) fun y hy => h y (by simp only [Op.operands, Array.mem_append]; exact .inl (.inr hy))) (optrel_map (x := mx) fun y hy => h y (by simp only [Op.operands, Array.mem_append]; exact .inr hy)) hp w
      exact ⟨v', by simp only [execOp, Sem.run_bind, h1, Result.andThen_ok, Sem.run_pure], h2⟩
    case fieldAddr s x f =>
      obtain ⟨v', h1, h2⟩ := fieldA_run (h x (by simp [Op.operands])) hp w
      exact ⟨v', by simp only [execOp, Sem.run_bind, h1, Result.andThen_ok, Sem.run_pure], h2⟩
    case field t x f =>
      have hx := h x (by simp [Op.operands])
      split at hp
      case h_1 fs cs hu hcs =>
        rw [hcs] at hx
        generalize hxx : ρ' x = x' at hx
        cases hx with
        | agg hx =>
          simp only [Option.bind_eq_bind, Option.bind_eq_some_iff] at hp
          obtain ⟨fd, hfd, hp⟩ := hp
          obtain ⟨v', h1, h2⟩ := run_part_rel hx hp w
          exact ⟨v', by simp only [execOp, Instr.field, hxx, Sem.run_bind, run_underlying hu, Result.andThen_ok, hfd, asAgg, Sem.run_pure, h1], h2⟩
      case h_2 => cases hp
    case indexAddr t x ix =>
      obtain ⟨v', h1, h2⟩ := indexAddrA_run (h x (by simp [Op.operands])) (h ix (by simp [Op.operands])) hp w
      exact ⟨v', by simp only [execOp, Sem.run_bind, h1, Result.andThen_ok, Sem.run_pure], h2⟩
    case index t x ix =>
      have hx := h x (by simp [Op.operands]); have hi := h ix (by simp [Op.operands])
      split at hp
      case h_1 len elem cs hu hcs =>
        rw [hcs] at hx
        generalize hxx : ρ' x = x' at hx
        simp only [Option.bind_eq_bind, Option.bind_eq_some_iff] at hp
        obtain ⟨i, hin, n, hn, hp⟩ := hp
        obtain ⟨kd, hk, hk'⟩ := asI_rel hi hin
        obtain ⟨hb, hp⟩ := cond_some hp
        simp only [Bool.and_eq_true, decide_eq_true_eq] at hb
        cases hx with
        | agg hx =>
          obtain ⟨v', h1, h2⟩ := run_part_rel hx hp w
          refine ⟨v', ?_, h2⟩
          simp only [execOp, Instr.index, hxx, hk', Sem.run_bind, run_asIntOf, run_underlying hu, Result.andThen_ok, Sem.run_ite, if_pos hb, run_sizeOfT hn, h1, Sem.run_pure]
      case h_2 => cases hp
    case typeAssert x xt asserted ok =>
      obtain ⟨v', h1, h2⟩ := typeAssertA_run (xt := xt) (h x (by simp [Op.operands])) hp w
      exact ⟨v', by simp only [execOp, Sem.run_bind, h1, Result.andThen_ok, Sem.run_pure], h2⟩
    case extract t i =>
      have ht := h t (by simp [Op.operands])
      split at hp
      case h_1 vs hvs =>
        rw [hvs] at ht
        generalize htt : ρ' t = t' at ht
        cases ht with
        | tuple ht =>
          rw [nth_eq] at hp
          obtain ⟨v', h1, h2⟩ := ht.get hp
          simp only [Array.getElem?_toList] at h1
          exact ⟨v', by simp only [execOp, Instr.extract, htt, h1, Sem.run_bind, Sem.run_pure, Result.andThen_ok], h2⟩
      case h_2 => cases hp
    case call c =>
      obtain ⟨callee, args, argTypes⟩ := c
      simp only at hp
      split at hp
      case h_2 => cases hp
      case h_1 =>
        have look : ∀ {x : Value}, (args[0]?).map ρ = some x → ∃ a x', args[0]? = some a ∧ (args.map ρ')[0]? = some x' ∧ VRel ι x x' := by
          intro x hx
          obtain ⟨a, ha, rfl⟩ := Option.map_eq_some_iff.1 hx
          exact ⟨a, ρ' a, ha, by simp [ha], h a (by simp only [Op.operands, Call.operands]; simp; exact (Array.mem_iff_getElem?).2 ⟨0, ha⟩)⟩
        split at hp
        case h_1 e a n cap ht hx =>
          cases hp
          obtain ⟨t, ht, hu⟩ := Option.bind_eq_some_iff.1 ht
          obtain ⟨x, x', hx, hx', hrel⟩ := look hx
          have : ∃ a' c', x' = .slice a' n c' := by cases hrel <;> exact ⟨_, _, rfl⟩
          obtain ⟨a', c', rfl⟩ := this
          refine ⟨goInt n, ?_, .int _ _⟩
          simp only [execOp, resolve, invoke, builtin, Builtin.len_, Sem.run_bind, Sem.run_pure, Result.andThen_ok, ht, hx', run_underlying hu]
        case h_2 n e x ht hx =>
          cases hp
          obtain ⟨t, ht, hu⟩ := Option.bind_eq_some_iff.1 ht
          obtain ⟨x, x', hx, hx', hrel⟩ := look hx
          refine ⟨goInt n, ?_, .int _ _⟩
          simp only [execOp, resolve, invoke, builtin, Builtin.len_, Sem.run_bind, Sem.run_pure, Result.andThen_ok, ht, hx', run_underlying hu]
        case h_3 => cases hp
end Go.Ev
