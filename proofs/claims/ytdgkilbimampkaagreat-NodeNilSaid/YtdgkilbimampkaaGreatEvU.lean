import Derived.Test.YtdgkilbimampkaaGreatEvT
namespace Go.Ev
open Go
variable {P : Program} [Base]

omit [Base] in
theorem methodA_run {ι : Inj} {t : TypeId} {v v' x : Value} {name : String} {f : FuncId} (hv : VRel ι v v') (h : methodA P t v name = some (f, x)) (w : World) (args : Array Value) :
    ∃ x', VRel ι x x' ∧ (callMethod (.iface t v') name args).run P w = (callFunc f (#[x'] ++ args)).run P w := by
  unfold methodA at h
  simp only [Option.bind_eq_bind, Option.bind_eq_some_iff] at h
  obtain ⟨i, hi, me, hme, h⟩ := h
  obtain ⟨hpe, h⟩ := cond_some h
  have hpath : me.path = #[] := by simpa using hpe
  have hsz : ∃ n, P.types.size + Made.depth = n + 1 := by
    have : 0 < Made.depth := by decide
    exact ⟨P.types.size + Made.depth - 1, by omega⟩
  obtain ⟨n, hn⟩ := hsz
  have key : ∀ {b : Bool}, me.func = some (f, b) → (receiverAt t (.val v') b (some ((name.splitOn ".").getLastD name))).run P w = .ok v' w → x = v → ∃ x', VRel ι x x' ∧ (callMethod (.iface t v') name args).run P w = (callFunc f (#[x'] ++ args)).run P w := by
    intro b hf hr hx
    subst hx
    refine ⟨v', hv, ?_⟩
    unfold callMethod
    simp only []
    rw [Sem.run_bind, run_program, Result.andThen_ok, hn, Sem.run_bind]
    have : (method (n + 1) t v' name).run P w = .ok (f, v') w := by
      unfold method
      rw [Sem.run_bind, run_typeInfoT hi, Result.andThen_ok]
      simp only [hme, hpath]
      rw [Sem.run_bind]
      simp only [follow, Sem.run_pure, Result.andThen_ok, hf]
      rw [Sem.run_bind]
      simp only [Array.isEmpty_empty, if_true]
      rw [hr]
      rfl
    rw [this, Result.andThen_ok]
  split at h
  case h_1 e hf hu =>
    cases h
    refine key hf ?_ rfl
    unfold receiverAt
    rw [Sem.run_bind, run_underlying hu, Result.andThen_ok]
    rfl
  case h_2 => cases h
  case h_3 d hnp hf hu =>
    cases h
    refine key hf ?_ rfl
    unfold receiverAt
    rw [Sem.run_bind, run_underlying hu, Result.andThen_ok]
    cases d <;> first | rfl | exact (hnp _ rfl).elim | exact absurd hu (hnp _)
  case h_4 => cases h

theorem fnCall_step {R : Rec} (hR : CallSound P R) (hC : CodeSound P R) {fn : Fn} {args captured : List Value} {m m' : AMem} {v : Value} (h : fnCall P R fn args captured m = some (v, m')) :
    m.next ≤ m'.next ∧ ∀ ι w fn' (args' captured' : Array Value), FnRel ι fn fn' → LRel ι args args'.toList → LRel ι captured captured'.toList → MRel ι m w → Free ι m m' w → ∀ s fr cs, Applies P fr cs s w → s.run P w = (invoke (.fn fn' captured') args').run P w → Comes' P ι m m' w fr cs v := by
  unfold fnCall at h
  split at h
  case h_1 f =>
    obtain ⟨h1, h2⟩ := enterA_step hR h
    refine ⟨h1, fun ι w fn' args' captured' hfn ha hc hm hf s fr cs hap hs => ?_⟩
    cases fn' <;> simp only [FnRel] at hfn
    all_goals cases hfn
    exact h2 ι w (args' ++ captured') (by rw [Array.toList_append]; exact ha.append hc) hm hf s fr cs hap (by rw [hs]; rfl)
  case h_2 l =>
    obtain ⟨h1, h2⟩ := roundA_step hC h
    refine ⟨h1, fun ι w fn' args' captured' hfn ha hc hm hf s fr cs hap hs => ?_⟩
    cases fn' <;> simp only [FnRel] at hfn
    exact h2 ι w args' _ hfn ha hm hf s fr cs hap (by rw [hs]; rfl)
  case h_3 name =>
    split at h
    case h_2 => cases h
    case h_1 t x rest =>
      simp only [Option.bind_eq_bind, Option.bind_eq_some_iff] at h
      obtain ⟨⟨f, y⟩, hme, h⟩ := h
      obtain ⟨h1, h2⟩ := enterA_step hR h
      refine ⟨h1, fun ι w fn' args' captured' hfn ha hc hm hf s fr cs hap hs => ?_⟩
      cases fn' <;> simp only [FnRel] at hfn
      all_goals cases hfn
      generalize hl : args'.toList = l at ha
      cases ha with
      | cons hx ht =>
        rename_i x1 l'
        cases hx with
        | iface _ hx =>
          rename_i x'
          obtain ⟨y', hy, hrun⟩ := methodA_run (P := P) hx hme w (args'.extract 1 args'.size)
          have harr : args'.extract 1 args'.size = l'.toArray := by
            apply Array.ext'
            rw [Array.toList_extract, hl]
            have : args'.size = l'.length + 1 := by have := congrArg List.length hl; simpa using this
            rw [this]
            simp
          refine h2 ι w (#[y'] ++ l'.toArray) (by simpa using .cons hy ht) hm hf s fr cs hap ?_
          rw [hs, ← harr, ← hrun]
          have h0 : args'[0]? = some (.iface t x') := by
            rw [← Array.getElem?_toList, hl]; rfl
          unfold invoke
          simp only [h0]
  case h_4 => cases h

omit [Base] in
theorem run_bind_eq {α β : Type} {s : Sem α} {w w' : World} {a : α} {f : α → Sem β} (h : s.run P w = .ok a w') : (s >>= f).run P w = (f a).run P w' := by
  rw [Sem.run_bind, h]; rfl

theorem callA_step {R : Rec} (hR : CallSound P R) (hC : CodeSound P R) {ρ : Operand → Value} {c : Call} {m m' : AMem} {v : Value} (h : callA P R ρ c m = some (v, m')) (ty : TypeId) :
    m.next ≤ m'.next ∧ ∀ ι w (ρ' : Operand → Value), (∀ x ∈ c.operands, VRel ι (ρ x) (ρ' x)) → MRel ι m w → Free ι m m' w → ∀ s fr cs, Applies P fr cs s w → s.run P w = (resolve ρ' c ty >>= fun d => invoke d.target d.args).run P w → Comes' P ι m m' w fr cs v := by
  obtain ⟨callee, args, argTypes⟩ := c
  have hargs : ∀ ι (ρ' : Operand → Value), (∀ x ∈ (Call.operands ⟨callee, args, argTypes⟩), VRel ι (ρ x) (ρ' x)) → LRel ι (args.toList.map ρ) (args.map ρ').toList := by
    intro ι ρ' h
    rw [Array.toList_map]
    exact lrel_map fun x hx => h x (by simp only [Call.operands, Array.mem_append]; exact .inr (by simpa using hx))
  unfold callA at h
  simp only at h
  split at h
  case h_1 f =>
    split at h
    case h_2 => cases h
    case h_1 fn first captured hfv =>
      obtain ⟨h1, h2⟩ := fnCall_step hR hC h
      refine ⟨h1, fun ι w ρ' hρ hm hf s fr cs hap hs => ?_⟩
      have hfr := hρ f (by simp [Call.operands])
      rw [hfv] at hfr
      generalize hff : ρ' f = f' at hfr
      cases hfr with
      | func hfn ha hc =>
        rename_i fn' a' c'
        refine h2 ι w fn' (a' ++ args.map ρ') c' hfn (by rw [Array.toList_append]; exact ha.append (hargs ι ρ' hρ)) hc hm hf s fr cs hap ?_
        rw [hs]
        unfold resolve
        simp only [hff, Deferred.ofValue]
        rfl
  case h_2 r name =>
    obtain ⟨h1, h2⟩ := fnCall_step hR hC h
    refine ⟨h1, fun ι w ρ' hρ hm hf s fr cs hap hs => ?_⟩
    have hr := hρ r (by simp [Call.operands])
    refine h2 ι w (.method name) (#[ρ' r] ++ args.map ρ') #[] rfl (by simpa using .cons hr (by simpa using hargs ι ρ' hρ)) .nil hm hf s fr cs hap ?_
    rw [hs]
    rfl
  case h_3 b =>
    have sres : ∀ (ρ' : Operand → Value) (w : World), (resolve ρ' ⟨.builtin b, args, argTypes⟩ ty >>= fun d => invoke d.target d.args).run P w = (builtin b argTypes ty (args.map fun | .const _ => true | _ => false) (args.map ρ')).run P w := fun _ _ => rfl
    -- two arguments
    have two : ∀ {x y : Value}, args.toList.map ρ = [x, y] → ∀ ι (ρ' : Operand → Value), (∀ x ∈ (Call.operands ⟨.builtin b, args, argTypes⟩), VRel ι (ρ x) (ρ' x)) → ∃ x' y', (args.map ρ')[0]? = some x' ∧ (args.map ρ')[1]? = some y' ∧ VRel ι x x' ∧ VRel ι y y' := by
      intro x y hxy ι ρ' hρ
      have hl := hargs ι ρ' hρ
      rw [hxy] at hl
      generalize hll : (args.map ρ').toList = l at hl
      cases hl with
      | cons hx ht => cases ht with
        | cons hy ht => cases ht with
          | nil =>
            refine ⟨_, _, ?_, ?_, hx, hy⟩
            · rw [← Array.getElem?_toList, hll]; rfl
            · rw [← Array.getElem?_toList, hll]; rfl
    have one : ∀ {x : Value}, args.toList.map ρ = [x] → ∀ ι (ρ' : Operand → Value), (∀ x ∈ (Call.operands ⟨.builtin b, args, argTypes⟩), VRel ι (ρ x) (ρ' x)) → ∃ x', (args.map ρ')[0]? = some x' ∧ VRel ι x x' := by
      intro x hxy ι ρ' hρ
      have hl := hargs ι ρ' hρ
      rw [hxy] at hl
      generalize hll : (args.map ρ').toList = l at hl
      cases hl with
      | cons hx ht => cases ht with
        | nil => exact ⟨_, by rw [← Array.getElem?_toList, hll]; rfl, hx⟩
    split at h
    case h_1 lst t s x ht hsx =>
      have happ : ∃ t1, argTypes[1]? = some t1 ∧ ((∃ e, P.underlying t1 = some (.slice e)) ∨ P.underlying t1 = some .string) ∧ appendX P m t s x = some (v, m') := by
        split at h
        case h_1 e h1 => obtain ⟨t1, h2, h3⟩ := Option.bind_eq_some_iff.1 h1; exact ⟨t1, h2, .inl ⟨e, h3⟩, h⟩
        case h_2 h1 => obtain ⟨t1, h2, h3⟩ := Option.bind_eq_some_iff.1 h1; exact ⟨t1, h2, .inr h3, h⟩
        case h_3 => cases h
      obtain ⟨t1, ht1, hnt, happ⟩ := happ
      refine ⟨?_, fun ι w ρ' hρ hm hf sm fr cs hap hs => ?_⟩
      · -- the numbers grow
        exact appendX_next happ
      · obtain ⟨s', x', h0, h1, hs', hx'⟩ := two hsx ι ρ' hρ
        obtain ⟨v', w', ι', hr, hv, hm', he⟩ := appendX_run (P := P) (ty := ty) hm hf hs' hx' ht ht1 hnt h0 h1 happ
        refine ⟨v', w', ι', hap.value (w' := w') ?_, hv, hm', he⟩
        rw [hs, sres]
        show (Builtin.append_ argTypes ty (args.map ρ') >>= fun v => pure (Next.value v)).run P w = _
        rw [run_bind_eq hr]
        rfl
    case h_2 lst t d x ht hdx =>
      refine ⟨?_, fun ι w ρ' hρ hm hf sm fr cs hap hs => ?_⟩
      · unfold copyA at h
        split at h
        case h_2 => cases h
        case h_1 =>
          simp only [Option.bind_eq_bind, Option.bind_eq_some_iff] at h
          obtain ⟨_, _, _, _, k, _, h⟩ := h
          cases hk : Nat.beq (Nat.min k _) 0 with
          | true => rw [hk, cond_true] at h; cases h; exact Nat.le_refl _
          | false =>
            rw [hk, cond_false] at h
            split at h
            case h_1 => cases h
            case h_2 =>
              split at h
              case h_2 => cases h
              case h_1 =>
                obtain ⟨_, _, h⟩ := Option.bind_eq_some_iff.1 h
                obtain ⟨_, h⟩ := cond_some h
                obtain ⟨_, _, h⟩ := Option.bind_eq_some_iff.1 h
                cases h; simp
      · obtain ⟨d', x', h0, h1, hd', hx'⟩ := two hdx ι ρ' hρ
        obtain ⟨w', hr, hv, hm', he⟩ := copyA_run (P := P) (ty := ty) hm hd' hx' ht h0 h1 h
        refine ⟨v, w', ι, hap.value (w' := w') ?_, hv, hm', he⟩
        rw [hs, sres]
        show (Builtin.copy_ argTypes ty (args.map ρ') >>= fun v => pure (Next.value v)).run P w = _
        rw [run_bind_eq hr]
        rfl
    case h_3 lst t x k ht hxk =>
      obtain ⟨m1, hd, h⟩ := Option.map_eq_some_iff.1 h
      cases h
      refine ⟨?_, fun ι w ρ' hρ hm hf sm fr cs hap hs => ?_⟩
      · unfold mapDelA at hd
        split at hd
        case h_1 => obtain ⟨_, _, hd⟩ := Option.map_eq_some_iff.1 hd; cases hd; exact Nat.le_refl _
        case h_2 =>
          split at hd
          case h_2 => cases hd
          case h_1 =>
            simp only [Option.bind_eq_bind, Option.bind_eq_some_iff] at hd
            obtain ⟨_, _, r, _, hd⟩ := hd
            cases r <;> cases hd <;> simp
        case h_3 => cases hd
      · obtain ⟨x', k', h0, h1, hx', hk'⟩ := two hxk ι ρ' hρ
        obtain ⟨w', hr, hm', he⟩ := mapDelA_run (P := P) (ty := ty) hm hx' hk' ht h0 h1 hd
        refine ⟨undef, w', ι, hap.value (w' := w') ?_, vrel_undef _, hm', he⟩
        rw [hs, sres]
        show (Builtin.delete_ argTypes ty (args.map ρ') >>= fun v => pure (Next.value v)).run P w = _
        rw [run_bind_eq hr]
        rfl
    case h_4 lst t x ht hx0 =>
      obtain ⟨m1, hd, h⟩ := Option.map_eq_some_iff.1 h
      cases h
      refine ⟨?_, fun ι w ρ' hρ hm hf sm fr cs hap hs => ?_⟩
      · unfold clearA at hd
        split at hd
        case h_1 => cases hd; exact Nat.le_refl _
        case h_2 =>
          split at hd
          case h_2 => cases hd
          case h_1 => cases hd; simp
        case h_3 => cases hd; exact Nat.le_refl _
        case h_4 => cases hd; exact Nat.le_refl _
        case h_5 =>
          split at hd
          case h_2 => cases hd
          case h_1 =>
            obtain ⟨_, _, hd⟩ := Option.bind_eq_some_iff.1 hd
            obtain ⟨_, hd⟩ := cond_some hd
            obtain ⟨_, _, hd⟩ := Option.bind_eq_some_iff.1 hd
            cases hd; simp
        case h_6 => cases hd
      · obtain ⟨x', h0, hx'⟩ := one hx0 ι ρ' hρ
        obtain ⟨w', hr, hm', he⟩ := clearA_run (P := P) (ty := ty) hm hx' ht h0 hd
        refine ⟨undef, w', ι, hap.value (w' := w') ?_, vrel_undef _, hm', he⟩
        rw [hs, sres]
        show (Builtin.clear_ argTypes ty (args.map ρ') >>= fun v => pure (Next.value v)).run P w = _
        rw [run_bind_eq hr]
        rfl
    case h_5 => cases h
end Go.Ev
