import Derived.Test.YtdgkilbimampkaaGreatEvH
namespace Go.Ev
open Go
variable {P : Program}

namespace EsRel
variable {ι : Inj}
theorem length : ∀ {l l' : List MapEntry}, EsRel ι l l' → l'.length = l.length
  | [], [], _ => rfl
  | _ :: l, _ :: l', ⟨_, _, _, _, h⟩ => by simp [length h]
  | [], _ :: _, h => h.elim
  | _ :: _, [], h => h.elim
theorem get : ∀ {l l' : List MapEntry}, EsRel ι l l' → ∀ {i : Nat} {e : MapEntry}, l[i]? = some e → ∃ e', l'[i]? = some e' ∧ ground e.key = true ∧ e'.key = e.key ∧ e'.born = e.born ∧ VRel ι e.val e'.val
  | [], [], _, i, e, h => by simp at h
  | a :: l, a' :: l', ⟨h1, h2, h3, h4, h5⟩, i, e, h => by
    cases i with
    | zero => simp at h; subst h; exact ⟨a', rfl, h1, h2, h3, h4⟩
    | succ i => simp at h; simpa using get h5 h
  | [], _ :: _, h, _, _, _ => h.elim
  | _ :: _, [], h, _, _, _ => h.elim
theorem snoc : ∀ {l l' : List MapEntry}, EsRel ι l l' → ∀ {e e' : MapEntry}, ground e.key = true → e'.key = e.key → e'.born = e.born → VRel ι e.val e'.val → EsRel ι (l ++ [e]) (l' ++ [e'])
  | [], [], _, _, _, a, b, c, d => ⟨a, b, c, d, trivial⟩
  | _ :: _, _ :: _, ⟨h1, h2, h3, h4, h5⟩, _, _, a, b, c, d => ⟨h1, h2, h3, h4, snoc h5 a b c d⟩
  | [], _ :: _, h, _, _, _, _, _, _ => h.elim
  | _ :: _, [], h, _, _, _, _, _, _ => h.elim
theorem erase : ∀ {l l' : List MapEntry}, EsRel ι l l' → ∀ (i : Nat), EsRel ι (l.eraseIdx i) (l'.eraseIdx i)
  | [], [], _, _ => trivial
  | _ :: _, _ :: _, ⟨h1, h2, h3, h4, h5⟩, i => by
    cases i with
    | zero => exact h5
    | succ i => exact ⟨h1, h2, h3, h4, erase h5 i⟩
  | [], _ :: _, h, _ => h.elim
  | _ :: _, [], h, _ => h.elim
theorem set : ∀ {l l' : List MapEntry}, EsRel ι l l' → ∀ (i : Nat) {e e' : MapEntry}, ground e.key = true → e'.key = e.key → e'.born = e.born → VRel ι e.val e'.val → EsRel ι (l.set i e) (l'.set i e')
  | [], [], _, _, _, _, _, _, _, _ => trivial
  | _ :: _, _ :: _, ⟨h1, h2, h3, h4, h5⟩, i, _, _, a, b, c, d => by
    cases i with
    | zero => exact ⟨a, b, c, d, h5⟩
    | succ i => exact ⟨h1, h2, h3, h4, set h5 i a b c d⟩
  | [], _ :: _, h, _, _, _, _, _, _, _ => h.elim
  | _ :: _, [], h, _, _, _, _, _, _, _ => h.elim
theorem filter {p : MapEntry → Bool} (hp : ∀ e e' : MapEntry, e'.born = e.born → p e' = p e) : ∀ {l l' : List MapEntry}, EsRel ι l l' → EsRel ι (l.filter p) (l'.filter p)
  | [], [], _ => trivial
  | e :: l, e' :: l', ⟨h1, h2, h3, h4, h5⟩ => by
    rw [List.filter_cons, List.filter_cons, hp e e' h3]
    split
    · exact ⟨h1, h2, h3, h4, filter hp h5⟩
    · exact filter hp h5
  | [], _ :: _, h => h.elim
  | _ :: _, [], h => h.elim
end EsRel

/-! ## a key's place -/
def FRel (ι : Inj) : Option (Nat × Value) → Option (Nat × Value) → Prop
  | none, none => True
  | some (i, v), some (j, v') => j = i ∧ VRel ι v v'
  | _, _ => False

theorem findAsking_run {ι : Inj} {kt : TypeId} {k : Value} (w : World) : ∀ {es esC : List MapEntry} {i : Nat} {r : Option (Nat × Value)}, EsRel ι es esC → findA P kt k es i = some r →
    ∃ r', (Instr.findAsking kt k esC i).run P w = .ok r' w ∧ FRel ι r r'
  | [], [], i, r, _, h => by simp only [findA, Option.some.injEq] at h; subst h; exact ⟨none, rfl, trivial⟩
  | e :: es, e' :: es', i, r, ⟨h1, h2, h3, h4, h5⟩, h => by
    simp only [findA] at h
    simp only [Instr.findAsking]
    split at h
    case h_1 hr =>
      cases h
      refine ⟨some (i, e'.val), ?_, rfl, h4⟩
      rw [Sem.run_bind, h2, runP_run P hr, Result.andThen_ok]; rfl
    case h_2 hr =>
      obtain ⟨r', h6, h7⟩ := findAsking_run w h5 h
      refine ⟨r', ?_, h7⟩
      rw [Sem.run_bind, h2, runP_run P hr, Result.andThen_ok]
      exact h6
    case h_3 => cases h
  | [], _ :: _, _, _, h, _ => h.elim
  | _ :: _, [], _, _, h, _ => h.elim

theorem sameNow_run {kt : TypeId} {d : TypeDesc} (hu : P.underlying kt = some d) {a b : Value} {r : Bool} (h : Instr.sameNow d a b = some r) (w : World) : (Op.equal kt a b).run P w = .ok r w := by
  refine run_equal_of fun n => ?_
  unfold Instr.sameNow at h
  split at h
  · rename_i k a k' b
    split at h
    · cases h; subst_vars; simp only [Op.equalIn, Sem.run_bind, run_underlying hu, Result.andThen_ok, if_true]; rfl
    · cases h
  · cases h; simp only [Op.equalIn, Sem.run_bind, run_underlying hu, Result.andThen_ok]; rfl
  · cases h; simp only [Op.equalIn, Sem.run_bind, run_underlying hu, Result.andThen_ok]; rfl
  · cases h

theorem findNow_run {kt : TypeId} {d : TypeDesc} (hu : P.underlying kt = some d) {k : Value} (w : World) : ∀ {es : List MapEntry} {i : Nat} {r : Option (Nat × Value)}, Instr.findNow d k es i = some r →
    (Instr.findAsking kt k es i).run P w = .ok r w
  | [], i, r, h => by simp only [Instr.findNow, Option.some.injEq] at h; subst h; rfl
  | e :: es, i, r, h => by
    simp only [Instr.findNow] at h
    simp only [Instr.findAsking]
    split at h
    case h_1 hr => cases h; rw [Sem.run_bind, sameNow_run hu hr, Result.andThen_ok]; rfl
    case h_2 hr => rw [Sem.run_bind, sameNow_run hu hr, Result.andThen_ok]; exact findNow_run hu w h
    case h_3 => cases h

theorem findKey_run {ι : Inj} {kt : TypeId} {d : TypeDesc} (hu : P.underlying kt = some d) {k : Value} {es esC : List MapEntry} {r : Option (Nat × Value)} (w : World) (he : EsRel ι es esC) (h : findA P kt k es 0 = some r) :
    ∃ r', (Instr.findKey kt k esC).run P w = .ok r' w ∧ FRel ι r r' := by
  obtain ⟨r', h1, h2⟩ := findAsking_run w he h
  refine ⟨r', ?_, h2⟩
  unfold Instr.findKey
  rw [Sem.run_bind, run_underlying hu, Result.andThen_ok]
  cases hn : Instr.findNow d k esC 0 with
  | none => exact h1
  | some r2 =>
    have := findNow_run hu w hn
    rw [h1] at this
    cases this
    rfl

theorem keyA_some {kt : TypeId} {k : Value} {e : Bool} (h : keyA P kt k e = some ()) : ground k = true ∧ ∀ w, (Instr.checkKey e 10000 kt k).run P w = .ok () w := by
  obtain ⟨h1, h2⟩ := cond_some h
  exact ⟨h1, fun w => runP_run P h2 w⟩

theorem keyT_underlying {kt : TypeId} {k : Value} {e : Bool} (h : keyA P kt k e = some ()) : ∃ d, P.underlying kt = some d := by
  obtain ⟨_, h2⟩ := cond_some h
  cases hu : P.underlying kt with
  | some d => exact ⟨d, rfl⟩
  | none =>
    exfalso
    have : (Instr.checkKey e (9999 + 1) kt k) = (underlying kt >>= fun d => match d, k with
      | .interface _, .iface d x => do
        let info ← typeInfo d
        if !info.comparable then
          if e then runtimePanic (.unhashable d)
          runtimePanic (.error ("hash of unhashable type " ++ (← typeStr d)))
        Instr.checkKey e 9999 d x
      | .array len elem, .agg cs =>
        for i in [0:len] do Instr.checkKey e 9999 elem (← part elem cs (i * (← sizeOf elem)))
      | .struct fields, .agg cs =>
        for f in fields do
          if f.name ≠ "_" then Instr.checkKey e 9999 f.type (← part f.type cs f.offset)
      | .interface _, .nilIface => pure ()
      | .interface _, _ | .array _ _, _ | .struct _, _ => stuck "map key: not a value of its type"
      | _, _ => pure ()) := rfl
    have h3 := runP_run P h2 default
    rw [show (10000 : Nat) = 9999 + 1 from rfl, this, Sem.run_bind] at h3
    simp [underlying, hu] at h3

def lookTail (kt et : TypeId) (k : Value) (ok : Bool) (es : Array MapEntry) : Sem Value := do
  Instr.checkKey es.isEmpty 10000 kt k
  let (v, ok') ← match ← Instr.findKey kt k es.toList with
    | some (_, v) => pure (v, true)
    | none => pure (← zeroValue et, false)
  pure (if ok then .tuple #[v, .bool ok'] else v)

theorem lookTail_run {ι : Inj} {kt et : TypeId} {k v : Value} {ok : Bool} {es : List MapEntry} {esC : Array MapEntry} {u : Unit} {r : Option (Nat × Value)}
    (h : (match r with
      | some (_, v) => some (bif ok then .tuple #[v, .bool true] else v)
      | none => (zeroT P et).bind fun z => some (bif ok then .tuple #[z, .bool false] else z)) = some v) (hkey : keyA P kt k es.isEmpty = some u) (hr : findA P kt k es 0 = some r) (he : EsRel ι es esC.toList) (w : World) :
    ∃ v', (lookTail kt et k ok esC).run P w = .ok v' w ∧ VRel ι v v' := by
  obtain ⟨hg, hck⟩ := keyA_some hkey
  obtain ⟨d, hd⟩ := keyT_underlying hkey
  obtain ⟨r', h1, h2⟩ := findKey_run hd w he hr
  have hemp : esC.isEmpty = es.isEmpty := by
    have := he.length
    cases es with
    | nil => simp at this; simp [this]
    | cons a l => simp at this; simp; intro e; rw [e] at this; simp at this
  unfold lookTail
  rw [Sem.run_bind, hemp, hck, Result.andThen_ok, Sem.run_bind, h1, Result.andThen_ok]
  cases r with
  | none =>
    cases r' with
    | some _ => exact h2.elim
    | none =>
      simp only [Option.bind_eq_some_iff] at h
      obtain ⟨z, hz, h⟩ := h
      cases h
      obtain ⟨hgz, hzr⟩ := zeroT_some hz
      simp only []
      rw [Sem.run_bind, hzr, Result.andThen_ok]
      cases ok
      · exact ⟨z, rfl, ground_rel ι hgz⟩
      · exact ⟨_, rfl, .tuple (.cons (ground_rel ι hgz) (.cons (.bool _) .nil))⟩
  | some iv =>
    obtain ⟨i, y⟩ := iv
    cases r' with
    | none => exact h2.elim
    | some jv =>
      obtain ⟨j, y'⟩ := jv
      obtain ⟨_, h2⟩ := h2
      simp only [Option.some.injEq] at h
      subst h
      cases ok
      · exact ⟨y', rfl, h2⟩
      · exact ⟨_, rfl, .tuple (.cons h2 (.cons (.bool _) .nil))⟩

theorem run_getObj {w : World} {r : Nat} {o : Obj} (h : w.heap[r]? = some o) (hc : ∀ a b c, o ≠ .cells a b c) : (getObj r).run P w = .ok o w := by
  cases o <;> first | exact absurd rfl (hc _ _ _) | simp [getObj, Sem.run, h]

theorem lookupA_run {ι : Inj} {m : AMem} {w : World} (hm : MObj ι m w) {t : TypeId} {x x' k k' v : Value} {ok : Bool} (hx : VRel ι x x') (hk : VRel ι k k') (h : lookupA P m t x k ok = some v) :
    ∃ v', (Instr.lookup t x' k' ok).run P w = .ok v' w ∧ VRel ι v v' := by
  unfold lookupA at h
  split at h
  case h_2 => cases h
  case h_1 kt et hu =>
    simp only [Option.bind_eq_bind, Option.bind_eq_some_iff] at h
    obtain ⟨es, hes, _, hkey, r, hr, h⟩ := h
    have hkk := ground_eq (keyA_some hkey).1 hk
    subst hkk
    cases hx <;> simp only [reduceCtorEq] at hes
    case mnil =>
      cases hes
      obtain ⟨v', h1, h2⟩ := lookTail_run (esC := #[]) h hkey hr trivial w
      refine ⟨v', ?_, h2⟩
      unfold Instr.lookup
      rw [Sem.run_bind, run_underlying hu, Result.andThen_ok]
      exact h1
    case map hj ho =>
      rename_i b j
      split at hes
      case h_2 => cases hes
      case h_1 clk hb =>
        cases hes
        obtain ⟨c, hc, hor⟩ := hm _ _ _ hb hj
        cases c with
        | map esC clkC =>
          obtain ⟨v', h1, h2⟩ := lookTail_run h hkey hr hor.2.2 w
          refine ⟨v', ?_, h2⟩
          unfold Instr.lookup
          rw [Sem.run_bind, run_underlying hu, Result.andThen_ok]
          simp only []
          rw [Sem.run_bind, run_getObj hc (by simp), Result.andThen_ok]
          exact h1
        | _ => simp [ORel] at hor

theorem bytesOf_spec : ∀ {l : List Value} {bs : List UInt8}, bytesOf l = some bs → ∃ ns : List Int, l = ns.map (fun n => Value.int .u8 n) ∧ bs = ns.map fun n => UInt8.ofNat n.toNat
  | [], bs, h => by simp only [bytesOf, Option.some.injEq] at h; subst h; exact ⟨[], rfl, rfl⟩
  | v :: l, bs, h => by
    unfold bytesOf at h
    split at h
    · cases ‹_ :: _ = []›
    · rename_i n l2 e
      cases e
      simp only [Option.map_eq_some_iff] at h
      obtain ⟨r, hr, rfl⟩ := h
      obtain ⟨ns, h1, h2⟩ := bytesOf_spec hr
      exact ⟨n :: ns, by simp [h1], by simp [h2]⟩
    · cases h

theorem lrel_bytes {ι : Inj} {ns : List Int} {l : List Value} (h : LRel ι (ns.map fun n => Value.int .u8 n) l) : l = ns.map fun n => Value.int .u8 n := by
  induction ns generalizing l with
  | nil => cases h; rfl
  | cons n ns ih => cases h with | cons h t => cases h; rw [ih t]; rfl

theorem run_byteLoop (w : World) (f : Value → ByteArray → Sem (ForInStep ByteArray)) (hf : ∀ n s, f (.int .u8 n) s = pure (.yield (s.push (UInt8.ofNat n.toNat)))) : ∀ (ns : List Int) (s : ByteArray), (forIn (ns.map fun n => Value.int .u8 n).toArray s f : Sem ByteArray).run P w = .ok ⟨s.data ++ (ns.map fun n => UInt8.ofNat n.toNat).toArray⟩ w := by
  intro ns
  induction ns with
  | nil => intro s; simp
  | cons n ns ih =>
    intro s
    have := ih (s.push (UInt8.ofNat n.toNat))
    simp only [List.forIn_toArray, List.map_cons, List.forIn_cons, hf] at this ⊢
    simp only [pure_bind]
    rw [this]
    congr 1
    apply ByteArray.ext
    simp [ByteArray.push]
end Go.Ev
