import Derived.Test.YtdgkilbimampkaaGreatEvA
namespace Go.Ev
open Go

/-! ## Tries -/
namespace Tr
variable {α : Type}
theorem get_leaf (n : Nat) : (Tr.leaf : Tr α).get n = none := rfl
theorem get_eta (t : Tr α) (n : Nat) : t.get n = match n with
    | 0 => t.val
    | k + 1 => bif Nat.beq (k % 2) 0 then t.left.get (k / 2) else t.right.get (k / 2) := by
  cases t with
  | leaf => cases n with
    | zero => rfl
    | succ k => simp only [Tr.left, Tr.right, Tr.get]; cases Nat.beq (k % 2) 0 <;> rfl
  | node v l r => cases n <;> rfl
theorem get_setF (f : Nat) : ∀ (t : Tr α) (n : Nat) (x : Option α) (k : Nat), n < f → (setF f t n x).get k = if k = n then x else t.get k := by
  induction f with
  | zero => intro t n x k h; omega
  | succ f ih =>
    intro t n x k h
    cases n with
    | zero =>
      cases k with
      | zero => rfl
      | succ k => rw [if_neg (by omega), get_eta t]; rfl
    | succ n =>
      have hn : n / 2 < f := by omega
      simp only [setF]
      cases hb : Nat.beq (n % 2) 0 with
      | true =>
        simp only [cond_true]
        have hb' : n % 2 = 0 := Nat.eq_of_beq_eq_true hb
        cases k with
        | zero => rw [if_neg (by omega), get_eta t]; rfl
        | succ k =>
          rw [get_eta t (k + 1)]
          simp only [get]
          cases hk : Nat.beq (k % 2) 0 with
          | true =>
            simp only [cond_true]
            have hk' : k % 2 = 0 := Nat.eq_of_beq_eq_true hk
            rw [ih _ _ _ _ hn]
            by_cases e : k = n
            · subst e; simp
            · rw [if_neg (by omega), if_neg (by omega)]
          | false =>
            simp only [cond_false]
            have : k ≠ n := fun e => by subst e; rw [hb] at hk; exact Bool.noConfusion hk
            rw [if_neg (by omega)]
      | false =>
        simp only [cond_false]
        have hb' : n % 2 ≠ 0 := fun e => by rw [e] at hb; exact Bool.noConfusion hb
        cases k with
        | zero => rw [if_neg (by omega), get_eta t]; rfl
        | succ k =>
          rw [get_eta t (k + 1)]
          simp only [get]
          cases hk : Nat.beq (k % 2) 0 with
          | true =>
            simp only [cond_true]
            have : k ≠ n := fun e => by subst e; rw [hb] at hk; exact Bool.noConfusion hk
            rw [if_neg (by omega)]
          | false =>
            simp only [cond_false]
            have hk' : k % 2 ≠ 0 := fun e => by rw [e] at hk; exact Bool.noConfusion hk
            rw [ih _ _ _ _ hn]
            by_cases e : k = n
            · subst e; simp
            · rw [if_neg (by omega), if_neg (by omega)]
theorem get_set (t : Tr α) (n : Nat) (x : Option α) (k : Nat) : (t.set n x).get k = if k = n then x else t.get k :=
  get_setF _ _ _ _ _ (by omega)
end Tr

theorem AMem.get_put (m : AMem) (b : Nat) (o : AObj) (k : Nat) : (m.put b o).get k = if k = b then some o else m.get k := Tr.get_set ..
theorem AMem.get_drop (m : AMem) (b : Nat) (k : Nat) : (m.drop b).get k = if k = b then none else m.get k := Tr.get_set ..
theorem AMem.get_new (m : AMem) (o : AObj) (k : Nat) : (m.new o).get k = if k = m.next then some o else m.get k := Tr.get_set ..
@[simp] theorem AMem.next_put (m : AMem) (b : Nat) (o : AObj) : (m.put b o).next = m.next := rfl
@[simp] theorem AMem.next_drop (m : AMem) (b : Nat) : (m.drop b).next = m.next := rfl
@[simp] theorem AMem.next_new (m : AMem) (o : AObj) : (m.new o).next = m.next + 1 := rfl

/-! ## Lists -/
theorem nth_eq {α : Type} (l : List α) (n : Nat) : nth l n = l[n]? := by
  induction l generalizing n with
  | nil => rfl
  | cons a l ih => cases n with
    | zero => rfl
    | succ n => simp [nth, ih]

theorem sub_some {α : Type} {l r : List α} {o n : Nat} (h : sub l o n = some r) : r = (l.drop o).take n ∧ r.length = n := by
  unfold sub at h
  cases hb : Nat.beq ((l.drop o).take n).length n with
  | true =>
    simp only [hb, cond_true, Option.some.injEq] at h
    subst h
    exact ⟨rfl, Nat.eq_of_beq_eq_true hb⟩
  | false => simp only [hb, cond_false] at h; cases h

/-- what 'over' gives: the same length, the new ones in their place, the others as they were -/
theorem over_zero {α : Type} (l : List α) (vs : List α) : over l 0 vs = match l, vs with
    | l, [] => some l
    | [], _ :: _ => none
    | _ :: l, v :: vs => (over l 0 vs).map (v :: ·) := by
  cases l <;> cases vs <;> simp [over]

theorem over_spec {α : Type} : ∀ (l : List α) (o : Nat) (vs r : List α), over l o vs = some r →
    r.length = l.length ∧ o + vs.length ≤ max l.length o ∧ (vs ≠ [] → o + vs.length ≤ l.length) ∧ ∀ i, r[i]? = if o ≤ i ∧ i < o + vs.length then vs[i - o]? else l[i]? := by
  intro l
  induction l with
  | nil =>
    intro o vs r h
    cases o with
    | zero =>
      cases vs with
      | nil => simp [over] at h; subst h; simp
      | cons v vs => simp [over] at h
    | succ o => simp [over] at h
  | cons a l ih =>
    intro o vs r h
    cases o with
    | zero =>
      cases vs with
      | nil => simp [over] at h; subst h; simp
      | cons v vs =>
        simp only [over, Option.map_eq_some_iff] at h
        obtain ⟨r', hr, rfl⟩ := h
        obtain ⟨h1, h2, h3, h4⟩ := ih 0 vs r' hr
        refine ⟨by simp [h1], ?_, ?_, ?_⟩
        · simp; simp at h2; omega
        · intro _; simp
          cases vs with
          | nil => simp
          | cons x xs => have := h3 (by simp); simp at this ⊢; omega
        · intro i
          cases i with
          | zero => simp
          | succ i =>
            simp only [List.getElem?_cons_succ, h4, List.length_cons]
            by_cases hi : i < vs.length
            · rw [if_pos (by omega), if_pos (by omega)]; simp
            · rw [if_neg (by omega), if_neg (by omega)]
    | succ o =>
      simp only [over, Option.map_eq_some_iff] at h
      obtain ⟨r', hr, rfl⟩ := h
      obtain ⟨h1, h2, h3, h4⟩ := ih o vs r' hr
      refine ⟨by simp [h1], ?_, ?_, ?_⟩
      · simp; omega
      · intro hv; have := h3 hv; simp; omega
      · intro i
        cases i with
        | zero => simp
        | succ i =>
          simp only [List.getElem?_cons_succ, h4]
          by_cases hi : o ≤ i ∧ i < o + vs.length
          · rw [if_pos hi, if_pos (by omega), Nat.add_sub_add_right]
          · rw [if_neg hi, if_neg (by omega)]

/-! ## Where an abstract block lies -/
class Kept where
  v : Option Value
  /-- the cells of an element, where it is a row -/
  row : Option Nat := none
instance : Kept := { v := none }
structure J where
  blk : Nat
  off : Nat
  size : Nat
  [kept : Kept]

abbrev Inj := Nat → Option J

def FnRel (ι : Inj) : Fn → Fn → Prop
  | .yield l, .yield l' => ∃ j, ι l = some j ∧ j.off = 0 ∧ j.blk = l'
  | .yield _, _ => False
  | _, .yield _ => False
  | f, g => f = g

mutual
inductive VRel (ι : Inj) : Value → Value → Prop where
  | bool (b : Bool) : VRel ι (.bool b) (.bool b)
  | int (k : IntKind) (n : Int) : VRel ι (.int k n) (.int k n)
  | float (k : FloatKind) (n : Nat) : VRel ι (.float k n) (.float k n)
  | complex (k : FloatKind) (a b : Nat) : VRel ι (.complex k a b) (.complex k a b)
  | string (s : ByteArray) : VRel ι (.string s) (.string s)
  | pnil : VRel ι (.pointer none) (.pointer none)
  | ptr {b o : Nat} {j : J} (h : ι b = some j) : VRel ι (.pointer (some ⟨b, o, none⟩)) (.pointer (some ⟨j.blk, o + j.off, none⟩))
  | snil (n c : Nat) : VRel ι (.slice none n c) (.slice none n c)
  | slice {b o : Nat} (n c : Nat) {j : J} (h : ι b = some j) : VRel ι (.slice (some ⟨b, o, none⟩) n c) (.slice (some ⟨j.blk, o + j.off, none⟩) n c)
  | loose {b o o' s n c c' : Nat} {j : J} (h : ι b = some j) (ho : o' = o + j.off ∨ (n = 0 ∧ c = 0)) (hc : c ≤ c') (hr : o' + c' * s ≤ j.size) :
      VRel ι (.slice (some ⟨b, o, some s⟩) n c) (.slice (some ⟨j.blk, o', none⟩) n c')
  | hole {b o : Nat} {j : J} {v : Value} (h : ι b = some j) (hv : j.kept.v = some v) (hc : v.cells = #[v]) (h1 : v.oneCell' = true) (hr : ∀ s, o = s + 1 → j.kept.row = some s) : VRel ι (.pointer (some ⟨b, o, some 0⟩)) v
  | mnil : VRel ι (.map none) (.map none)
  | map {b : Nat} {j : J} (h : ι b = some j) (ho : j.off = 0) : VRel ι (.map (some b)) (.map (some j.blk))
  | cnil : VRel ι (.chan none) (.chan none)
  | chan {b : Nat} {j : J} (h : ι b = some j) (ho : j.off = 0) : VRel ι (.chan (some b)) (.chan (some j.blk))
  | func {f f' : Fn} {a a' c c' : Array Value} (hf : FnRel ι f f') (ha : LRel ι a.toList a'.toList) (hc : LRel ι c.toList c'.toList) : VRel ι (.func f a c) (.func f' a' c')
  | nilFunc : VRel ι .nilFunc .nilFunc
  | iface (t : TypeId) {v v' : Value} (h : VRel ι v v') : VRel ι (.iface t v) (.iface t v')
  | nilIface : VRel ι .nilIface .nilIface
  | agg {a a' : Array Value} (h : LRel ι a.toList a'.toList) : VRel ι (.agg a) (.agg a')
  | tuple {a a' : Array Value} (h : LRel ι a.toList a'.toList) : VRel ι (.tuple a) (.tuple a')
inductive LRel (ι : Inj) : List Value → List Value → Prop where
  | nil : LRel ι [] []
  | cons {v v' : Value} {l l' : List Value} (h : VRel ι v v') (t : LRel ι l l') : LRel ι (v :: l) (v' :: l')
end

theorem FnRel.mono {ι ι' : Inj} (hi : ∀ b j, ι b = some j → ι' b = some j) {f f' : Fn} (h : FnRel ι f f') : FnRel ι' f f' := by
  cases f <;> cases f' <;> simp only [FnRel] at h ⊢ <;> first | exact h | (obtain ⟨j, h1, h2, h3⟩ := h; exact ⟨j, hi _ _ h1, h2, h3⟩) | exact h.elim

mutual
theorem VRel.mono {ι ι' : Inj} (hi : ∀ b j, ι b = some j → ι' b = some j) {v v' : Value} (h : VRel ι v v') : VRel ι' v v' := by
  cases h with
  | bool b => exact .bool b
  | int k n => exact .int k n
  | float k n => exact .float k n
  | complex k a b => exact .complex k a b
  | string s => exact .string s
  | pnil => exact .pnil
  | ptr h => exact .ptr (hi _ _ h)
  | snil n c => exact .snil n c
  | slice n c h => exact .slice n c (hi _ _ h)
  | loose h ho hc hr => exact .loose (hi _ _ h) ho hc hr
  | hole h hv hc h1 hr => exact .hole (hi _ _ h) hv hc h1 hr
  | mnil => exact .mnil
  | map h ho => exact .map (hi _ _ h) ho
  | cnil => exact .cnil
  | chan h ho => exact .chan (hi _ _ h) ho
  | func hf ha hc => exact .func (hf.mono hi) (LRel.mono hi ha) (LRel.mono hi hc)
  | nilFunc => exact .nilFunc
  | iface t h => exact .iface t (VRel.mono hi h)
  | nilIface => exact .nilIface
  | agg h => exact .agg (LRel.mono hi h)
  | tuple h => exact .tuple (LRel.mono hi h)
theorem LRel.mono {ι ι' : Inj} (hi : ∀ b j, ι b = some j → ι' b = some j) {l l' : List Value} (h : LRel ι l l') : LRel ι' l l' := by
  cases h with
  | nil => exact .nil
  | cons h t => exact .cons (VRel.mono hi h) (LRel.mono hi t)
end

namespace LRel
variable {ι : Inj}
theorem length {l l' : List Value} (h : LRel ι l l') : l'.length = l.length := by
  induction l generalizing l' with
  | nil => cases h; rfl
  | cons a l ih => cases h with | cons _ t => simp [ih t]
theorem get {l l' : List Value} (h : LRel ι l l') {i : Nat} {v : Value} (hv : l[i]? = some v) : ∃ v', l'[i]? = some v' ∧ VRel ι v v' := by
  induction l generalizing l' i with
  | nil => simp at hv
  | cons a l ih => cases h with
    | cons h t => cases i with
      | zero => simp at hv; subst hv; exact ⟨_, rfl, h⟩
      | succ i => simp at hv; simpa using ih t hv
theorem of_get : ∀ {l l' : List Value}, l'.length = l.length → (∀ (i : Nat) (v : Value), l[i]? = some v → ∃ v', l'[i]? = some v' ∧ VRel ι v v') → LRel ι l l'
  | [], l', hl, _ => by cases l' with | nil => exact .nil | cons _ _ => simp at hl
  | a :: l, l', hl, h => by
    cases l' with
    | nil => simp at hl
    | cons b l' =>
      obtain ⟨v', h1, h2⟩ := h 0 a rfl
      simp at h1; subst h1
      exact .cons h2 (of_get (by simpa using hl) fun i v hv => by simpa using h (i + 1) v (by simpa using hv))
theorem append {a a' b b' : List Value} (h : LRel ι a a') (k : LRel ι b b') : LRel ι (a ++ b) (a' ++ b') := by
  induction a generalizing a' with
  | nil => cases h; exact k
  | cons x a ih => cases h with | cons h t => exact .cons h (ih t)
theorem drop {l l' : List Value} (h : LRel ι l l') (n : Nat) : LRel ι (l.drop n) (l'.drop n) := by
  induction l generalizing l' n with
  | nil => cases h; simp; exact .nil
  | cons a l ih => cases h with
    | cons h t => cases n with
      | zero => exact .cons h t
      | succ n => exact ih t n
theorem take {l l' : List Value} (h : LRel ι l l') (n : Nat) : LRel ι (l.take n) (l'.take n) := by
  induction l generalizing l' n with
  | nil => cases h; simp; exact .nil
  | cons a l ih => cases h with
    | cons h t => cases n with
      | zero => exact .nil
      | succ n => exact .cons h (ih t n)
theorem snoc {l l' : List Value} {v v' : Value} (h : LRel ι l l') (k : VRel ι v v') : LRel ι (l ++ [v]) (l' ++ [v']) := h.append (.cons k .nil)
theorem replicate {v v' : Value} (h : VRel ι v v') (n : Nat) : LRel ι (List.replicate n v) (List.replicate n v') := by
  induction n with
  | zero => exact .nil
  | succ n ih => exact .cons h ih
end LRel

theorem vrel_undef (ι : Inj) : VRel ι undef undef := .tuple .nil

/-! ## What has no address in it -/
theorem grd_eq (ι : Inj) (n : Nat) : ∀ {v v' : Value}, grd n v = true → VRel ι v v' → v' = v := by
  induction n with
  | zero => intro v v' h; simp [grd] at h
  | succ n ih =>
    have ihl : ∀ {l l' : List Value}, l.all (grd n) = true → LRel ι l l' → l' = l := by
      intro l
      induction l with
      | nil => intro l' _ h; cases h; rfl
      | cons a l ihl =>
        intro l' h k
        cases k with
        | cons k t =>
          simp only [List.all_cons, Bool.and_eq_true] at h
          rw [ih h.1 k, ihl h.2 t]
    intro v v' h k
    cases k <;> simp only [grd] at h <;> try rfl
    case ptr => exact Bool.noConfusion h
    case hole => exact Bool.noConfusion h
    case slice => exact Bool.noConfusion h
    case loose => exact Bool.noConfusion h
    case map => exact Bool.noConfusion h
    case chan => exact Bool.noConfusion h
    case func hf ha hc =>
      rename_i f f' _ _ _ _
      simp only [Bool.and_eq_true] at h
      have hfe : f' = f := by
        cases f <;> cases f' <;> simp only [FnRel] at hf <;> first | exact hf.symm | exact hf.elim | (simp at h)
      rw [hfe, Array.toList_inj.1 (ihl h.1.2 ha), Array.toList_inj.1 (ihl h.2 hc)]
    case iface k => rw [ih h k]
    case agg k => rw [Array.toList_inj.1 (ihl h k)]
    case tuple k => rw [Array.toList_inj.1 (ihl h k)]

theorem grd_rel (ι : Inj) (n : Nat) : ∀ {v : Value}, grd n v = true → VRel ι v v := by
  induction n with
  | zero => intro v h; simp [grd] at h
  | succ n ih =>
    have ihl : ∀ {l : List Value}, l.all (grd n) = true → LRel ι l l := by
      intro l
      induction l with
      | nil => intro _; exact .nil
      | cons a l ihl =>
        intro h
        simp only [List.all_cons, Bool.and_eq_true] at h
        exact .cons (ih h.1) (ihl h.2)
    intro v h
    cases v with
    | bool b => exact .bool b
    | int k n => exact .int k n
    | float k n => exact .float k n
    | complex k a b => exact .complex k a b
    | string s => exact .string s
    | pointer a => cases a with
      | none => exact .pnil
      | some a => simp [grd] at h
    | slice a n c => cases a with
      | none => exact .snil n c
      | some a => simp [grd] at h
    | map a => cases a with
      | none => exact .mnil
      | some a => simp [grd] at h
    | chan a => cases a with
      | none => exact .cnil
      | some a => simp [grd] at h
    | func f a c =>
      simp only [grd, Bool.and_eq_true] at h
      refine .func ?_ (ihl h.1.2) (ihl h.2)
      cases f <;> simp [FnRel] at h ⊢
    | nilFunc => exact .nilFunc
    | iface t v => simp only [grd] at h; exact .iface t (ih h)
    | nilIface => exact .nilIface
    | agg a => simp only [grd] at h; exact .agg (ihl h)
    | tuple a => simp only [grd] at h; exact .tuple (ihl h)

theorem ground_eq {ι : Inj} {v v' : Value} (h : ground v = true) (k : VRel ι v v') : v' = v := grd_eq ι 12 h k
theorem ground_rel (ι : Inj) {v : Value} (h : ground v = true) : VRel ι v v := grd_rel ι 12 h
theorem ground_all {ι : Inj} {l l' : List Value} (h : l.all ground = true) (k : LRel ι l l') : l' = l := by
  induction l generalizing l' with
  | nil => cases k; rfl
  | cons a l ih => cases k with
    | cons k t =>
      simp only [List.all_cons, Bool.and_eq_true] at h
      rw [ground_eq h.1 k, ih h.2 t]

theorem veq_eq (n : Nat) : ∀ {a b : Value}, veq n a b = true → a = b := by
  induction n with
  | zero => intro a b h; simp [veq] at h
  | succ n ih =>
    have ihl : ∀ {l l' : List Value}, l.length = l'.length → ((l.zip l').all fun x => veq n x.1 x.2) = true → l = l' := by
      intro l
      induction l with
      | nil => intro l' hl _; cases l' with | nil => rfl | cons _ _ => simp at hl
      | cons a l ihl =>
        intro l' hl h
        cases l' with
        | nil => simp at hl
        | cons b l' =>
          simp only [List.zip_cons_cons, List.all_cons, Bool.and_eq_true] at h
          rw [ih h.1, ihl (by simpa using hl) h.2]
    intro a b h
    cases a <;> cases b <;> simp only [veq] at h <;> try (exact Bool.noConfusion h)
    all_goals try simp only [Bool.and_eq_true, beq_iff_eq, decide_eq_true_eq] at h
    case bool.bool => rw [h]
    case int.int => rw [h.1, h.2]
    case string.string => rw [h]
    case pointer.pointer => rw [h]
    case slice.slice => rw [h.1.1, h.1.2, h.2]
    case map.map => rw [h]
    case chan.chan => rw [h]
    case func.func =>
      rename_i f a c f' a' c'
      rw [h.1.1.1.1, Array.toList_inj.1 (ihl (by simpa using h.1.1.1.2) h.1.1.2), Array.toList_inj.1 (ihl (by simpa using h.1.2) h.2)]
    case nilFunc.nilFunc => rfl
    case iface.iface => rw [h.1, ih h.2]
    case nilIface.nilIface => rfl
    case agg.agg => rw [Array.toList_inj.1 (ihl (by simpa using h.1) h.2)]
    case tuple.tuple => rw [Array.toList_inj.1 (ihl (by simpa using h.1) h.2)]

theorem runP_run {α : Type} (P : Program) {s : Sem α} {a : α} (h : runP P s = some a) (w : World) : s.run P w = .ok a w := by
  induction s with
  | pure x => simp only [runP, Option.some.injEq] at h; subst h; rfl
  | program k ih => simp only [runP] at h; simp only [Sem.run]; exact ih _ h
  | choose q k ih =>
    simp only [runP] at h
    cases hq : q.forced with
    | true => simp only [hq, cond_true] at h; simp only [Sem.run, hq, if_true]; exact ih _ h
    | false => simp [hq] at h
  | mark m k ih => simp only [runP] at h; simp only [Sem.run]; exact ih h
  | _ => simp [runP] at h

/-! ## Slots -/
structure TRel (ι : Inj) (nt : Nat) (T : Tr Value) (tmps : Array Value) : Prop where
  size : tmps.size = nt
  rel : ∀ t, VRel ι ((T.get t).getD undef) (tmps.getD t undef)

theorem TRel.mono {ι ι' : Inj} (hi : ∀ b j, ι b = some j → ι' b = some j) {nt : Nat} {T : Tr Value} {tmps : Array Value} (h : TRel ι nt T tmps) : TRel ι' nt T tmps :=
  ⟨h.size, fun t => (h.rel t).mono hi⟩

theorem TRel.set {ι : Inj} {nt : Nat} {T : Tr Value} {tmps : Array Value} (h : TRel ι nt T tmps) {d : Tmp} (hd : d < nt) {v v' : Value} (k : VRel ι v v') :
    TRel ι nt (T.set d (some v)) (tmps.setIfInBounds d v') := by
  refine ⟨by simp [h.size], fun t => ?_⟩
  rw [Tr.get_set]
  by_cases e : t = d
  · subst e
    rw [if_pos rfl]
    simp only [Option.getD_some, Array.getD_eq_getD_getElem?, Array.getElem?_setIfInBounds_self_of_lt (by rw [h.size]; exact hd)]
    exact k
  · rw [if_neg e]
    have := h.rel t
    simp only [Array.getD_eq_getD_getElem?] at this ⊢
    rw [Array.getElem?_setIfInBounds_ne (fun e' => e e'.symm)]
    exact this

theorem opnd_rel {ι : Inj} {nt : Nat} {T : Tr Value} {fr : Frame} (h : TRel ι nt T fr.tmps) {x : Operand} (hx : okOpnd x = true) : VRel ι (opnd T x) (fr.eval x) := by
  cases x with
  | tmp t => exact h.rel t
  | const v => exact ground_rel ι hx
  | global g => simp [okOpnd] at hx
  | func f => exact .func rfl .nil .nil
end Go.Ev
