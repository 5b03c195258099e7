import Derived.Test.YtdgkilbimampkaaGreatEvB
import Derived.Laws.Entries
import Derived.Laws.Cells
import Derived.Laws.IdiomCopy
import Derived.Laws.World
namespace Go.Ev
open Go
variable {P : Program}

/-! ## Objects, memory -/
def EsRel (ι : Inj) : List MapEntry → List MapEntry → Prop
  | [], [] => True
  | e :: l, e' :: l' => ground e.key = true ∧ e'.key = e.key ∧ e'.born = e.born ∧ VRel ι e.val e'.val ∧ EsRel ι l l'
  | _, _ => False

def MoRel (ι : Inj) : Option Nat → Option Nat → Prop
  | none, none => True
  | some b, some b' => ∃ j, ι b = some j ∧ j.off = 0 ∧ j.blk = b'
  | _, _ => False

structure LoopRel (ι : Inj) (r : ALoop) (c : Loop) : Prop where
  state : c.state = r.state
  pending : c.pending = r.pending
  fn : c.fn = r.fn
  tmps : TRel ι r.nt r.T c.tmps
  params : c.params.toList = r.params
  assign : c.assign = r.assign
  body : c.body = r.body
  defers : ∃ j, ι r.defers = some j ∧ j.off = 0 ∧ j.blk = c.defers

def ORel (ι : Inj) : AObj → J → Obj → Prop
  | .cells c _, j, .cells cC _ fz => cC.size = j.size ∧ (∀ (i : Nat) (v : Value), c[i]? = some v → ∃ v', cC[i + j.off]? = some v' ∧ VRel ι v v') ∧
      (fz.2 ≤ fz.1 ∨ j.size ≤ fz.1)
  | .map es k, j, .map esC kC => j.off = 0 ∧ kC = k ∧ EsRel ι es esC.toList
  | .chan cap buf s r, j, .chan cap' buf' cl s' r' tm => j.off = 0 ∧ cap' = cap ∧ s' = s ∧ r' = r ∧ cl = false ∧ tm = false ∧ LRel ι buf buf'.toList
  | .mapIter mo since seen last, j, .mapIter mo' since' seen' last' => j.off = 0 ∧ since' = since ∧ seen'.toList = seen ∧ last' = last ∧ MoRel ι mo mo'
  | .strIter s p, j, .stringIter s' p' => j.off = 0 ∧ s' = s ∧ p' = p
  | .loop r, j, .loop c => j.off = 0 ∧ LoopRel ι r c
  | .deferred, j, .deferred (some []) => j.off = 0
  | _, _, _ => False

theorem EsRel.mono {ι ι' : Inj} (hi : ∀ b j, ι b = some j → ι' b = some j) : ∀ {l l' : List MapEntry}, EsRel ι l l' → EsRel ι' l l'
  | [], [], _ => trivial
  | _ :: _, _ :: _, ⟨h1, h2, h3, h4, h5⟩ => ⟨h1, h2, h3, h4.mono hi, EsRel.mono hi h5⟩
  | [], _ :: _, h => h.elim
  | _ :: _, [], h => h.elim

theorem MoRel.mono {ι ι' : Inj} (hi : ∀ b j, ι b = some j → ι' b = some j) : ∀ {a b : Option Nat}, MoRel ι a b → MoRel ι' a b
  | none, none, _ => trivial
  | some _, some _, ⟨j, h1, h2⟩ => ⟨j, hi _ _ h1, h2⟩
  | none, some _, h => h.elim
  | some _, none, h => h.elim

theorem ORel.mono {ι ι' : Inj} (hi : ∀ b j, ι b = some j → ι' b = some j) {o : AObj} {j : J} {c : Obj} (h : ORel ι o j c) : ORel ι' o j c := by
  cases o <;> cases c <;> simp only [ORel] at h ⊢ <;> try (exact h.elim)
  case cells.cells => exact ⟨h.1, fun i v hv => (h.2.1 i v hv).imp fun v' ⟨h1, h2⟩ => ⟨h1, h2.mono hi⟩, h.2.2⟩
  case map.map => exact ⟨h.1, h.2.1, h.2.2.mono hi⟩
  case chan.chan => exact ⟨h.1, h.2.1, h.2.2.1, h.2.2.2.1, h.2.2.2.2.1, h.2.2.2.2.2.1, h.2.2.2.2.2.2.mono hi⟩
  case mapIter.mapIter => exact ⟨h.1, h.2.1, h.2.2.1, h.2.2.2.1, h.2.2.2.2.mono hi⟩
  case strIter.stringIter => exact h
  case loop.loop =>
    obtain ⟨h0, h⟩ := h
    exact ⟨h0, ⟨h.state, h.pending, h.fn, h.tmps.mono hi, h.params, h.assign, h.body, h.defers.imp fun j ⟨h1, h2⟩ => ⟨hi _ _ h1, h2⟩⟩⟩
  case deferred.deferred calls =>
    cases calls with
    | none => exact h
    | some l => cases l <;> exact h

structure MRel (ι : Inj) (m : AMem) (w : World) : Prop where
  obj : ∀ b o j, m.get b = some o → ι b = some j → ∃ c, w.heap[j.blk]? = some c ∧ ORel ι o j c
  inj : ∀ b b' o o' j j', m.get b = some o → m.get b' = some o' → ι b = some j → ι b' = some j' → j.blk = j'.blk → b = b'
  bound : ∀ b j, ι b = some j → j.blk < w.heap.size
  fresh : ∀ b, m.next ≤ b → m.get b = none

structure Ext (ι : Inj) (m m' : AMem) (w w' : World) (ι' : Inj) : Prop where
  next : m.next ≤ m'.next
  sub : ∀ b j, ι b = some j → ι' b = some j
  out : ∀ b, b < m.next ∨ m'.next ≤ b → ι' b = ι b
  new : ∀ b j, m.next ≤ b → b < m'.next → ι' b = some j → w.heap.size ≤ j.blk ∨ ∃ b0 j0, b0 < m.next ∧ ι b0 = some j0 ∧ j0.blk = j.blk
  size : w.heap.size ≤ w'.heap.size
  keep : ∀ c, c < w.heap.size → (∀ b j, b < m.next → ι b = some j → j.blk ≠ c) → w'.heap[c]? = w.heap[c]?
  os : w'.os = w.os
  tape : w'.tape = w.tape
  output : w'.output = w.output

/-- a row that stands in memory -/
def RowOk (w0 : World) (v : Option Value) (s : Nat) : Prop := ∃ a n c, v = some (.slice a n c) ∧ n ≤ 2 ^ 23 ∧ ∃ l : List Value, l.length = n * s ∧
  ∀ (P : Program) (w : World), (∀ c, c < w0.heap.size → w.heap[c]? = w0.heap[c]?) → (Builtin.firstCells s n (.slice a n c)).run P w = .ok l.toArray w

/-- what is given from outside: where its blocks lie, its world -/
class Base where
  ι0 : Inj
  w0 : World
  full : ∀ b, holeAt ≤ b → ∃ j, ι0 b = some j
  /-- a row that is given can be read -/
  rows : ∀ b j s, ι0 b = some j → j.kept.row = some s → RowOk w0 j.kept.v s

/-- the numbers to come are free; what is given stands as it stood -/
structure Free [Base] (ι : Inj) (m m' : AMem) (w : World) : Prop where
  none : ∀ b, m.next ≤ b → b < m'.next → ι b = none
  old : ∀ b j, Base.ι0 b = some j → ι b = some j
  apart : ∀ b j, b < m.next → ι b = some j → Base.w0.heap.size ≤ j.blk
  size : Base.w0.heap.size ≤ w.heap.size
  mem : ∀ c, c < Base.w0.heap.size → w.heap[c]? = Base.w0.heap[c]?
instance [Base] (ι : Inj) (m m' : AMem) (w : World) : CoeFun (Free ι m m' w) (fun _ => ∀ b, m.next ≤ b → b < m'.next → ι b = none) := ⟨Free.none⟩

/-- what may be read -/
def MObj (ι : Inj) (m : AMem) (w : World) : Prop := ∀ b o j, m.get b = some o → ι b = some j → ∃ c, w.heap[j.blk]? = some c ∧ ORel ι o j c

theorem Ext.refl (ι : Inj) (m : AMem) (w : World) : Ext ι m m w w ι :=
  ⟨Nat.le_refl _, fun _ _ h => h, fun _ _ => rfl, fun b j h1 h2 _ => by omega, Nat.le_refl _, fun _ _ _ => rfl, rfl, rfl, rfl⟩

theorem Ext.trans {ι ι1 ι2 : Inj} {m m1 m2 : AMem} {w w1 w2 : World} (h : Ext ι m m1 w w1 ι1) (k : Ext ι1 m1 m2 w1 w2 ι2) : Ext ι m m2 w w2 ι2 where
  next := Nat.le_trans h.next k.next
  sub b j hb := k.sub _ _ (h.sub _ _ hb)
  out b hb := by
    have := h.next; have := k.next
    rw [k.out b (by omega), h.out b (by omega)]
  new b j h1 h2 hb := by
    by_cases hm : b < m1.next
    · rw [k.out b (.inl hm)] at hb
      exact h.new b j h1 hm hb
    · rcases k.new b j (by omega) h2 hb with hk | ⟨b0, j0, hb0, hj0, he⟩
      · exact .inl (Nat.le_trans h.size hk)
      · by_cases h0 : b0 < m.next
        · rw [h.out b0 (.inl h0)] at hj0
          exact .inr ⟨b0, j0, h0, hj0, he⟩
        · rcases h.new b0 j0 (by omega) hb0 hj0 with hk | ⟨b1, j1, hb1, hj1, he1⟩
          · exact .inl (he ▸ hk)
          · exact .inr ⟨b1, j1, hb1, hj1, he1.trans he⟩
  size := Nat.le_trans h.size k.size
  keep c hc hn := by
    rw [k.keep c (Nat.lt_of_lt_of_le hc h.size), h.keep c hc hn]
    intro b j hb hj
    by_cases hm : b < m.next
    · rw [h.out b (.inl hm)] at hj
      exact hn b j hm hj
    · rcases h.new b j (by omega) hb hj with hk | ⟨b0, j0, hb0, hj0, he⟩
      · omega
      · rw [← he]; exact hn b0 j0 hb0 hj0
  os := k.os.trans h.os
  tape := k.tape.trans h.tape
  output := k.output.trans h.output

theorem Free.to [Base] {ι : Inj} {m m1 m2 : AMem} {w w1 : World} (h : Free ι m m2 w) (k : m1.next ≤ m2.next) (hw : w1.heap = w.heap) : Free ι m m1 w1 :=
  ⟨fun b h1 h2 => h.none b h1 (by omega), h.old, h.apart, by rw [hw]; exact h.size, fun c hc => by rw [hw]; exact h.mem c hc⟩
theorem Free.left [Base] {ι : Inj} {m m1 m2 : AMem} {w : World} (h : Free ι m m2 w) (k : m1.next ≤ m2.next) : Free ι m m1 w := h.to k rfl
theorem Free.right [Base] {ι ι1 : Inj} {m m1 m2 : AMem} {w w1 : World} (h : Free ι m m2 w) (e : Ext ι m m1 w w1 ι1) : Free ι1 m1 m2 w1 where
  none b h1 h2 := by
    rw [e.out b (.inr h1)]; exact h b (Nat.le_trans e.next h1) h2
  old b j hb := e.sub b j (h.old b j hb)
  apart b j hb hj := by
    by_cases hl : b < m.next
    · rw [e.out b (.inl hl)] at hj; exact h.apart b j hl hj
    · rcases e.new b j (by omega) hb hj with hk | ⟨b0, j0, h0, h1, h2⟩
      · exact Nat.le_trans h.size hk
      · rw [← h2]; exact h.apart b0 j0 h0 h1
  size := Nat.le_trans h.size e.size
  mem c hc := by
    rw [e.keep c (Nat.lt_of_lt_of_le hc h.size), h.mem c hc]
    intro b j hb hj he
    have := h.apart b j hb hj
    omega

/-! a draw -/
theorem MRel.drew {ι : Inj} {m : AMem} {w : World} (h : MRel ι m w) : MRel ι m w.drew := ⟨h.obj, h.inj, h.bound, h.fresh⟩
theorem Ext.drew {ι ι' : Inj} {m m' : AMem} {w w' : World} (h : Ext ι m m' w w' ι') : Ext ι m m' w w'.drew ι' :=
  ⟨h.next, h.sub, h.out, h.new, h.size, h.keep, h.os, h.tape, h.output⟩

/-! an object written anew -/
def wr (w : World) (g : Nat) (o : Obj) : World := { w with heap := w.heap.setIfInBounds g o }

theorem wr_heap (w : World) (g : Nat) (o : Obj) (c : Nat) (hg : g < w.heap.size) : (wr w g o).heap[c]? = if c = g then some o else w.heap[c]? := by
  unfold wr
  by_cases e : c = g
  · subst e; rw [if_pos rfl]; simp [hg]
  · rw [if_neg e]; simp [Array.getElem?_setIfInBounds_ne (fun e' => e e'.symm)]

theorem MRel.put {ι : Inj} {m : AMem} {w : World} (h : MRel ι m w) {b : Nat} {o o' : AObj} {j : J} {c : Obj} (hb : m.get b = some o) (hj : ι b = some j) (ho : ORel ι o' j c) :
    MRel ι (m.put b o') (wr w j.blk c) where
  obj k x jk hk hjk := by
    have hlt := h.bound b j hj
    rw [wr_heap _ _ _ _ hlt]
    rw [AMem.get_put] at hk
    by_cases e : k = b
    · subst e
      rw [if_pos rfl] at hk
      cases hk
      rw [hj] at hjk; cases hjk
      exact ⟨c, by simp, ho⟩
    · rw [if_neg e] at hk
      have : jk.blk ≠ j.blk := fun e' => e (h.inj _ _ _ _ _ _ hk hb hjk hj e')
      rw [if_neg this]
      exact h.obj k x jk hk hjk
  inj k k' x x' jk jk' hk hk' hjk hjk' e := by
    have live : ∀ k x, (m.put b o').get k = some x → ∃ y, m.get k = some y := by
      intro k x hk
      rw [AMem.get_put] at hk
      by_cases e : k = b
      · subst e; exact ⟨o, hb⟩
      · rw [if_neg e] at hk; exact ⟨x, hk⟩
    obtain ⟨y, hy⟩ := live k x hk
    obtain ⟨y', hy'⟩ := live k' x' hk'
    exact h.inj _ _ _ _ _ _ hy hy' hjk hjk' e
  bound k jk hk := by simpa [wr] using h.bound k jk hk
  fresh k hk := by
    rw [AMem.get_put]
    have := h.fresh k hk
    by_cases e : k = b
    · subst e; rw [hb] at this; cases this
    · rw [if_neg e]; exact this

theorem Ext.wr {ι : Inj} {m : AMem} {w : World} (h : MRel ι m w) {b : Nat} {o o' : AObj} {j : J} {c : Obj} (hb : m.get b = some o) (hj : ι b = some j) :
    Ext ι m (m.put b o') w (wr w j.blk c) ι where
  next := Nat.le_refl _
  sub _ _ h := h
  out _ _ := rfl
  new b j h1 h2 _ := by simp at h2; omega
  size := by simp [Ev.wr]
  keep k hk hn := by
    rw [wr_heap _ _ _ _ (h.bound b j hj), if_neg]
    intro e
    refine hn b j ?_ hj e.symm
    rcases Nat.lt_or_ge b m.next with hl | hl
    · exact hl
    · have := h.fresh b hl; rw [hb] at this; cases this
  os := rfl
  tape := rfl
  output := rfl

/-! an object made -/
def upd (ι : Inj) (b : Nat) (j : J) : Inj := fun k => if k = b then some j else ι k
theorem upd_same (ι : Inj) (b : Nat) (j : J) : upd ι b j b = some j := by simp [upd]
theorem upd_sub {ι : Inj} {b : Nat} {j : J} (h : ι b = none) : ∀ k jk, ι k = some jk → upd ι b j k = some jk := by
  intro k jk hk
  unfold upd
  by_cases e : k = b
  · subst e; rw [h] at hk; cases hk
  · rw [if_neg e]; exact hk

theorem MRel.new {ι : Inj} {m : AMem} {w : World} (h : MRel ι m w) (hf : ι m.next = none) {o : AObj} {j : J} {c : Obj} (hj : j.blk = w.heap.size) (ho : ORel (upd ι m.next j) o j c) :
    MRel (upd ι m.next j) (m.new o) (w.alloc c) where
  obj k x jk hk hjk := by
    rw [AMem.get_new] at hk
    unfold upd at hjk
    by_cases e : k = m.next
    · subst e
      rw [if_pos rfl] at hk hjk
      cases hk; cases hjk
      exact ⟨c, by rw [hj]; show (w.heap.push c)[w.heap.size]? = some c; simp, ho⟩
    · rw [if_neg e] at hk hjk
      obtain ⟨c', h1, h2⟩ := h.obj k x jk hk hjk
      refine ⟨c', ?_, h2.mono (upd_sub hf)⟩
      have := h.bound k jk hjk
      show (w.heap.push c)[jk.blk]? = some c'
      rw [Array.getElem?_push, if_neg (by omega)]
      exact h1
  inj k k' x x' jk jk' hk hk' hjk hjk' e := by
    rw [AMem.get_new] at hk hk'
    unfold upd at hjk hjk'
    by_cases e1 : k = m.next
    · by_cases e2 : k' = m.next
      · rw [e1, e2]
      · rw [if_neg e2] at hjk' hk'
        rw [if_pos e1] at hjk; cases hjk
        have := h.bound _ _ hjk'
        omega
    · by_cases e2 : k' = m.next
      · rw [if_neg e1] at hjk
        rw [if_pos e2] at hjk'; cases hjk'
        have := h.bound _ _ hjk
        omega
      · rw [if_neg e1] at hk hjk
        rw [if_neg e2] at hk' hjk'
        exact h.inj _ _ _ _ _ _ hk hk' hjk hjk' e
  bound k jk hk := by
    unfold upd at hk
    show jk.blk < (w.heap.push c).size
    rw [Array.size_push]
    by_cases e : k = m.next
    · rw [if_pos e] at hk; cases hk; omega
    · rw [if_neg e] at hk; have := h.bound _ _ hk; omega
  fresh k hk := by
    simp only [AMem.next_new] at hk
    rw [AMem.get_new, if_neg (by omega)]
    exact h.fresh k (by omega)

theorem Ext.alloc {ι : Inj} {m : AMem} {w : World} (hf : ι m.next = none) {o : AObj} {j : J} {c : Obj} (hj : j.blk = w.heap.size) :
    Ext ι m (m.new o) w (w.alloc c) (upd ι m.next j) where
  next := by simp
  sub := upd_sub hf
  out b hb := by
    unfold upd
    rw [if_neg]
    simp only [AMem.next_new] at hb
    omega
  new b jb h1 h2 hb := by
    simp only [AMem.next_new] at h2
    have : b = m.next := by omega
    subst this
    rw [upd_same] at hb; cases hb
    exact .inl (by omega)
  size := by show w.heap.size ≤ (w.heap.push c).size; simp
  keep k hk _ := by
    show (w.heap.push c)[k]? = _
    rw [Array.getElem?_push, if_neg (by omega)]
  os := rfl
  tape := rfl
  output := rfl

/-! ## Cells that are read -/
theorem cell?_of {w : World} {g i : Nat} {c : Array Value} {t : TypeId} {fz : Nat × Nat} (h : w.heap[g]? = some (.cells c t fz)) : w.cell? ⟨g, i, none⟩ = c[i]? := by
  simp [World.cell?, h]

theorem add_eq (b o n : Nat) : (⟨b, o, none⟩ : Addr).add n = ⟨b, o + n, none⟩ := by
  unfold Addr.add; split <;> simp_all

theorem run_isAgg {t : TypeId} {b : Bool} (h : isAggT P t = some b) (w : World) : (isAgg t).run P w = .ok b w := by
  unfold isAggT at h
  unfold isAgg
  cases hu : P.underlying t with
  | none => rw [hu] at h; cases h
  | some d =>
    rw [hu] at h
    simp only [Sem.run_bind, run_underlying hu, Result.andThen_ok]
    cases d <;> simp_all

theorem run_sizeOfT {t : TypeId} {n : Nat} (h : sizeT P t = some n) (w : World) : (sizeOf t).run P w = .ok n w := by
  unfold sizeT at h
  obtain ⟨i, hi, rfl⟩ := Option.map_eq_some_iff.1 h
  simp [sizeOf, typeInfo, hi]

theorem run_typeInfoT {t : TypeId} {i : TypeInfo} (h : P.info? t = some i) (w : World) : (typeInfo t).run P w = .ok i w := by
  simp [typeInfo, h]

theorem zeroT_some {t : TypeId} {z : Value} (h : zeroT P t = some z) : ground z = true ∧ ∀ w, (zeroValue t).run P w = .ok z w := by
  unfold zeroT at h
  obtain ⟨z', h1, h2⟩ := Option.bind_eq_some_iff.1 h
  obtain ⟨i, hi, hz⟩ := Option.bind_eq_some_iff.1 h1
  cases hg : ground z' with
  | false => rw [hg] at h2; cases h2
  | true =>
    rw [hg] at h2; cases h2
    exact ⟨hg, fun w => by simp [zeroValue, typeInfo, hi, hz]⟩

/-- a part of related cells -/
theorem partA_rel {ι : Inj} {t : TypeId} {cs cs' : List Value} {off off' : Nat} {v : Value}
    (hc : ∀ (i : Nat) (x : Value), cs[i]? = some x → ∃ x', cs'[i + off']? = some x' ∧ VRel ι x x') (h : partA P t cs off = some v) :
    (isAggT P t = some true ∧ ∃ n l l', sizeT P t = some n ∧ v = .agg l.toArray ∧ l' = (cs'.drop (off + off')).take n ∧ l'.length = n ∧ LRel ι l l') ∨
    (isAggT P t = some false ∧ ∃ v', cs'[off + off']? = some v' ∧ VRel ι v v') := by
  unfold partA at h
  simp only [Option.bind_eq_bind, Option.bind_eq_some_iff] at h
  obtain ⟨b, hb, h⟩ := h
  cases b with
  | false =>
    simp only [cond_false, nth_eq] at h
    obtain ⟨v', h1, h2⟩ := hc _ _ h
    exact .inr ⟨hb, v', h1, h2⟩
  | true =>
    simp only [cond_true, Option.bind_eq_some_iff, Option.map_eq_some_iff] at h
    obtain ⟨n, hn, l, hl, rfl⟩ := h
    obtain ⟨h1, h2⟩ := sub_some hl
    refine .inl ⟨hb, n, l, _, hn, rfl, rfl, ?_, ?_⟩
    · rw [List.length_take, List.length_drop]
      cases n with
      | zero => simp
      | succ n =>
        have hlast : cs[off + n]? = some (l[n]'(by omega)) := by
          have : l[n]? = some (l[n]'(by omega)) := List.getElem?_eq_getElem _
          rw [← this, h1]
          simp [List.getElem?_drop]
        obtain ⟨x', hx', _⟩ := hc _ _ hlast
        have := (List.getElem?_eq_some_iff.1 hx').1
        omega
    · refine LRel.of_get ?_ ?_
      · rw [List.length_take, List.length_drop]
        cases n with
        | zero => simp_all
        | succ n =>
          have hlast : cs[off + n]? = some (l[n]'(by omega)) := by
            have : l[n]? = some (l[n]'(by omega)) := List.getElem?_eq_getElem _
            rw [← this, h1]
            simp [List.getElem?_drop]
          obtain ⟨x', hx', _⟩ := hc _ _ hlast
          have := (List.getElem?_eq_some_iff.1 hx').1
          omega
      · intro i x hx
        have hin : i < n := by have := (List.getElem?_eq_some_iff.1 hx).1; omega
        rw [h1] at hx
        simp only [List.getElem?_take, List.getElem?_drop, if_pos hin] at hx ⊢
        obtain ⟨x', h3, h4⟩ := hc _ _ hx
        exact ⟨x', by rw [← h3]; congr 1; omega, h4⟩

/-- a load -/
theorem loadA_run {ι : Inj} {m : AMem} {w : World} (h : MObj ι m w) {t : TypeId} {p p' v : Value} (hp : VRel ι p p') (hl : loadA P m t p = some v) :
    ∃ a v', p' = .pointer (some a) ∧ (loadVar t a).run P w = .ok v' w ∧ VRel ι v v' := by
  unfold loadA at hl
  split at hl
  case h_2 => cases hl
  case h_1 _ b o =>
    split at hl
    case h_2 => cases hl
    case h_1 _ c e hm =>
      cases hp with
      | ptr hj =>
        rename_i j
        obtain ⟨cc, hcc, ho⟩ := h _ _ _ hm hj
        cases cc with
        | cells cC eC fz =>
          simp only [ORel] at ho
          refine ⟨⟨j.blk, o + j.off, none⟩, ?_⟩
          have key := partA_rel (cs' := cC.toList) (off' := j.off) (fun i x hx => by simpa using ho.2.1 i x hx) hl
          rcases key with ⟨ha, n, l, l', hn, rfl, hl', hlen, hrel⟩ | ⟨ha, v', hv', hrel⟩
          · refine ⟨.agg l'.toArray, rfl, ?_, .agg hrel⟩
            unfold loadVar
            simp only [Sem.run_bind, run_isAgg ha, Result.andThen_ok, if_true, run_sizeOfT hn]
            rw [show n = l'.length from hlen.symm]
            rw [run_loadCells_list (P := P) w ⟨j.blk, o + j.off, none⟩ l']
            · rfl
            · intro i x hx
              rw [add_eq, cell?_of hcc]
              rw [hl'] at hx
              have hin : i < n := by have := (List.getElem?_eq_some_iff.1 hx).1; simp at this; omega
              simp only [List.getElem?_take, List.getElem?_drop, if_pos hin] at hx
              simpa using hx
          · refine ⟨v', rfl, ?_, hrel⟩
            unfold loadVar
            simp only [Sem.run_bind, run_isAgg ha, Result.andThen_ok, Bool.false_eq_true, if_false, run_load]
            rw [cell?_of hcc]
            simp only [Array.getElem?_toList] at hv'
            rw [hv']
        | _ => simp [ORel] at ho
end Go.Ev
