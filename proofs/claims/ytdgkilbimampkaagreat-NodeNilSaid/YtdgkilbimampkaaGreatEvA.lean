import Derived.Calls
import Derived.Orders
import Derived.Laws.Sem
namespace Go.Ev
open Go

/-! A trie over numbers. -/
inductive Tr (α : Type) where
  | leaf
  | node (v : Option α) (l r : Tr α)

namespace Tr
variable {α : Type}
def val : Tr α → Option α | .leaf => none | .node v _ _ => v
def left : Tr α → Tr α | .leaf => .leaf | .node _ l _ => l
def right : Tr α → Tr α | .leaf => .leaf | .node _ _ r => r
def get : Tr α → Nat → Option α
  | .leaf, _ => none
  | .node v l r, n => match n with
    | 0 => v
    | k + 1 => bif Nat.beq (k % 2) 0 then l.get (k / 2) else r.get (k / 2)
def setF : Nat → Tr α → Nat → Option α → Tr α
  | 0, t, _, _ => t
  | f + 1, t, n, x => match n with
    | 0 => .node x t.left t.right
    | k + 1 => bif Nat.beq (k % 2) 0 then .node t.val (setF f t.left (k / 2) x) t.right else .node t.val t.left (setF f t.right (k / 2) x)
def set (t : Tr α) (n : Nat) (x : Option α) : Tr α := setF (n + 1) t n x
end Tr

/-! What memory holds. -/
structure ALoop where
  state : LoopState
  pending : Option Code
  fn : FuncId
  T : Tr Value
  nt : Nat
  params : List Tmp
  assign : Code
  body : Code
  defers : Nat

inductive AObj where
  | cells (c : List Value) (elem : TypeId)
  | map (es : List MapEntry) (clock : Nat)
  | chan (cap : Nat) (buf : List Value) (sent rcvd : Nat)
  | mapIter (m : Option Nat) (since : Nat) (seen : List Nat) (last : Nat)
  | strIter (s : ByteArray) (pos : Nat)
  | loop (l : ALoop)
  | deferred

structure AMem where
  heap : Tr AObj
  next : Nat

def AMem.get (m : AMem) (b : Nat) : Option AObj := m.heap.get b
def AMem.put (m : AMem) (b : Nat) (o : AObj) : AMem := { m with heap := m.heap.set b (some o) }
def AMem.drop (m : AMem) (b : Nat) : AMem := { m with heap := m.heap.set b none }
def AMem.new (m : AMem) (o : AObj) : AMem := { heap := m.heap.set m.next (some o), next := m.next + 1 }

/-! Small list work. -/
def nth {α : Type} : List α → Nat → Option α
  | [], _ => none
  | a :: l, n => match n with | 0 => some a | k + 1 => nth l k
def sub {α : Type} (l : List α) (o n : Nat) : Option (List α) :=
  let r := (l.drop o).take n
  bif Nat.beq r.length n then some r else none
/-- 'vs' over 'l' from o on -/
def over {α : Type} : List α → Nat → List α → Option (List α)
  | l, 0, vs => match l, vs with
    | l, [] => some l
    | [], _ :: _ => none
    | _ :: l, v :: vs => (over l 0 vs).map (v :: ·)
  | [], _ + 1, _ => none
  | a :: l, o + 1, vs => (over l o vs).map (a :: ·)

def rep {α : Type} : Nat → List α → List α
  | 0, _ => []
  | k + 1, l => l ++ rep k l

/-- Has a value no address in it? -/
def grd : Nat → Value → Bool
  | 0, _ => false
  | n + 1, v => match v with
    | .bool _ | .int .. | .float .. | .complex .. | .string _ | .pointer none | .map none | .chan none | .nilFunc | .nilIface => true
    | .slice none _ _ => true
    | .iface _ v => grd n v
    | .agg cs => cs.toList.all (grd n)
    | .tuple vs => vs.toList.all (grd n)
    | .func fn first captured => (match fn with | .yield _ => false | _ => true) && first.toList.all (grd n) && captured.toList.all (grd n)
    | _ => false
def ground (v : Value) : Bool := grd 12 v

/-- Equal, as far as one can see. -/
def veq : Nat → Value → Value → Bool
  | 0, _, _ => false
  | n + 1, a, b => match a, b with
    | .bool a, .bool b => a == b
    | .int j a, .int k b => j == k && a == b
    | .string a, .string b => decide (a = b)
    | .pointer a, .pointer b => a == b
    | .slice a n c, .slice b m d => a == b && n == m && c == d
    | .map a, .map b => a == b
    | .chan a, .chan b => a == b
    | .nilFunc, .nilFunc => true
    | .nilIface, .nilIface => true
    | .iface t v, .iface u w => t == u && veq n v w
    | .agg a, .agg b => a.size == b.size && (a.toList.zip b.toList).all fun (x, y) => veq n x y
    | .tuple a, .tuple b => a.size == b.size && (a.toList.zip b.toList).all fun (x, y) => veq n x y
    | .func f a b, .func g c d => f == g && a.size == c.size && (a.toList.zip c.toList).all (fun (x, y) => veq n x y) && b.size == d.size && (b.toList.zip d.toList).all (fun (x, y) => veq n x y)
    | _, _ => false

/-- What asks memory nothing. -/
def runP {α : Type} (P : Program) : Sem α → Option α
  | .pure a => some a
  | .program k => runP P (k P)
  | .choose q k => bif q.forced then runP P (k 0) else none
  | .mark _ k => runP P k
  | _ => none

def opnd (T : Tr Value) : Operand → Value
  | .tmp t => (T.get t).getD undef
  | .const v => v
  | .global g => .pointer (some ⟨g, 0, none⟩)
  | .func f => .func (.func f) #[] #[]

/-- May the operand be had: no address of its own. -/
def okOpnd : Operand → Bool
  | .tmp _ => true
  | .const v => ground v
  | .global _ => false
  | .func _ => true

def isAggT (P : Program) (t : TypeId) : Option Bool :=
  match P.underlying t with
  | some (.struct _) | some (.array _ _) => some true
  | some _ => some false
  | none => none
def sizeT (P : Program) (t : TypeId) : Option Nat := (P.info? t).map (·.size)
def zeroT (P : Program) (t : TypeId) : Option Value := ((P.info? t).bind (·.zero)).bind fun z => bif ground z then some z else none

def partA (P : Program) (t : TypeId) (cs : List Value) (off : Nat) : Option Value := do
  bif ← isAggT P t then do
    let n ← sizeT P t
    (sub cs off n).map fun l => .agg l.toArray
  else nth cs off

def loadA (P : Program) (m : AMem) (t : TypeId) (v : Value) : Option Value :=
  match v with
  | .pointer (some ⟨b, o, none⟩) => match m.get b with
    | some (.cells c _) => partA P t c o
    | _ => none
  | _ => none

def storeA (P : Program) (m : AMem) (t : TypeId) (v x : Value) : Option AMem :=
  match v with
  | .pointer (some ⟨b, o, none⟩) => match m.get b with
    | some (.cells c e) => do
      let n ← sizeT P t
      bif Nat.beq x.cells.size n && x.cells.toList.all (·.oneCell') then do
        let c' ← over c o x.cells.toList
        some (m.put b (.cells c' e))
      else none
    | _ => none
  | _ => none

def asI : Value → Option Int | .int _ n => some n | _ => none

/-- the place of a field behind a pointer -/
def fieldA (P : Program) (s : TypeId) (v : Value) (f : Nat) : Option Value :=
  match P.underlying s, v with
  | some (.struct fs), .pointer (some ⟨b, o, none⟩) => do
    let fd ← fs[f]?
    let n ← sizeT P fd.type
    bif Nat.beq n 0 then none else some (.pointer (some ⟨b, o + fd.offset, none⟩))
  | _, _ => none

def indexAddrA (P : Program) (t : TypeId) (x ix : Value) : Option Value := do
  let i ← asI ix
  match P.underlying t, x with
  | some (.array len elem), .pointer (some ⟨b, o, none⟩) =>
    bif decide (0 ≤ i) && decide (i < len) then do
      let n ← sizeT P elem
      some (.pointer (some ⟨b, o + i.toNat * n, none⟩))
    else none
  | some (.slice elem), .slice (some ⟨b, o, _⟩) len _ =>
    bif decide (0 ≤ i) && decide (i < len) then do
      let n ← sizeT P elem
      some (.pointer (some ⟨b, o + i.toNat * n, none⟩))
    else none
  | _, _ => none

def boundA (x : Option Value) (d y : Nat) : Option Nat :=
  match x with
  | none => some d
  | some v => do
    let i ← asI v
    bif decide (0 ≤ i) && decide (i ≤ y) then some i.toNat else none

/-- x[l:h] of a slice, of an array behind a pointer. A slice whose room is not known bears the cells of an element as its 'spot': its room is at least what it says. -/
def sliceA (P : Program) (t : TypeId) (x : Value) (low high max : Option Value) : Option Value :=
  match max with
  | some _ => none
  | none => match P.underlying t, x with
    | some (.slice elem), .slice a len cap => do
      let h ← boundA high len cap
      let l ← boundA low 0 h
      let n ← sizeT P elem
      match a with
      | none => some (.slice none (h - l) (cap - l))
      | some ⟨b, o, none⟩ => some (.slice (some ⟨b, bif Nat.beq cap l then o else o + l * n, none⟩) (h - l) (cap - l))
      | some ⟨b, o, some s⟩ => bif Nat.beq s n && Nat.ble len cap then (bif Nat.beq cap l then some (.slice (some ⟨b, o, some s⟩) 0 0) else some (.slice (some ⟨b, o + l * n, some s⟩) (h - l) (cap - l))) else none
    | some (.array k elem), .pointer (some ⟨b, o, none⟩) => do
      let h ← boundA high k k
      let l ← boundA low 0 h
      let n ← sizeT P elem
      some (.slice (some ⟨b, bif Nat.beq k l then o else o + l * n, none⟩) (h - l) (k - l))
    | _, _ => none

def buildA (P : Program) (t : TypeId) (parts : List (Nat × Value)) : Option Value := do
  let z ← zeroT P t
  match P.underlying t with
  | some (.struct fields) =>
    let places ← fields.toList.mapM fun f => (sizeT P f.type).map fun n => (f.offset, n)
    (Instr.fill (fun i => nth places i) z.cells parts).map .agg
  | some (.array _ elem) => do
    let n ← sizeT P elem
    (Instr.fill (fun i => some (i * n, n)) z.cells parts).map .agg
  | _ => none

/-- '==' of what is not all ground: against nil; two addresses of what lives. -/
def eqA (P : Program) (t : TypeId) (x y : Value) : Option Bool :=
  match P.underlying t, x, y with
  | some (.pointer _), .pointer none, .pointer none => some true
  | some (.pointer _), .pointer none, .pointer (some ⟨_, _, Option.none⟩) => some false
  | some (.pointer _), .pointer (some ⟨_, _, Option.none⟩), .pointer none => some false
  | some (.slice _), .slice none _ _, .slice b _ _ => some b.isNone
  | some (.slice _), .slice (some _) _ _, .slice none _ _ => some false
  | some (.map _ _), .map none, .map b => some b.isNone
  | some (.map _ _), .map (some _), .map none => some false
  | some (.func _ _ _), .nilFunc, .func _ _ _ => some false
  | some (.func _ _ _), .func _ _ _, .nilFunc => some false
  | some (.interface _), .nilIface, .iface _ _ => some false
  | some (.interface _), .iface _ _, .nilIface => some false
  | _, _, _ => none

def typeAssertA (P : Program) (x : Value) (asserted : TypeId) (ok : Bool) : Option Value :=
  match P.underlying asserted, x with
  | some (.interface _), _ => none
  | some _, .iface t v =>
    bif Nat.beq t asserted then some (bif ok then .tuple #[v, .bool true] else v)
    else bif ok then (zeroT P asserted).map fun z => .tuple #[z, .bool false] else none
  | some _, .nilIface => bif ok then (zeroT P asserted).map fun z => .tuple #[z, .bool false] else none
  | _, _ => none

inductive Cls where
  | pure | alloc | read | write
  deriving DecidableEq

def kindT (P : Program) (t : Option TypeId) : Nat :=
  match t.bind P.underlying with
  | some (.map _ _) => 1
  | some (.chan _ _) => 2
  | some (.slice _) => 3
  | some .string => 4
  | _ => 0

def cls (P : Program) (o : Oper) : Cls :=
  match o.op with
  | .alloc _ | .box .. | .buildSlice .. | .makeMap .. | .makeSlice .. | .makeChan .. => .alloc
  | .load .. | .lookup .. | .entry _ => .read
  | .convert s d _ => match kindT P (some s), kindT P (some d) with
    | 3, 4 => .read
    | 4, 3 => .alloc
    | _, _ => .pure
  | .call c => match c.callee with
    | .builtin .len | .builtin .cap => match kindT P (c.argTypes[0]?) with
      | 1 | 2 => .read
      | _ => .pure
    | .builtin .max | .builtin .min => .pure
    | _ => .write
  | .store .. | .mapUpdate .. | .insert .. | .mapEntry .. | .entryStore .. | .range .. | .next .. | .send .. | .recv .. | .select .. => .write
  | .go _ | .defer _ | .panic _ | .ready _ | .waits _ | .sliceToArrayPointer .. => .write
  | _ => .pure

def nilA : Value → Option Value
  | .pointer (some ⟨b, o, Option.none⟩) => some (.pointer (some ⟨b, o, Option.none⟩))
  | .iface t v => some (.iface t v)
  | .func (.func f) a b => some (.func (.func f) a b)
  | _ => none

def pureA (P : Program) (ρ : Operand → Value) (o : Oper) : Option Value :=
  match o.op with
  | .move x | .assign x => some (ρ x)
  | op =>
    bif op.operands.all (fun x => ground (ρ x)) then
      match runP P (execOp ρ o) with
      | some (.value v) => bif ground v then some v else none
      | _ => none
    else match op with
    | .pick c a b => match ρ c with
      | .bool t => some (bif t then ρ a else ρ b)
      | _ => none
    | .extract t i => match ρ t with
      | .tuple vs => nth vs.toList i
      | _ => none
    | .field t x f => match P.underlying t, ρ x with
      | some (.struct fs), .agg cs => do
        let fd ← fs[f]?
        partA P fd.type cs.toList fd.offset
      | _, _ => none
    | .index t x ix => match P.underlying t, ρ x with
      | some (.array len elem), .agg cs => do
        let i ← asI (ρ ix)
        let n ← sizeT P elem
        bif decide (0 ≤ i) && decide (i < len) then partA P elem cs.toList (i.toNat * n) else none
      | _, _ => none
    | .makeInterface t x => match P.underlying t with
      | some (.interface _) => none
      | some _ => some (.iface t (ρ x))
      | none => none
    | .makeFunc fn first captured => match fn with
      | .yield _ => none
      | _ => some (.func fn (first.map ρ) (captured.map ρ))
    | .nilCheck x => nilA (ρ x)
    | .fieldAddr s x f => fieldA P s (ρ x) f
    | .indexAddr t x ix => indexAddrA P t (ρ x) (ρ ix)
    | .slice t x lo hi mx => sliceA P t (ρ x) (lo.map ρ) (hi.map ρ) (mx.map ρ)
    | .build t parts => buildA P t (parts.toList.map fun (i, x) => (i, ρ x))
    | .typeAssert x _ asserted ok => typeAssertA P (ρ x) asserted ok
    | .binOp .eql t x y _ => (eqA P t (ρ x) (ρ y)).map .bool
    | .binOp .neq t x y _ => (eqA P t (ρ x) (ρ y)).map fun b => .bool (!b)
    | .call c => match c.callee with
      | .builtin .len => match (c.argTypes[0]?).bind P.underlying, (c.args[0]?).map ρ with
        | some (.slice _), some (.slice _ n _) => some (goInt n)
        | some (.array n _), some _ => some (goInt n)
        | _, _ => none
      | _ => none
    | _ => none

def allocA (P : Program) (ρ : Operand → Value) (o : Oper) : Option (AObj × (Nat → Value)) :=
  let ptr (b : Nat) : Value := .pointer (some ⟨b, 0, none⟩)
  match o.op with
  | .alloc t => (zeroT P t).map fun z => (.cells z.cells.toList t, ptr)
  | .box t x => some (.cells (ρ x).cells.toList t, ptr)
  | .makeMap t r => match r with
    | none => some (.map [] 0, fun b => .map (some b))
    | some h => match P.underlying t, ρ h with
      | some (.map _ _), .int _ _ => some (.map [] 0, fun b => .map (some b))
      | _, _ => none
  | .buildSlice t len parts => match P.underlying t with
    | some (.slice elem) => do
      let n ← sizeT P elem
      let z ← zeroT P elem
      bif Nat.beq len 0 then bif parts.isEmpty then some (.cells [] elem, fun b => .slice (some ⟨b, 0, none⟩) 0 0) else none else
      bif decide (len * n ≤ 2 ^ 20) && Nat.beq z.cells.size n && !Nat.beq n 0 then do
        let c ← Instr.fill (fun i => some (i * n, n)) (rep len z.cells.toList).toArray (parts.toList.map fun (i, x) => (i, ρ x))
        some (.cells c.toList elem, fun b => .slice (some ⟨b, 0, none⟩) len len)
      else none
    | _ => none
  | .makeSlice t l c => match P.underlying t with
    | some (.slice elem) => do
      let l ← asI (ρ l)
      let c ← asI (ρ c)
      let i ← P.info? elem
      let z ← zeroT P elem
      bif decide (0 ≤ l) && decide (l ≤ c) && decide (c ≤ 2 ^ 20) && decide (i.bytes ≤ 2 ^ 20) && Nat.beq z.cells.size i.size && !Nat.beq i.size 0 then
        some (.cells (rep c.toNat z.cells.toList) elem, fun b => .slice (some ⟨b, 0, none⟩) l.toNat c.toNat)
      else none
    | _ => none
  | .makeChan t s => match P.underlying t with
    | some (.chan _ elem) => do
      let n ← asI (ρ s)
      let i ← P.info? elem
      bif decide (0 ≤ n) && decide (n ≤ 2 ^ 20) && decide (i.bytes ≤ 2 ^ 20) then some (.chan n.toNat [] 0 0, fun b => .chan (some b)) else none
    | _ => none
  | .convert s d x => match P.underlying s, P.underlying d, ρ x with
    | some .string, some (.slice e), .string b => match P.underlying e with
      | some (.int .u8) => bif decide (b.size ≤ 2 ^ 20) then some (.cells (b.data.toList.map fun c => .int .u8 c.toNat) e, fun r => .slice (some ⟨r, 0, some 1⟩) b.size b.size) else none
      | _ => none
    | _, _, _ => none
  | _ => none

/-- the place of a key in a map -/
def findA (P : Program) (kt : TypeId) (k : Value) : List MapEntry → Nat → Option (Option (Nat × Value))
  | [], _ => some none
  | e :: es, i => match runP P (Op.equal kt k e.key) with
    | some true => some (some (i, e.val))
    | some false => findA P kt k es (i + 1)
    | none => none

def keyA (P : Program) (kt : TypeId) (k : Value) (empty : Bool) : Option Unit :=
  bif ground k then runP P (Instr.checkKey empty 10000 kt k) else none

def lookupA (P : Program) (m : AMem) (t : TypeId) (x k : Value) (ok : Bool) : Option Value :=
  match P.underlying t with
  | some (.map kt et) => do
    let es ← (match x with
      | .map none => some []
      | .map (some b) => match m.get b with
        | some (.map es _) => some es
        | _ => none
      | _ => none)
    keyA P kt k es.isEmpty
    match ← findA P kt k es 0 with
    | some (_, v) => some (bif ok then .tuple #[v, .bool true] else v)
    | none => do
      let z ← zeroT P et
      some (bif ok then .tuple #[z, .bool false] else z)
  | _ => none

def bytesOf : List Value → Option (List UInt8)
  | [] => some []
  | .int .u8 n :: l => (bytesOf l).map (UInt8.ofNat n.toNat :: ·)
  | _ => none

def readA (P : Program) (m : AMem) (ρ : Operand → Value) (o : Oper) : Option Value :=
  match o.op with
  | .load t a => loadA P m t (ρ a)
  | .lookup t x k ok => lookupA P m t (ρ x) (ρ k) ok
  | .entry it => match ρ it with
    | .pointer (some ⟨r, 0, none⟩) => match m.get r with
      | some (.mapIter (some b) _ seen stepped) => match m.get b, seen.getLast? with
        | some (.map es clock), some stamp =>
          bif Nat.beq clock stepped then (es.find? (·.born == stamp)).map fun e => .tuple #[e.key, e.val] else none
        | _, _ => none
      | _ => none
    | _ => none
  | .convert s d x => match P.underlying s, P.underlying d with
    | some (.slice e), some .string => match P.underlying e, ρ x with
      | some (.int .u8), .slice none _ _ => some (.string .empty)
      | some (.int .u8), .slice (some ⟨b, o, _⟩) n _ => match m.get b with
        | some (.cells c _) => do
          let l ← sub c o n
          (bytesOf l).map fun bs => .string ⟨bs.toArray⟩
        | _ => none
      | _, _ => none
    | _, _ => none
  | .call c => match c.callee, (c.args[0]?).map ρ, (c.argTypes[0]?).bind P.underlying with
    | .builtin .len, some (.map none), some (.map _ _) => some (goInt 0)
    | .builtin .len, some (.map (some b)), some (.map _ _) => match m.get b with
      | some (.map es _) => some (goInt es.length)
      | _ => none
    | .builtin .len, some (.chan (some b)), some (.chan _ _) => match m.get b with
      | some (.chan _ buf _ _) => some (goInt buf.length)
      | _ => none
    | .builtin .cap, some (.chan (some b)), some (.chan _ _) => match m.get b with
      | some (.chan n _ _ _) => some (goInt n)
      | _ => none
    | _, _, _ => none
  | _ => none

/-! What goes deeper: handed in. -/
structure Rec where
  code : FuncId → Nat → Option Nat → Code → Tr Value → List Nat → AMem → Option (Exit × Tr Value × List Nat × AMem)
  scope : FuncId → Nat → Option Nat → Code → Code → Tr Value → List Nat → AMem → Option (Exit × Tr Value × List Nat × AMem)
  again : FuncId → Nat → Option Nat → Code → Tr Value → List Nat → AMem → Option (Exit × Tr Value × List Nat × AMem)
  call : FuncId → List Value → AMem → Option (Value × AMem)
  /-- what is known of values that are not told -/
  told : Op → List Value → Option Value

def pureX (P : Program) (R : Rec) (ρ : Operand → Value) (o : Oper) : Option Value :=
  match pureA P ρ o with
  | some v => some v
  | none => R.told o.op (o.op.operands.toList.map ρ)

/-- cells of a slice -/
def rowA (P : Program) (m : AMem) (elem : TypeId) (v : Value) : Option (List Value) :=
  match v with
  | .slice none _ _ => some []
  | .slice (some ⟨b, o, _⟩) n _ => match m.get b with
    | some (.cells c _) => (sizeT P elem).bind fun s => sub c o (n * s)
    | _ => none
  | .string s => bif (match sizeT P elem with | some n => Nat.beq n 1 | none => false) then some (s.data.toList.map fun c => .int .u8 c.toNat) else none
  | _ => none

def lenA : Value → Option Nat
  | .slice _ n _ => some n
  | .string s => some s.size
  | _ => none

def appendA (P : Program) (m : AMem) (t : TypeId) (s x : Value) : Option (Value × AMem) :=
  match P.underlying t, s with
  | some (.slice elem), .slice base n cap => do
    let i ← P.info? elem
    let z ← zeroT P elem
    let new ← rowA P m elem x
    let k ← lenA x
    bif Nat.beq k 0 then bif Nat.ble n cap then some (.slice base n cap, m) else none else
    bif decide (n + k ≤ 2 ^ 24) && decide (i.bytes ≤ 2 ^ 20) && Nat.beq new.length (k * i.size) && Nat.beq z.cells.size i.size && new.all (·.oneCell') then
      match base with
      | some ⟨b, o, sp⟩ => match m.get b with
        | some (.cells c e) =>
          bif Nat.ble (n + k) cap then do
            let c' ← over c (o + n * i.size) new
            some (.slice base (n + k) cap, m.put b (.cells c' e))
          else do
            let old ← sub c o (n * i.size)
            match sp with
            | none => some (.slice (some ⟨m.next, 0, some i.size⟩) (n + k) (n + k), m.new (.cells (old ++ new) elem))
            | some s => bif Nat.beq s i.size then some (.slice (some ⟨m.next, 0, some i.size⟩) (n + k) (n + k), (m.drop b).new (.cells (old ++ new) elem)) else none
        | _ => none
      | none => bif Nat.beq cap 0 && Nat.beq n 0 then some (.slice (some ⟨m.next, 0, some i.size⟩) (n + k) (n + k), m.new (.cells new elem)) else none
    else none
  | _, _ => none

/-- from here on the caller's values are numbered -/
def holeAt : Nat := 1000000

/-- an append of a row of the caller's to an empty slice of one's own -/
def appendH (P : Program) (m : AMem) (t : TypeId) (s x : Value) : Option (Value × AMem) :=
  match s, x with
  | .slice (some ⟨b, _, none⟩) n cap, .pointer (some ⟨h, k, some 0⟩) => match P.underlying t, m.get b with
    | some (.slice elem), some (.cells _ _) => do
      let i ← P.info? elem
      let z ← zeroT P elem
      bif Nat.beq n 0 && Nat.beq cap 0 && Nat.beq k (i.size + 1) && Nat.ble holeAt h && decide (i.bytes ≤ 2 ^ 20) && Nat.beq z.cells.size i.size then some (.pointer (some ⟨m.next, 0, some 0⟩), { m with next := m.next + 1 }) else none
    | _, _ => none
  | _, _ => none

def appendX (P : Program) (m : AMem) (t : TypeId) (s x : Value) : Option (Value × AMem) :=
  match appendH P m t s x with
  | some r => some r
  | none => appendA P m t s x

def copyA (P : Program) (m : AMem) (t : TypeId) (d x : Value) : Option (Value × AMem) :=
  match P.underlying t, d with
  | some (.slice elem), .slice base n _ => do
    let s ← sizeT P elem
    let row ← rowA P m elem x
    let k ← lenA x
    let k := Nat.min k n
    bif Nat.beq k 0 then some (goInt 0, m) else
    match base with
    | none => none
    | some ⟨b, o, _⟩ => match m.get b with
      | some (.cells c e) => do
        let new ← sub row 0 (k * s)
        bif new.all (·.oneCell') then do
          let c' ← over c o new
          some (goInt k, m.put b (.cells c' e))
        else none
      | _ => none
  | _, _ => none

def mapSetA (P : Program) (m : AMem) (t : TypeId) (x k v : Value) : Option AMem :=
  match P.underlying t, x with
  | some (.map kt _), .map (some b) => match m.get b with
    | some (.map es clock) => do
      keyA P kt k false
      match ← findA P kt k es 0 with
      | some (i, _) =>
        match nth es i with
        | some e => bif Instr.sameBits 10000 e.key k then (over es i [{ e with key := k, val := v }]).map fun es' => m.put b (.map es' clock) else none
        | none => none
      | none => some (m.put b (.map (es ++ [{ key := k, val := v, born := clock }]) (clock + 1)))
    | _ => none
  | _, _ => none

/-- m[k] op= v: the entry's value and its stamp; it is made where it is not there -/
def mapEntryA (P : Program) (m : AMem) (t : TypeId) (x k : Value) : Option (Value × AMem) :=
  match P.underlying t, x with
  | some (.map kt et), .map (some b) => match m.get b with
    | some (.map es clock) => do
      keyA P kt k false
      match ← findA P kt k es 0 with
      | some (i, v) =>
        match nth es i with
        | some e => bif Instr.sameBits 10000 e.key k then (over es i [{ e with key := k }]).map fun es' => (.tuple #[v, goInt e.born], m.put b (.map es' clock)) else none
        | none => none
      | none => do
        let z ← zeroT P et
        some (.tuple #[z, goInt clock], m.put b (.map (es ++ [{ key := k, val := z, born := clock }]) (clock + 1)))
    | _ => none
  | _, _ => none

def bornAt (n : Int) : List MapEntry → Nat → Option Nat
  | [], _ => none
  | e :: es, i => bif decide ((e.born : Int) = n) then some i else bornAt n es (i + 1)

def entryStoreA (m : AMem) (x stamp v : Value) : Option AMem :=
  match x with
  | .map (some b) => match m.get b with
    | some (.map es clock) => do
      let n ← asI stamp
      let i ← bornAt n es 0
      let e ← nth es i
      let es' ← over es i [{ e with val := v }]
      some (m.put b (.map es' clock))
    | _ => none
  | _ => none

def mapDelA (P : Program) (m : AMem) (t : TypeId) (x k : Value) : Option AMem :=
  match P.underlying t, x with
  | some (.map kt _), .map none => (keyA P kt k true).map fun _ => m
  | some (.map kt _), .map (some b) => match m.get b with
    | some (.map es clock) => do
      keyA P kt k es.isEmpty
      match ← findA P kt k es 0 with
      | some (i, _) => some (m.put b (.map (es.eraseIdx i) clock))
      | none => some m
    | _ => none
  | _, _ => none

def clearA (P : Program) (m : AMem) (t : TypeId) (x : Value) : Option AMem :=
  match P.underlying t, x with
  | some (.map _ _), .map none => some m
  | some (.map _ _), .map (some b) => match m.get b with
    | some (.map _ clock) => some (m.put b (.map [] clock))
    | _ => none
  | some (.slice _), .slice none _ _ => some m
  | some (.slice _), .slice (some _) 0 _ => some m
  | some (.slice elem), .slice (some ⟨b, o, _⟩) n _ => match m.get b with
    | some (.cells c e) => do
      let z ← zeroT P elem
      bif !Nat.beq z.cells.size 0 && z.cells.toList.all (·.oneCell') then do
        let c' ← over c o (rep n z.cells.toList)
        some (m.put b (.cells c' e))
      else none
    | _ => none
  | _, _ => none

def rangeA (P : Program) (m : AMem) (t : TypeId) (x : Value) : Option (Value × AMem) :=
  match P.underlying t, x with
  | some .string, .string s => some (.pointer (some ⟨m.next, 0, none⟩), m.new (.strIter s 0))
  | some (.map _ _), .map none => some (.pointer (some ⟨m.next, 0, none⟩), m.new (.mapIter none 0 [] 0))
  | some (.map _ _), .map (some b) => match m.get b with
    | some (.map _ clock) => some (.pointer (some ⟨m.next, 0, none⟩), m.new (.mapIter (some b) clock [] clock))
    | _ => none
  | _, _ => none

def nextA (m : AMem) (it : Value) (str : Bool) : Option (Value × AMem) :=
  match it with
  | .pointer (some ⟨r, 0, none⟩) => match m.get r, str with
    | some (.strIter s pos), true =>
      if pos < s.size then
        let (c, width) := Utf8.decode s pos
        some (.tuple #[.bool true, goInt pos, .int .i32 c], m.put r (.strIter s (pos + width)))
      else some (.tuple #[.bool false], m)
    | some (.mapIter none _ _ _), false => some (.tuple #[.bool false], m)
    | some (.mapIter (some b) since seen last), false => match m.get b with
      | some (.map es clock) =>
        bif !seen.isEmpty && !es.isEmpty && es.all (fun e => decide (e.born ≥ last)) then none else
        let left := es.filter fun e => !seen.contains e.born
        match left with
        | [] => some (.tuple #[.bool false], m)
        | [e] => bif decide (e.born < since) then some (.tuple #[.bool true, e.key, e.val], m.put r (.mapIter (some b) since (seen ++ [e.born]) clock)) else none
        | _ => none
      | _ => none
    | _, _ => none
  | _ => none

/-- a round of a loop over a function -/
def roundA (R : Rec) (l : Nat) (args : List Value) (m : AMem) : Option (Value × AMem) :=
  match m.get l with
  | some (.loop r) =>
    bif Nat.beq args.length r.params.length && (r.params.all fun t => Nat.blt t r.nt) then do
      let T := (r.params.zip args).foldl (fun T (t, a) => T.set t (some a)) r.T
      match ← R.code r.fn r.nt (some l) r.assign T [] m with
      | (.normal, T1, [], m1) =>
        match m1.get l with
        | some (.loop r1) => match r1.state with
          | .ready =>
            match ← R.code r.fn r.nt (some l) r.body T1 [] (m1.put l (.loop { r1 with state := .busy })) with
            | (ex, _, [], m2) =>
              let out (jump : Option Code) : Option (Value × AMem) := match m2.get l with
                | some (.loop r2) => some (.bool jump.isNone, m2.put l (.loop { r2 with state := bif jump.isNone then .ready else .done, pending := jump }))
                | _ => none
              match ex with
              | .normal => out none
              | .exit id => out (some (.exit id))
              | .goto l => out (some (.goto l))
              | .ret => out (some .ret)
              | _ => none
            | _ => none
          | _ => none
        | _ => none
      | _ => none
    else none
  | _ => none

/-- what a method's receiver is, for an interface value of a type -/
def methodA (P : Program) (t : TypeId) (v : Value) (name : String) : Option (FuncId × Value) := do
  let i ← P.info? t
  let me ← i.methods.find? (·.name == name)
  bif me.path.isEmpty then
    match me.func, P.underlying t with
    | some (f, true), some (.pointer _) => some (f, v)
    | some (_, false), some (.pointer _) => none
    | some (f, false), some _ => some (f, v)
    | _, _ => none
  else none

def externA (P : Program) (fn : Func) (args : List Value) : Option Value :=
  bif args.all ground && (Extern.findNext fn).isNone then
    match Extern.find fn with
    | some e => match runP P (e args.toArray) with
      | some v => bif ground v then some v else none
      | none => none
    | none => none
  else none

/-- a function's call: of one with a body, of one without -/
def enterA (P : Program) (R : Rec) (f : FuncId) (args : List Value) (m : AMem) : Option (Value × AMem) := do
  let fn ← P.funcs[f]?
  bif fn.name == "runtime.NumGoroutine" then none else
  match fn.body with
  | none => (externA P fn args).map fun v => (v, m)
  | some _ => R.call f args m

def fnCall (P : Program) (R : Rec) (fn : Fn) (args captured : List Value) (m : AMem) : Option (Value × AMem) :=
  match fn with
  | .func f => enterA P R f (args ++ captured) m
  | .yield l => roundA R l args m
  | .method name => match args with
    | .iface t v :: rest => do
      let (f, x) ← methodA P t v name
      enterA P R f (x :: rest) m
    | _ => none
  | _ => none

def callA (P : Program) (R : Rec) (ρ : Operand → Value) (c : Call) (m : AMem) : Option (Value × AMem) :=
  let args := c.args.toList.map ρ
  match c.callee with
  | .value f => match ρ f with
    | .func fn first captured => fnCall P R fn (first.toList ++ args) captured.toList m
    | _ => none
  | .invoke r name => fnCall P R (.method name) (ρ r :: args) [] m
  | .builtin b => match b, c.argTypes[0]?, args with
    | .append, some t, [s, x] => (match (c.argTypes[1]?).bind P.underlying with | some (.slice _) => appendX P m t s x | some .string => appendX P m t s x | _ => none)
    | .copy, some t, [d, x] => copyA P m t d x
    | .delete, some t, [x, k] => (mapDelA P m t x k).map fun m => (undef, m)
    | .clear, some t, [x] => (clearA P m t x).map fun m => (undef, m)
    | _, _, _ => none

/-- what stands at a channel -/
def sendA (m : AMem) (ch x : Value) : Option AMem :=
  match ch with
  | .chan (some b) => match m.get b with
    | some (.chan n buf s r) => bif Nat.blt buf.length n then some (m.put b (.chan n (buf ++ [x]) (s + 1) r)) else none
    | _ => none
  | _ => none
def recvA (m : AMem) (ch : Value) : Option (Value × AMem) :=
  match ch with
  | .chan (some b) => match m.get b with
    | some (.chan n (v :: buf) s r) => some (v, m.put b (.chan n buf s (r + 1)))
    | _ => none
  | _ => none

def writeA (P : Program) (R : Rec) (ρ : Operand → Value) (o : Oper) (m : AMem) : Option (Value × AMem) :=
  match o.op with
  | .store t a x => (storeA P m t (ρ a) (ρ x)).map fun m => (undef, m)
  | .mapUpdate t x k v | .insert t x k v => (mapSetA P m t (ρ x) (ρ k) (ρ v)).map fun m => (undef, m)
  | .mapEntry t x k => mapEntryA P m t (ρ x) (ρ k)
  | .entryStore _ x s v => (entryStoreA m (ρ x) (ρ s) (ρ v)).map fun m => (undef, m)
  | .range t x => rangeA P m t (ρ x)
  | .next it str => nextA m (ρ it) str
  | .call c => callA P R ρ c m
  | .send ch x => (sendA m (ρ ch) (ρ x)).map fun m => (undef, m)
  | .recv ct ch ok => match P.underlying ct with
    | some (.chan _ e) => (zeroT P e).bind fun _ => (recvA m (ρ ch)).map fun (v, m) => (bif ok then .tuple #[v, .bool true] else v, m)
    | _ => none
  | _ => none

/-! Regions. -/
def putT (nt : Nat) (T : Tr Value) (d : Option Tmp) (v : Value) : Option (Tr Value) :=
  match d with
  | none => some T
  | some d => bif Nat.blt d nt then some (T.set d (some v)) else none

def wantV (want : Bool) : Option Value → Option Bool
  | some (.bool b) => some (b == want)
  | some (.pointer (some ⟨_, _, some _⟩)) => none
  | _ => some false

/-- is the operation wanted? (nothing: it is not known) -/
def wantA (ops : List Oper) (T : Tr Value) (o : Oper) : Option Bool :=
  match o.guard with
  | none => some true
  | some (j, w) => wantV w (((nth ops j).bind (·.dst)).bind T.get)

def opA (P : Program) (R : Rec) (T : Tr Value) (m : AMem) (o : Oper) : Option (Value × AMem) :=
  bif o.op.operands.all okOpnd then
    match cls P o with
    | .pure => (pureX P R (opnd T) o).map fun v => (v, m)
    | .alloc => (allocA P (opnd T) o).map fun (x, f) => (f m.next, m.new x)
    | .read => (readA P m (opnd T) o).map fun v => (v, m)
    | .write => writeA P R (opnd T) o m
  else none

def seqA (P : Program) (R : Rec) (nt : Nat) (ops : List Oper) : List Oper → Tr Value → AMem → Option (Tr Value × AMem)
  | [], T, m => some (T, m)
  | o :: rest, T, m => match wantA ops T o with
    | some true => do
      let (v, m) ← opA P R T m o
      let T ← putT nt T o.dst v
      seqA P R nt ops rest T m
    | some false => do
      let T ← putT nt T o.dst undef
      seqA P R nt ops rest T m
    | none => none

/-- what an operation of a region that draws came to -/
inductive Lk where
  | val (v : Value)                          -- not wanted, or without memory
  | made (v : Value) (b : Nat) (x : AObj)    -- a new block
  | read (v : Value)
  | wrote (v : Value) (p : Nat)              -- the base behind it is the (p + 1)-th

/-- ahead of it: the slots, the next number -/
structure Lg where
  T : Tr Value
  nx : Nat
  k : Lk

def Lk.value : Lk → Value
  | .val v | .made v _ _ | .read v | .wrote v _ => v

/-- a region that draws: what was done so far -/
structure Dr where
  T : Tr Value
  log : List Lg                                  -- in the text's order
  bases : List AMem                              -- behind each write; the first one: ahead of all
  wr : List Nat                                  -- which operations wrote
  un : List (Nat × AObj × Nat)                   -- made, and not yet in the base: number, what, by which operation
  next : Nat

def names (ops : List Oper) (o : Oper) : List Tmp :=
  (o.op.operands.toList.filterMap fun | .tmp t => some t | _ => none) ++ (match o.guard with | some (g, _) => ((nth ops g).bind (·.dst)).toList | none => [])

def has (bef : List Nat) (i j : Nat) : Bool := ((nth bef i).getD 0).testBit j

/-- two operations of which neither must come first touch no slot of each other's -/
def apartOk (ops : List Oper) (p o : Oper) : Bool :=
  (match p.dst with | some d => !(names ops o).contains d && o.dst != some d | none => true) &&
  (match o.dst with | some d => !(names ops p).contains d | none => true)

/-- the operations' order, and who writes what they name -/
def orderOk (ops : List Oper) (bef : List Nat) : Bool :=
  ops.zipIdx.all fun (o, j) =>
    (o.after.toList.all fun e => !Region.binds .any e || Nat.blt e.on j) &&
    (match o.guard with | some (g, _) => has bef j g | none => true) &&
    ops.zipIdx.all fun (p, i) => !Nat.blt i j || has bef j i || apartOk ops p o

def befOf (acc : List Nat) (o : Oper) : Nat :=
  o.after.toList.foldl (fun s e => bif Region.binds .any e then s ||| 2 ^ e.on ||| (nth acc e.on).getD 0 else s) 0

def before (ops : List Oper) : List Nat := ops.foldl (fun acc o => acc ++ [befOf acc o]) []

def withFloats (m : AMem) (fl : List (Nat × AObj × Nat)) (next : Nat) : AMem :=
  { heap := fl.foldl (fun h (b, x, _) => h.set b (some x)) m.heap, next }

/-- does a value name such blocks alone? -/
def idsV (f : Nat → Bool) : Nat → Value → Bool
  | 0, _ => false
  | n + 1, v => match v with
    | .pointer (some a) => f a.block
    | .slice (some a) _ _ => f a.block
    | .map (some b) => f b
    | .chan (some b) => f b
    | .iface _ v => idsV f n v
    | .agg cs => cs.toList.all (idsV f n)
    | .tuple vs => vs.toList.all (idsV f n)
    | .func fn first captured => (match fn with | .yield l => f l | _ => true) && first.toList.all (idsV f n) && captured.toList.all (idsV f n)
    | _ => true
def idsO (f : Nat → Bool) : AObj → Bool
  | .cells c _ => c.all (idsV f 20)
  | .map es _ => es.all fun e => idsV f 20 e.val
  | .chan _ buf _ _ => buf.all (idsV f 20)
  | _ => false

def drawStep (P : Program) (R : Rec) (nt : Nat) (ops : List Oper) (bef : List Nat) (o : Oper) (i : Nat) (d : Dr) : Option Dr := do
  let put (d : Dr) (k : Lk) : Option Dr := (putT nt d.T o.dst k.value).map fun T => { d with T, log := d.log ++ [⟨d.T, (Dr.next d), k⟩] }
  match wantA ops d.T o with
  | none => none
  | some false => put d (.val undef)
  | some true =>
    bif o.op.operands.all okOpnd then
      match cls P o with
      | .pure => do put d (.val (← pureX P R (opnd d.T) o))
      | .alloc => do
        let (x, f) ← allocA P (opnd d.T) o
        let d1 ← put d (.made (f d.next) d.next x)
        some { d1 with un := (d.next, x, i) :: d.un, next := d.next + 1 }
      | .read => do
        let v ← readA P (withFloats (← nth d.bases d.wr.length) (d.un.filter fun (_, _, j) => has bef i j) d.next) (opnd d.T) o
        put d (.read v)
      | .write => do
        let fl := d.un.filter fun (_, _, j) => has bef i j
        let rest := d.un.filter fun (_, _, j) => !has bef i j
        let fine (b : Nat) : Bool := (Nat.blt b d.next || Nat.ble holeAt b) && rest.all fun (c, _, _) => !Nat.beq b c
        bif d.wr.all (fun w => has bef i w) && (o.op.operands.toList.all fun x => idsV fine 20 (opnd d.T x)) && (fl.all fun (_, x, _) => idsO fine x) then do
          let (v, m) ← writeA P R (opnd d.T) o (withFloats (← nth d.bases d.wr.length) fl d.next)
          let d1 ← put d (.wrote v d.wr.length)
          some { d1 with bases := d.bases ++ [m], wr := d.wr ++ [i], un := rest, next := m.next }
        else none
    else none

def drawGo (P : Program) (R : Rec) (nt : Nat) (ops : List Oper) (bef : List Nat) : List Oper → Nat → Dr → Option Dr
  | [], _, d => some d
  | o :: rest, i, d => do drawGo P R nt ops bef rest (i + 1) (← drawStep P R nt ops bef o i d)

/-- what was made and is in no base behind p writes -/
def floatsAt (bef : List Nat) (wr : List Nat) (p : Nat) : List Lg → Nat → List (Nat × AObj × Nat)
  | [], _ => []
  | e :: l, j => match e.k with
    | .made _ b x => bif (wr.take p).any fun w => has bef w j then floatsAt bef wr p l (j + 1) else (b, x, j) :: floatsAt bef wr p l (j + 1)
    | _ => floatsAt bef wr p l (j + 1)

/-- may operation i come behind just the first p writes? -/
def mayCome (bef : List Nat) (wr : List Nat) (p i : Nat) : Bool :=
  ((wr.take p).all fun w => !has bef w i) && ((wr.drop p).all fun w => !has bef i w)

/-- does each read give the same behind each write where it may come? -/
def readsOk (P : Program) (ops : List Oper) (bef : List Nat) (d : Dr) : Bool :=
  d.log.zipIdx.all fun (e, i) => match e.k, nth ops i with
    | .read v, some o => (List.range (d.wr.length + 1)).all fun p => !mayCome bef d.wr p i ||
        (match (nth d.bases p).bind fun m => readA P (withFloats m (floatsAt bef d.wr p d.log 0) 0) (opnd e.T) o with
        | some u => veq 20 u v
        | none => false)
    | .read _, none => false
    | _, _ => true

def drawA (P : Program) (R : Rec) (nt : Nat) (ops : List Oper) (T : Tr Value) (m : AMem) : Option (Tr Value × AMem) := do
  let bef := before ops
  bif orderOk ops bef then do
    let d ← drawGo P R nt ops bef ops 0 { T, log := [], bases := [m], wr := [], un := [], next := m.next }
    bif Nat.ble d.next holeAt && readsOk P ops bef d then (nth d.bases d.wr.length).map fun b => (d.T, withFloats b d.un d.next) else none
  else none

def regionA (P : Program) (R : Rec) (nt : Nat) (ops : Array Oper) (draw : Bool) (T : Tr Value) (m : AMem) : Option (Tr Value × AMem) :=
  bif draw then drawA P R nt ops.toList T m else seqA P R nt ops.toList ops.toList T m

/-- a call of a function with a body -/
def goA (P : Program) (R : Rec) (f : FuncId) (args : List Value) (m : AMem) : Option (Value × AMem) := do
  let fn ← P.funcs[f]?
  bif fn.name == "runtime.NumGoroutine" || fn.body.isNone then none else R.call f args m

/-- what a loop over a function lays before its call: the block of the deferred calls, the marks -/
def layA (rd : Option Nat) (D : List Nat) (m : AMem) : Option (Nat × List Nat × AMem) :=
  match rd with
  | some l => match m.get l with
    | some (.loop r) => some (r.defers, D, m)
    | _ => none
  | none => some (m.next, m.next :: D, m.new .deferred)

abbrev CodeRes := Exit × Tr Value × List Nat × AMem

/-- a round of a loop, and the rounds behind it -/
def loopA (R : Rec) (fn : FuncId) (nt : Nat) (rd : Option Nat) (body : Code) (T : Tr Value) (D : List Nat) (m : AMem) : Option CodeRes :=
  match R.code fn nt rd body T D m with
  | some (.normal, T, D, m) => R.again fn nt rd body T D m
  | r => r

def codeA (P : Program) (R : Rec) (fn : FuncId) (nt : Nat) (rd : Option Nat) (c : Code) (T : Tr Value) (D : List Nat) (m : AMem) : Option CodeRes :=
  match c with
  | .skip | .label _ => some (.normal, T, D, m)
  | .region _ ops draw => (regionA P R nt ops draw T m).map fun (T, m) => (.normal, T, D, m)
  | .seq a b => match R.code fn nt rd a T D m with
    | some (.normal, T, D, m) => R.code fn nt rd b T D m
    | r => r
  | .cond c x y => bif okOpnd c then match opnd T c with
      | .bool t => R.code fn nt rd (bif t then x else y) T D m
      | _ => none
    else none
  | .block id body => match R.code fn nt rd body T D m with
    | some (.exit i, T, D, m) => bif Nat.beq i id then some (.normal, T, D, m) else some (.exit i, T, D, m)
    | r => r
  | .loop body => loopA R fn nt rd body T D m
  | .exit id => some (.exit id, T, D, m)
  | .goto l => some (.goto l, T, D, m)
  | .ret => some (.ret, T, D, m)
  | .scope body => R.scope fn nt rd body body T D m
  | .rangeFunc f params assign body =>
    bif okOpnd f then match opnd T f with
      | .func (.func g) first captured => do
        let (dk, D, m) ← layA rd D m
        let l := m.next
        let (_, m) ← goA P R g (first.toList ++ [.func (.yield l) #[] #[]] ++ captured.toList) (m.new (.loop { state := .ready, pending := none, fn, T, nt, params := params.toList, assign, body, defers := dk }))
        match m.get l with
        | some (.loop r) =>
          match r.state with
          | .busy => none
          | _ =>
            let m := m.put l (.loop { r with state := .exhausted })
            match r.pending with
            | none => some (.normal, T, D, m)
            | some (.exit id) => some (.exit id, T, D, m)
            | some (.goto l) => some (.goto l, T, D, m)
            | some .ret => some (.ret, T, D, m)
            | some _ => none
        | _ => none
      | _ => none
    else none
  | .refuse _ => none

def scopeA (R : Rec) (fn : FuncId) (nt : Nat) (rd : Option Nat) (body cur : Code) (T : Tr Value) (D : List Nat) (m : AMem) : Option CodeRes :=
  match R.code fn nt rd cur T D m with
  | some (.goto l, T, D, m) => match findLabel body l with
    | some rest => R.scope fn nt rd body rest T D m
    | none => some (.goto l, T, D, m)
  | r => r

def argsT : List Value → Nat → Tr Value → Tr Value
  | [], _, T => T
  | v :: l, i, T => argsT l (i + 1) (T.set i (some v))

def unwindA : List Nat → AMem → Option AMem
  | [], m => some m
  | d :: D, m => match m.get d with
    | some .deferred => unwindA D (m.drop d)
    | _ => none

def resultsA (P : Program) (T : Tr Value) (m : AMem) : List ResultVar → Option (List Value)
  | [] => some []
  | r :: l => do
    let v ← (match r with
      | .tmp t => some ((T.get t).getD undef)
      | .cell a t => loadA P m t ((T.get a).getD undef))
    let vs ← resultsA P T m l
    some (v :: vs)

def outOf : List Value → Value
  | [v] => v
  | vs => .tuple vs.toArray

def funcA (P : Program) (R : Rec) (f : FuncId) (args : List Value) (m : AMem) : Option (Value × AMem) := do
  let fn ← P.funcs[f]?
  match fn.body with
  | none => none
  | some c =>
    bif Nat.ble args.length fn.ntmps then do
      let (ex, T, D, m) ← R.code f fn.ntmps none c (argsT args 0 .leaf) [] m
      match ex with
      | .normal | .ret => do
        let m ← unwindA D m
        let vs ← resultsA P T m fn.results.toList
        some (outOf vs, m)
      | _ => none
    else none

def ev (P : Program) : Nat → Rec
  | 0 => ⟨fun _ _ _ _ _ _ _ => none, fun _ _ _ _ _ _ _ _ => none, fun _ _ _ _ _ _ _ => none, fun _ _ _ => none, fun _ _ => none⟩
  | n + 1 => ⟨codeA P (ev P n), scopeA (ev P n), loopA (ev P n), funcA P (ev P n), fun _ _ => none⟩

end Go.Ev
