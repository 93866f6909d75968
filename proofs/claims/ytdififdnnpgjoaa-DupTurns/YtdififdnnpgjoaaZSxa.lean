/- The base texts of this claim, one behind the other. -/
import Derived.Test.YtdififdnnpgjoaaZBase
import Derived.Laws.StructEq
import Derived.Lib.AppendStr
import Derived.Maps.AppendAt
/- A symbolic walk: what a stretch of code asks, computed from its text; the words. No program is named here. -/
namespace Go.Proofs.Ytdififdnnpgjoaa
open Go.RowKit

/-- A frame of which some slots are known. -/
abbrev Fr := List (Nat × Option Value)
def look : Fr → Nat → Option Value
  | [], _ => none
  | (s, v) :: r, t => bif Nat.beq s t then v else look r t
def ev (F : Fr) : Operand → Option Value
  | .tmp t => look F t
  | .const v => some v
  | .global g => some (.pointer (some ⟨g, 0, none⟩))
  | .func f => some (.func (.func f) #[] #[])
def evs (F : Fr) : List Operand → Option (List Value)
  | [] => some []
  | x :: r => match ev F x with
    | some v => match evs F r with
      | some vs => some (v :: vs)
      | none => none
    | none => none
structure Agree (N : Nat) (F : Fr) (a : Act) : Prop where
  size : a.tmps.size = N
  defers : a.defers = []
  slots : ∀ t v, look F t = some v → a.tmps.getD t undef = v
def upd (d : Option Nat) (v : Value) (F : Fr) : Fr := match d with | some d => (d, some v) :: F | none => F
def dstOk (N : Nat) : Option Nat → Bool
  | some d => Nat.blt d N
  | none => true

/-- Anything else that is known of memory, by what it is, where it lies, and that it stays while nobody writes there. -/
structure GEnt where
  own : Option Nat
  uses : Nat → Prop
  holds : World → Prop
  own_uses : ∀ g, own = some g → uses g
  uses_lt : ∀ w g, holds w → uses g → g < w.heap.size
  kept : ∀ w w' row, holds w → w.grownBy w' row → (∀ g, row = some g → ¬ uses g) → holds w'
/-- What is known of memory: a block that is known whole and may be written; cells that are read; a slice of the call's own that may grow. -/
inductive Ent where
  | blk (g e : Nat) (cs : List Value)
  | rd (ao : Option Addr) (cs : List Value)
  | row (ao : Option Addr) (n cap e k : Nat) (cs : List Value)
  | gen (x : GEnt)
abbrev Hp := List Ent
def Ent.Holds (w : World) : Ent → Prop
  | .blk g e cs => Blk w g e cs
  | .rd ao cs => Rd w ao cs
  | .row ao n cap e k cs => w.ownsRow 0 e k (.slice ao n cap) n cs
  | .gen x => x.holds w
def Ent.own : Ent → Option Nat
  | .blk g _ _ => some g
  | .rd _ _ => none
  | .row ao _ _ _ _ _ => ao.map (·.block)
  | .gen x => x.own
def Ent.uses : Ent → Nat → Prop
  | .blk g _ _, b => b = g
  | .rd ao cs, b => cs ≠ [] ∧ ao.map (·.block) = some b
  | .row ao _ _ _ _ _, b => ao.map (·.block) = some b
  | .gen x, b => x.uses b
/-- Of what was there, only the blocks M may have been written. -/
structure Touch (M : List Nat) (W w : World) : Prop where
  os : w.os = W.os
  tape : w.tape = W.tape
  output : w.output = W.output
  size : W.heap.size ≤ w.heap.size
  block : ∀ k, k < W.heap.size → k ∉ M → w.heap[k]? = W.heap[k]?
structure Sat (W : World) (M : List Nat) (H : Hp) (w : World) : Prop where
  touch : Touch M W w
  holds : ∀ (i : Nat) (e : Ent), H[i]? = some e → e.Holds w
  own : ∀ (i : Nat) (e : Ent), H[i]? = some e → ∀ g, e.own = some g → W.heap.size ≤ g ∨ g ∈ M
  sep : ∀ (i j : Nat) (a b : Ent), i ≠ j → H[i]? = some a → H[j]? = some b → ∀ g, a.own = some g → ¬ b.uses g

/-- What the types are. -/
inductive TD where
  | bool | int (k : IntKind) | string | slice (e : Nat) | array (n e : Nat) | struct (fs : List (Nat × Nat)) | other
def tdOf : TypeDesc → TD
  | .bool => .bool
  | .int k => .int k
  | .string => .string
  | .slice e => .slice e
  | .array n e => .array n e
  | .struct fs => .struct (fs.toList.map fun f => (f.offset, f.type))
  | _ => .other
structure TInf where
  d : TD
  size : Nat
  bytes : Nat
  zero : Value
def tl : List (Nat × TInf) → Nat → Option TInf
  | [], _ => none
  | (s, v) :: r, t => bif Nat.beq s t then some v else tl r t
structure Sx where
  P : Program
  T : List (Nat × TInf)
  ty : ∀ t i, tl T t = some i → (P.underlying t).map tdOf = some i.d ∧ (P.info? t).map (fun x => (x.zero, x.size, x.bytes)) = some (some i.zero, i.size, i.bytes)
  mixed : P.follows .mixedOrders = true
  /-- Variables of these types are taken for rows of one element. -/
  rows : List Nat
  cmp : List Nat
  cmpOk : (cmp.all fun t => !P.stoodInHeld t && !P.eqGuardType P.depth t && (P.fieldsOf t).all (fun f => f.name != "_")) = true
  fns : List Nat
  fnsOk : (fns.all fun f => match P.funcs[f]? with | some fn => !(fn.name == "runtime.NumGoroutine") && !fn.body.isNone | none => false) = true
def Sx.desc (S : Sx) (t : Nat) : Option TD := match tl S.T t with | some ⟨d, _, _, _⟩ => some d | none => none
def Sx.sz (S : Sx) (t : Nat) : Option Nat := match tl S.T t with | some ⟨_, n, _, _⟩ => some n | none => none
/-- Values of one cell. -/
def allOne : List Value → Bool
  | [] => true
  | v :: r => v.oneCell' && allOne r
theorem allOne_mem : ∀ {l : List Value}, allOne l = true → ∀ v ∈ l, v.oneCell' = true
  | [], _, v, hv => by simp at hv
  | u :: r, h, v, hv => by
    simp only [allOne, Bool.and_eq_true] at h
    rcases List.mem_cons.1 hv with e | e
    · exact e ▸ h.1
    · exact allOne_mem h.2 v e

/-- The stops of the walk. -/
inductive SxIf (t : Bool) (A B : Prop) : Prop
  | mk (h1 : t = true → A) (h2 : t = false → B)
theorem SxIf.tt {A B : Prop} (h : A) : SxIf true A B := ⟨fun _ => h, fun h' => (by cases h')⟩
theorem SxIf.ff {A B : Prop} (h : B) : SxIf false A B := ⟨fun h' => (by cases h'), fun _ => h⟩
inductive SxNew (A : Nat → Prop) : Prop
  | mk (h : ∀ g, A g)
inductive SxRng (k : IntKind) (x : Int) (A : Int → Prop) : Prop
  | mk (h : A (k.wrap x))
inductive SxNz (y : Int) (A : Prop) : Prop
  | mk (h : y ≠ 0) (h' : A)
inductive SxQ (x : Int) (A : Int → Prop) : Prop
  | mk (r : Int) (h : x = r) (h' : A r)
inductive SxSh (y : Int) (A : Nat → Prop) : Prop
  | mk (n : Nat) (h : y = n) (h' : A n)
inductive SxLe (m n : Nat) (A : Prop) : Prop
  | mk (h : m ≤ n) (h' : A)
inductive SxIdx (i : Int) (n : Nat) (A : Nat → Prop) : Prop
  | mk (j : Nat) (h : i = j) (hj : j < n) (h' : A j)
inductive SxBnd (lo hi : Int) (m : Nat) (A : Nat → Nat → Prop) : Prop
  | mk (a b : Nat) (h1 : lo = a) (h2 : hi = b) (h3 : a ≤ b) (h4 : b ≤ m) (h' : A a b)
/-- The address of an element of a slice that is read, or is the call's own. -/
inductive SxIA (H : Hp) (ao : Option Addr) (n k : Nat) (i : Int) (A : Nat → Nat → Prop) : Prop
  | rd (p : Nat) (cs : List Value) (hp : H[p]? = some (.rd ao cs)) (j : Nat) (h : i = j) (hj : j < n) (hc : j * k < cs.length) (h' : ∀ g off, ao = some ⟨g, off, none⟩ → A g (off + j * k))
  | row (p cap e : Nat) (cs : List Value) (hp : H[p]? = some (.row ao n cap e k cs)) (j : Nat) (h : i = j) (hj : j < n) (h' : ∀ g, ao = some ⟨g, 0, none⟩ → A g (0 + j * k))
  | ptr (g off : Nat) (ha : ao = some ⟨g, off, none⟩) (j : Nat) (h : i = j) (hj : j < n) (h' : A g (off + j * k))
/-- One cell is read. -/
inductive SxLd (H : Hp) (g off : Nat) (A : Value → Prop) : Prop
  | blk (p : Nat) {e : Nat} {cs : List Value} (hp : H[p]? = some (.blk g e cs)) {v : Value} (hv : cs[off]? = some v) (h' : A v)
  | rd (p : Nat) {ao : Option Addr} {cs : List Value} (hp : H[p]? = some (.rd ao cs)) {o : Nat} (ha : ao = some ⟨g, o, none⟩) {j : Nat} (hj : off = o + j) {v : Value} (hv : cs[j]? = some v) (h' : A v)
  | row (p : Nat) {ao : Option Addr} {n cap e k : Nat} {cs : List Value} (hp : H[p]? = some (.row ao n cap e k cs)) (ha : ao = some ⟨g, 0, none⟩) {v : Value} {j : Nat} (hj : off = 0 + j) (hv : cs[j]? = some v) (h' : A v)
/-- Several cells are read: a struct, an array. -/
inductive SxLdN (H : Hp) (g off n : Nat) (A : List Value → Prop) : Prop
  | blk (p : Nat) {e : Nat} {cs : List Value} (hp : H[p]? = some (.blk g e cs)) {vs : List Value} (hl : vs.length = n) (hv : (cs.drop off).take n = vs) (h' : A vs)
  | rd (p : Nat) {ao : Option Addr} {cs : List Value} (hp : H[p]? = some (.rd ao cs)) {o : Nat} (ha : ao = some ⟨g, o, none⟩) {j : Nat} (hj : off = o + j) {vs : List Value} (hl : vs.length = n) (hv : (cs.drop j).take n = vs) (h' : A vs)
  | row (p : Nat) {ao : Option Addr} {m cap e k : Nat} {cs : List Value} (hp : H[p]? = some (.row ao m cap e k cs)) (ha : ao = some ⟨g, 0, none⟩) {j : Nat} (hj : off = 0 + j) {vs : List Value} (hl : vs.length = n) (hv : (cs.drop j).take n = vs) (h' : A vs)
def splice (off : Nat) (vs cs : List Value) : List Value := cs.take off ++ vs ++ cs.drop (off + vs.length)
/-- Cells are written. -/
inductive SxSt (H : Hp) (g off : Nat) (vs : List Value) (A : Hp → Prop) : Prop
  | blk (p : Nat) {e : Nat} {cs : List Value} (hp : H[p]? = some (.blk g e cs)) (hl : Nat.ble (off + vs.length) cs.length = true) (h1 : allOne vs = true) {cs' : List Value} (hc : splice off vs cs = cs') (h' : A (H.set p (.blk g e cs')))
  | row (p : Nat) {ao : Option Addr} {n cap e k : Nat} {cs : List Value} (hp : H[p]? = some (.row ao n cap e k cs)) (ha : ao = some ⟨g, 0, none⟩) {j : Nat} (hj : off = 0 + j) (hl : j + vs.length ≤ cs.length) (h1 : allOne vs = true) {cs' : List Value} (hc : splice j vs cs = cs') (h' : A (H.set p (.row ao n cap e k cs')))
/-- string(b). -/
inductive SxStr (H : Hp) (ao : Option Addr) (n : Nat) (A : List UInt8 → Prop) : Prop
  | rd (p : Nat) {cs : List Value} (hp : H[p]? = some (.rd ao cs)) (l : List UInt8) (hn : l.length = n) (hl : cs.take n = l.map fun b => .int .u8 (b.toNat : Int)) (h' : A l)
  | blk (p : Nat) {g o e : Nat} {cs : List Value} (ha : ao = some ⟨g, o, none⟩) (hp : H[p]? = some (.blk g e cs)) (l : List UInt8) (hn : l.length = n) (hl : (cs.drop o).take n = l.map fun b => .int .u8 (b.toNat : Int)) (h' : A l)
  | row (p : Nat) {m cap e : Nat} {cs : List Value} (hp : H[p]? = some (.row ao m cap e 1 cs)) (l : List UInt8) (hn : l.length = n) (hl : cs.take n = l.map fun b => .int .u8 (b.toNat : Int)) (h' : A l)
/-- append(s, x..), s the call's own. -/
inductive SxApp (H : Hp) (ao : Option Addr) (n cap e k bytes : Nat) (xo : Option Addr) (m xcap : Nat) (A : Option Addr → Nat → Hp → Prop) : Prop
  | mk (p : Nat) {cs : List Value} (hp : H[p]? = some (.row ao n cap e k cs)) (q : Nat) {vs : List Value}
      (hx : (xo = none ∧ vs = [] ∧ m = 0) ∨ H[q]? = some (.rd xo vs) ∨ (∃ g e', xo = some ⟨g, 0, none⟩ ∧ ∃ all, H[q]? = some (.blk g e' all) ∧ all.take (m * k) = vs) ∨ (p ≠ q ∧ ∃ e', H[q]? = some (.row xo m xcap e' k vs)))
      (hm : vs.length = m * k) (h1 : allOne vs = true) (h63 : n + m ≤ maxLen) (hb : (n + m) * bytes ≤ 140737488355328)
      {cs' : List Value} (hc : cs ++ vs = cs')
      (h' : ∀ ao' cap', A ao' cap' (H.set p (.row ao' (n + m) cap' e k cs')))
  | from_ (p : Nat) {cs : List Value} (hp : H[p]? = some (.row ao n cap e k cs)) {vs : List Value} (hx : ∀ W M w, Sat W M H w → Rd w xo vs)
      (hm : vs.length = m * k) (h1 : allOne vs = true) (h63 : n + m ≤ maxLen) (hb : (n + m) * bytes ≤ 140737488355328)
      {cs' : List Value} (hc : cs ++ vs = cs')
      (h' : ∀ ao' cap', A ao' cap' (H.set p (.row ao' (n + m) cap' e k cs')))
/-- append(s, x...), x a string. -/
inductive SxAppS (H : Hp) (ao : Option Addr) (n cap e : Nat) (s : ByteArray) (A : Option Addr → Nat → Hp → Prop) : Prop
  | mk (p : Nat) {cs : List Value} (hp : H[p]? = some (.row ao n cap e 1 cs)) (h63 : n + s.size ≤ 140737488355328) {cs' : List Value} (hc : cs ++ Go.Lib.strCells s = cs') (h' : ∀ ao' cap', A ao' cap' (H.set p (.row ao' (n + s.size) cap' e 1 cs')))
inductive SxCall (S : Sx) (W : World) (M : List Nat) (f : Nat) (args : Array Value) (H : Hp) (A : Value → Hp → Prop) : Prop
  | mk (h : ∀ w, Sat W M H w → Calls S.P f args w fun e w' => ∃ v H', e = .returned v ∧ Sat W M H' w' ∧ A v H')
/-- A function without a body. -/
inductive SxExt (S : Sx) (W : World) (M : List Nat) (f : Nat) (args : Array Value) (H : Hp) (A : Value → Hp → Prop) : Prop
  | mk (v : Value) (h : ∀ w, Sat W M H w → (callFunc f args).run S.P w = .ok (.value v) w) (h' : A v H)
/-- Any other operation. -/
inductive SxSem (S : Sx) (W : World) (M : List Nat) (N : Nat) (o : Oper) (F : Fr) (H : Hp) (A : Value → Hp → Prop) : Prop
  | mk (h : ∀ a w (Q : Exit → Act → World → Prop), Agree N F a → Sat W M H w → o.wp S.P a w (fun a' w' => ∃ v H', a' = a.put o.dst v ∧ Sat W M H' w' ∧ A v H') Q)
/-- A value that is computed. -/
inductive SxRun (P : Program) (s : Sem Value) (A : Value → Prop) : Prop
  | mk (v : Value) (h : ∀ w, s.run P w = .ok v w) (h' : A v)
/-- A builtin that leaves memory as it is. -/
inductive SxBI (P : Program) (b : Builtin) (tys : List TypeId) (vs : List Value) (A : Value → Prop) : Prop
  | mk (v : Value) (h : ∀ ty cst w, (builtin b tys.toArray ty cst vs.toArray).run P w = .ok (.value v) w) (h' : A v)
/-- The length of what lies in memory. -/
inductive SxLenV (S : Sx) (tys : List TypeId) (v : Value) (H : Hp) (A : Nat → Prop) : Prop
  | mk (n : Nat) (h : ∀ (W : World) (M : List Nat) (w : World) (ty : TypeId), Sat W M H w → (Builtin.len_ tys.toArray ty #[v]).run S.P w = .ok (goInt n) w) (h' : A n)
inductive SxNth (cs : List Value) (j : Nat) (A : Value → Prop) : Prop
  | mk {v : Value} (h : cs[j]? = some v) (h' : A v)
inductive SxSub (cs : List Value) (off n : Nat) (A : List Value → Prop) : Prop
  | mk {vs : List Value} (hl : vs.length = n) (h : (cs.drop off).take n = vs) (h' : A vs)

def sameK : IntKind → IntKind → Bool
  | .i8, .i8 | .i16, .i16 | .i32, .i32 | .i64, .i64 | .u8, .u8 | .u16, .u16 | .u32, .u32 | .u64, .u64 => true
  | _, _ => false
theorem sameK_eq {a b : IntKind} (h : sameK a b = true) : a = b := by cases a <;> cases b <;> first | rfl | cases h
def bitI (op : BinOp) (k : IntKind) (x y : Int) : Int :=
  match op with
  | .and => k.wrap (BitVec.ofInt k.bits x &&& BitVec.ofInt k.bits y).toNat
  | .or => k.wrap (BitVec.ofInt k.bits x ||| BitVec.ofInt k.bits y).toNat
  | .xor => k.wrap (BitVec.ofInt k.bits x ^^^ BitVec.ofInt k.bits y).toNat
  | _ => k.wrap (BitVec.ofInt k.bits x &&& ~~~ BitVec.ofInt k.bits y).toNat
def strEq (a b : ByteArray) : Bool := a.toList == b.toList
def strLt (a b : ByteArray) : Bool := Op.bytesLess a.toList b.toList
def sxInt (op : BinOp) (k : IntKind) (x y : Int) (A : Value → Prop) : Prop :=
  match op with
  | .add => SxRng k (x + y) fun r => A (.int k r)
  | .sub => SxRng k (x - y) fun r => A (.int k r)
  | .mul => SxRng k (x * y) fun r => A (.int k r)
  | .quo => SxNz y (SxQ (x.tdiv y) fun q => SxRng k q fun r => A (.int k r))
  | .rem => SxNz y (SxQ (x.tmod y) fun q => A (.int k q))
  | .and => A (.int k (bitI .and k x y))
  | .or => A (.int k (bitI .or k x y))
  | .xor => A (.int k (bitI .xor k x y))
  | .andNot => A (.int k (bitI .andNot k x y))
  | .eql => A (.bool (x == y))
  | .neq => A (.bool (x != y))
  | .lss => A (.bool (decide (x < y)))
  | .leq => A (.bool (decide (x ≤ y)))
  | .gtr => A (.bool (decide (x > y)))
  | .geq => A (.bool (decide (x ≥ y)))
  | _ => False
def sxString (op : BinOp) (x y : ByteArray) (A : Value → Prop) : Prop :=
  match op with
  | .add => SxLe (x.size + y.size) 9223372036854775807 (A (.string (x ++ y)))
  | .eql => A (.bool (strEq x y))
  | .neq => A (.bool (!strEq x y))
  | .lss => A (.bool (strLt x y))
  | .leq => A (.bool (strLt x y || strEq x y))
  | .gtr => A (.bool (!(strLt x y || strEq x y)))
  | .geq => A (.bool (!strLt x y))
  | _ => False
def isShift : BinOp → Bool
  | .shl | .shr => true
  | _ => false
def sxBin (S : Sx) (op : BinOp) (t : Nat) (x y : Operand) (a b : Value) (A : Value → Prop) : Prop :=
  match a, b with
  | .int k m, .int k' n => bif isShift op then
        SxSh n fun j => match op with
          | .shl => SxQ (m * 2 ^ (min j k.bits)) fun q => SxRng k q fun r => A (.int k r)
          | .shr => SxQ (m.fdiv (2 ^ (min j k.bits))) fun q => A (.int k q)
          | _ => False
      else bif sameK k k' then sxInt op k m n A else False
  | .string m, .string n => sxString op m n A
  | a, b => SxRun S.P (do eqGuard op t x y a b; binOp op t a b) A
def sxOpt (S : Sx) (F : Fr) (x : Option Operand) (d : Int) : Option Int :=
  match x with
  | none => some d
  | some x => match ev F x with
    | some (.int _ i) => some i
    | _ => none
def nthV : List Value → Nat → Option Value
  | [], _ => none
  | v :: _, 0 => some v
  | _ :: r, n + 1 => nthV r n
def nthF : List (Nat × Nat) → Nat → Option (Nat × Nat)
  | [], _ => none
  | v :: _, 0 => some v
  | _ :: r, n + 1 => nthF r n
def isAggD : TD → Bool
  | .struct _ | .array _ _ => true
  | _ => false
inductive SxP (p : Prop) (A : Prop) : Prop
  | mk (h : p) (h' : A)
/-- The parts of a literal, laid over zeros. -/
def fillC (place : Nat → Option (Nat × Nat)) : List Value → List (Nat × List Value) → Option (List Value)
  | cs, [] => some cs
  | cs, (i, vs) :: r => match place i with
    | some (off, _) => fillC place (splice off vs cs) r
    | none => none
def fillP (place : Nat → Option (Nat × Nat)) : List Value → List (Nat × List Value) → Prop
  | _, [] => True
  | cs, (i, vs) :: r => match place i with
    | some (off, size) => (vs.length = size ∧ off + size ≤ cs.length) ∧ fillP place (splice off vs cs) r
    | none => False
def fillB (place : Nat → Option (Nat × Nat)) : List Value → List (Nat × List Value) → Bool
  | _, [] => true
  | cs, (i, vs) :: r => match place i with
    | some (off, size) => bif Nat.beq vs.length size then (bif Nat.ble (off + size) cs.length then fillB place (splice off vs cs) r else false) else false
    | none => false
theorem fillB_P {place : Nat → Option (Nat × Nat)} : ∀ {ps : List (Nat × List Value)} {cs : List Value}, fillB place cs ps = true → fillP place cs ps
  | [], cs, _ => trivial
  | (i, vs) :: r, cs, h => by
    unfold fillB at h
    unfold fillP
    split at h
    · rename_i off size hp
      cases h1 : Nat.beq vs.length size with
      | false => rw [h1] at h; cases h
      | true =>
        cases h2 : Nat.ble (off + size) cs.length with
        | false => rw [h1, h2] at h; cases h
        | true =>
          rw [h1, h2] at h
          exact ⟨⟨Nat.eq_of_beq_eq_true h1, Nat.le_of_ble_eq_true h2⟩, fillB_P h⟩
    · cases h
inductive SxFill (place : Nat → Option (Nat × Nat)) (cs : List Value) (ps : List (Nat × List Value)) (A : List Value → Prop) : Prop
  | mk (h : fillP place cs ps) {cs' : List Value} (hc : fillC place cs ps = some cs') (h' : A cs')
theorem SxFill.ok {place : Nat → Option (Nat × Nat)} {cs : List Value} {ps : List (Nat × List Value)} {A : List Value → Prop} (h : fillB place cs ps = true) {cs' : List Value} (hc : fillC place cs ps = some cs') (h' : A cs') : SxFill place cs ps A := ⟨fillB_P h, hc, h'⟩
def evParts (F : Fr) : List (Nat × Operand) → Option (List (Nat × List Value))
  | [] => some []
  | (i, x) :: r => match ev F x with
    | some v => match evParts F r with
      | some vs => some ((i, v.cells.toList) :: vs)
      | none => none
    | none => none
def placeF (S : Sx) (fs : List (Nat × Nat)) (i : Nat) : Option (Nat × Nat) :=
  match nthF fs i with
  | some (o, t) => match S.sz t with
    | some n => some (o, n)
    | none => none
  | none => none
def zerosL (z : List Value) : Nat → List Value
  | 0 => []
  | n + 1 => z ++ zerosL z n

def sxSlice (S : Sx) (t : Nat) (v : Value) (lo hi : Option Operand) (F : Fr) (H : Hp) (A : Value → Hp → Prop) : Prop :=
  match S.desc t, v with
  | some .string, .string s => match sxOpt S F lo 0, sxOpt S F hi s.size with
    | some l, some h => SxBnd l h s.size fun a b => A (.string (s.extract a b)) H
    | _, _ => False
  | some (.slice e), .slice ao n cap => match sxOpt S F lo 0, sxOpt S F hi n, S.sz e with
    | some l, some h, some k => SxBnd l h cap fun a b => ∀ ao', (a < cap → ao' = ao.map (·.add (a * k))) → (a = cap → ao' = ao) → A (.slice ao' (b - a) (cap - a)) H
    | _, _, _ => False
  | some (.array n e), .pointer (some ⟨g, off, none⟩) => match sxOpt S F lo 0, sxOpt S F hi n, S.sz e with
    | some l, some h, some k => SxBnd l h n fun a b => ∀ off', (a < n → off' = off + a * k) → A (.slice (some ⟨g, off', none⟩) (b - a) (n - a)) H
    | _, _, _ => False
  | _, _ => False
def sxConv (S : Sx) (src dst : Nat) (v : Value) (H : Hp) (A : Value → Hp → Prop) : Prop :=
  match S.desc src, S.desc dst, v with
  | some (.int _), some (.int k), .int _ n => SxRng k n fun r => A (.int k r) H
  | some .string, some .string, .string s => A (.string s) H
  | some .string, some (.slice e), .string s => match S.desc e with
    | some (.int .u8) => SxNew fun g => SxNew fun cap => s.size ≤ cap → A (.slice (some ⟨g, 0, none⟩) s.size cap) (.blk g e (tab cap fun j => .int .u8 ((s.data.toList.getD j 0).toNat : Int)) :: H)
    | _ => False
  | some (.slice e), some .string, .slice ao n _ => match S.desc e with
    | some (.int .u8) => SxStr H ao n fun l => A (.string ⟨l.toArray⟩) H
    | _ => False
  | _, _, v => SxRun S.P (convert src dst v) fun r => A r H
def sxBuiltin (S : Sx) (b : Builtin) (tys : List TypeId) (vs : List Value) (H : Hp) (A : Value → Hp → Prop) : Prop :=
  match b, tys, vs with
  | .len, t :: _, [v] => match S.desc t, v with
    | some .string, .string s => A (.int .i64 (s.size : Nat)) H
    | some (.slice _), .slice _ n _ => A (.int .i64 (n : Nat)) H
    | some (.array n _), _ => A (.int .i64 (n : Nat)) H
    | _, _ => SxLenV S tys v H fun n => A (.int .i64 (n : Nat)) H
  | .min, _, [.int k x, .int k' y] => bif sameK k k' then A (.int k (if y < x then y else x)) H else False
  | .max, _, [.int k x, .int k' y] => bif sameK k k' then A (.int k (if x < y then y else x)) H else False
  | .append, [t, u], [.slice ao n cap, .slice xo m xcap] => bif Nat.beq t u then (match S.desc t with
    | some (.slice e) => match tl S.T e with
      | some ⟨_, k, bt, z⟩ => SxP (z.cells.size = k ∧ 0 < k) (SxApp H ao n cap e k bt xo m xcap fun ao' cap' H' => A (.slice ao' (n + m) cap') H')
      | none => False
    | _ => False) else False
  | .append, [t, u], [.slice ao n cap, .string s] => match S.desc t, S.desc u with
    | some (.slice e), some .string => match tl S.T e with
      | some ⟨.int .u8, 1, 1, .int .u8 0⟩ => SxAppS H ao n cap e s fun ao' cap' H' => A (.slice ao' (n + s.size) cap') H'
      | _ => False
    | _, _ => False
  | b, tys, vs => SxBI S.P b tys vs fun v => A v H
def sxCallee (S : Sx) (W : World) (M : List Nat) (f : Value) (vs : List Value) (H : Hp) (A : Value → Hp → Prop) : Prop :=
  match f with
  | .func (.func n) first captured => bif S.fns.any (Nat.beq n) then (match first.toList, captured.toList with | [], [] => SxCall S W M n vs.toArray H A | u, v => SxCall S W M n (u ++ vs ++ v).toArray H A) else (match first.toList, captured.toList with | [], [] => SxExt S W M n vs.toArray H A | u, v => SxExt S W M n (u ++ vs ++ v).toArray H A)
  | _ => False
/-- A builtin that is about maps, or writes memory. -/
def useSem : Builtin → List Value → Bool
  | .delete, _ => true
  | .clear, _ => true
  | .copy, _ => true
  | _, _ => false
/-- What an operation asks. -/
def sxOp (S : Sx) (W : World) (M : List Nat) (N : Nat) (o : Oper) (F : Fr) (H : Hp) (A : Value → Hp → Prop) : Prop :=
  match o.op with
  | .move x | .assign x => match ev F x with
    | some v => A v H
    | none => False
  | .pick c x y => match ev F c with
    | some (.bool t) => SxIf t (match ev F x with | some v => A v H | none => False) (match ev F y with | some v => A v H | none => False)
    | _ => False
  | .binOp op t x y _ => match ev F x, ev F y with
    | some a, some b => sxBin S op t x y a b fun v => A v H
    | _, _ => False
  | .unOp op _ x => match op, ev F x with
    | .not, some (.bool b) => A (.bool !b) H
    | op, some v => SxRun S.P (Op.unary op v) fun v => A v H
    | _, none => False
  | .convert src dst x => match ev F x with
    | some v => sxConv S src dst v H A
    | none => False
  | .alloc t => match tl S.T t with
    | some ⟨_, n, _, z⟩ => bif S.rows.any (Nat.beq t) then SxP (z.cells.size = n) (SxNew fun g => A (.pointer (some ⟨g, 0, none⟩)) (.row (some ⟨g, 0, none⟩) 1 1 t n z.cells.toList :: H))
      else SxNew fun g => A (.pointer (some ⟨g, 0, none⟩)) (.blk g t z.cells.toList :: H)
    | none => False
  | .box t x => match ev F x with
    | some v => SxNew fun g => A (.pointer (some ⟨g, 0, none⟩)) (.blk g t v.cells.toList :: H)
    | none => False
  | .build t ps => match tl S.T t, evParts F ps.toList with
    | some ⟨d, _, _, z⟩, some vs => match d with
      | .struct fs => bif fs.all (fun f => (S.sz f.2).isSome) then SxFill (placeF S fs) z.cells.toList vs (fun cs => A (.agg cs.toArray) H) else False
      | .array _ e => match S.sz e with
        | some k => SxFill (fun j => some (j * k, k)) z.cells.toList vs (fun cs => A (.agg cs.toArray) H)
        | none => False
      | _ => False
    | _, _ => False
  | .buildSlice t n ps => match S.desc t, evParts F ps.toList with
    | some (.slice e), some vs => match tl S.T e with
      | some ⟨_, k, _, z⟩ => SxP (n * k ≤ 16777216 ∧ z.cells.size = k ∧ 0 < k)
          (SxFill (fun j => some (j * k, k)) (zerosL z.cells.toList n) vs (fun cs => SxNew fun g => A (.slice (some ⟨g, 0, none⟩) n n) (.row (some ⟨g, 0, none⟩) n n e k cs :: H)))
      | none => False
    | _, _ => False
  | .load t x => match tl S.T t, ev F x with
    | some ⟨d, n, _, _⟩, some (.pointer (some ⟨g, off, none⟩)) => bif isAggD d then SxLdN H g off n fun vs => A (.agg vs.toArray) H else SxLd H g off fun v => A v H
    | _, _ => False
  | .store t x y => match S.sz t, ev F x, ev F y with
    | some k, some (.pointer (some ⟨g, off, none⟩)), some v => SxP (v.cells.size = k) (SxSt H g off v.cells.toList fun H' => A undef H')
    | _, _, _ => False
  | .fieldAddr t x f => match S.desc t, ev F x with
    | some (.struct fs), some (.pointer (some ⟨g, off, none⟩)) => match placeF S fs f with
      | some (d, n) => bif Nat.blt 0 n then A (.pointer (some ⟨g, off + d, none⟩)) H else False
      | none => False
    | _, _ => False
  | .nilCheck x => match ev F x with
    | some (.pointer (some a)) => A (.pointer (some a)) H
    | some (.func (.func f) first captured) => A (.func (.func f) first captured) H
    | _ => False
  | .indexAddr t x ix => match S.desc t, ev F x, ev F ix with
    | some (.slice e), some (.slice ao n _), some (.int _ i) => match S.sz e with
      | some k => SxIA H ao n k i fun g off => A (.pointer (some ⟨g, off, none⟩)) H
      | none => False
    | some (.array n e), some (.pointer (some ⟨g, off, none⟩)), some (.int _ i) => match S.sz e with
      | some k => SxIdx i n fun j => A (.pointer (some ⟨g, off + j * k, none⟩)) H
      | none => False
    | _, _, _ => False
  | .index t x ix => match S.desc t, ev F x, ev F ix with
    | some .string, some (.string s), some (.int _ i) => SxIdx i s.size fun j => A (.int .u8 ((s.data.toList.getD j 0).toNat : Int)) H
    | some (.array n e), some (.agg cs), some (.int _ i) => match tl S.T e with
      | some ⟨d, k, _, _⟩ => SxIdx i n fun j => bif isAggD d then SxSub cs.toList (j * k) k fun vs => A (.agg vs.toArray) H else SxNth cs.toList (j * k) fun v => A v H
      | none => False
    | _, _, _ => False
  | .field t x f => match S.desc t, ev F x with
    | some (.struct fs), some (.agg cs) => match nthF fs f with
      | some (o, ft) => match tl S.T ft with
        | some ⟨d, k, _, _⟩ => bif isAggD d then SxSub cs.toList o k fun vs => A (.agg vs.toArray) H else SxNth cs.toList o fun v => A v H
        | none => False
      | none => False
    | _, _ => False
  | .extract x i => match ev F x with
    | some (.tuple vs) => match nthV vs.toList i with
      | some v => A v H
      | none => False
    | _ => False
  | .slice t x lo hi none => match ev F x with
    | some v => sxSlice S t v lo hi F H A
    | none => False
  | .makeSlice t x y => match S.desc t, ev F x, ev F y with
    | some (.slice e), some (.int .i64 l), some (.int .i64 c) => match tl S.T e with
      | some ⟨_, k, bt, z⟩ => SxBnd l c maxLen fun a b => SxP (b * bt ≤ 140737488355328 ∧ z.cells.size = k ∧ 0 < k)
          (SxNew fun g => A (.slice (some ⟨g, 0, none⟩) a b) (.row (some ⟨g, 0, none⟩) a b e k (zerosL z.cells.toList a) :: H))
      | none => False
    | _, _, _ => False
  | .makeFunc fn first captured => match evs F first.toList, evs F captured.toList with
    | some u, some v => A (.func fn u.toArray v.toArray) H
    | _, _ => False
  | .call c => match c.callee, evs F c.args.toList with
    | .builtin b, some vs => bif useSem b vs then SxSem S W M N o F H A else sxBuiltin S b c.argTypes.toList vs H A
    | .value f, some vs => match ev F f with
      | some f => sxCallee S W M f vs H A
      | none => False
    | _, _ => False
  | _ => SxSem S W M N o F H A
end Go.Proofs.Ytdififdnnpgjoaa
/- A symbolic walk: what holds of memory is kept. No program is named here. -/
namespace Go.Proofs.Ytdififdnnpgjoaa
open Go.RowKit

theorem ev_eval {N : Nat} {F : Fr} {a : Act} (h : Agree N F a) {x : Operand} {v : Value} (hx : ev F x = some v) : a.eval x = v := by
  cases x with
  | tmp t => exact h.slots t v hx
  | const c => exact Option.some.inj hx
  | global g => exact Option.some.inj hx
  | func f => exact Option.some.inj hx
theorem evs_eval {N : Nat} {F : Fr} {a : Act} (h : Agree N F a) : ∀ {xs : List Operand} {vs : List Value}, evs F xs = some vs → xs.map a.eval = vs
  | [], vs, hx => by simp only [evs, Option.some.injEq] at hx; simp [hx]
  | x :: r, vs, hx => by
    unfold evs at hx
    split at hx
    · rename_i v hv
      split at hx
      · rename_i us hu
        simp only [Option.some.injEq] at hx
        subst hx
        rw [List.map_cons, ev_eval h hv, evs_eval h hu]
      · cases hx
    · cases hx
theorem evParts_eval {N : Nat} {F : Fr} {a : Act} (h : Agree N F a) : ∀ {xs : List (Nat × Operand)} {vs : List (Nat × List Value)}, evParts F xs = some vs → xs.map (fun p => (p.1, (a.eval p.2).cells.toList)) = vs
  | [], vs, hx => by simp only [evParts, Option.some.injEq] at hx; simp [hx]
  | (i, x) :: r, vs, hx => by
    unfold evParts at hx
    split at hx
    · rename_i v hv
      split at hx
      · rename_i us hu
        simp only [Option.some.injEq] at hx
        subst hx
        rw [List.map_cons, evParts_eval h hu]
        simp [ev_eval h hv]
      · cases hx
    · cases hx
theorem Agree.put {N : Nat} {F : Fr} {a : Act} (h : Agree N F a) {d : Option Nat} (hd : dstOk N d = true) (v : Value) : Agree N (upd d v F) (a.put d v) := by
  cases d with
  | none => exact h
  | some d =>
    have hlt : d < a.tmps.size := by rw [h.size]; simpa [dstOk] using hd
    refine ⟨by simp [Act.put, h.size], h.defers, fun t u hu => ?_⟩
    simp only [upd, look] at hu
    rw [put_getD a d v t hlt]
    cases hb : Nat.beq d t with
    | true =>
      rw [hb] at hu
      have : d = t := Nat.eq_of_beq_eq_true hb
      subst this
      simp only [cond_true, Option.some.injEq] at hu
      simp [hu]
    | false =>
      rw [hb] at hu
      have : d ≠ t := fun e => by subst e; simp at hb
      rw [if_neg (Ne.symm this)]
      exact h.slots t u hu
theorem Ent.own_uses {e : Ent} {g : Nat} (h : e.own = some g) : e.uses g := by
  cases e with
  | blk b t cs => simp only [Ent.own, Option.some.injEq] at h; exact h.symm
  | rd ao cs => cases h
  | row ao n cap t k cs => exact h
  | gen x => exact x.own_uses g h
theorem Ent.uses_lt {e : Ent} {w : World} {g : Nat} (h : e.Holds w) (hu : e.uses g) : g < w.heap.size := by
  cases e with
  | blk b t cs => rw [show g = b from hu]; exact Blk.lt h
  | rd ao cs =>
    obtain ⟨h1, h2⟩ := hu
    have hl : 0 < cs.length := List.length_pos_iff.2 h1
    obtain ⟨b, off, rfl, hb, _⟩ := h.2 hl
    simp only [Option.map_some, Option.some.injEq] at h2
    exact h2 ▸ hb
  | row ao n cap t k cs =>
    cases ao with
    | none => cases hu
    | some a =>
      simp only [Ent.uses, Option.map_some, Option.some.injEq] at hu
      exact (World.ownsRow.lt h g (by simp [Value.ownBlock, hu])).2
  | gen x => exact x.uses_lt w g h hu
theorem Ent.Holds.kept {e : Ent} {w w' : World} {row : Option Nat} (h : e.Holds w) (hg : w.grownBy w' row) (hr : ∀ g, row = some g → ¬ e.uses g) : e.Holds w' := by
  cases e with
  | blk b t cs => exact Blk.grown h hg (fun hb => hr b hb.symm rfl)
  | rd ao cs =>
    refine ⟨h.1, fun hn => ?_⟩
    obtain ⟨g, off, rfl, h2, h3⟩ := h.2 hn
    refine ⟨g, off, rfl, Nat.lt_of_lt_of_le h2 hg.size, fun j hj => ?_⟩
    rw [← h3 j hj]
    refine World.cell?_of_block (w := w) (hg.block g h2 fun e => hr g e.symm ⟨List.ne_nil_of_length_pos hn, rfl⟩)
  | row ao n cap t k cs =>
    refine World.ownsRow.kept h hg ?_
    cases ao with
    | none => exact .inl rfl
    | some a =>
      right
      intro he
      exact hr a.block (by rw [← he]; rfl) rfl
  | gen x => exact x.kept w w' row h hg hr
theorem Below.toGrown {w w' : World} (h : Below w.heap.size w w') : w.grownBy w' none := ⟨h.os, h.tape, h.output, h.size, fun k hk _ => h.block k hk⟩
theorem Only.toGrown {g : Nat} {w w' : World} (h : Only g w w') : w.grownBy w' (some g) := ⟨h.os, h.tape, h.output, Nat.le_of_eq h.size.symm, fun k _ hk => h.block k fun e => hk (by rw [e])⟩
section
variable {W : World} {M : List Nat} {H : Hp} {w w' : World}
theorem Sat.grow (hs : Sat W M H w) (hb : w.grownBy w' none) : Sat W M H w' := by
  refine ⟨⟨hb.os.trans hs.touch.os, hb.tape.trans hs.touch.tape, hb.output.trans hs.touch.output, Nat.le_trans hs.touch.size hb.size, fun k hk hm => ?_⟩, fun i e hi => (hs.holds i e hi).kept hb (by simp), hs.own, hs.sep⟩
  rw [hb.block k (Nat.lt_of_lt_of_le hk hs.touch.size) (by simp)]
  exact hs.touch.block k hk hm
theorem Sat.below (hs : Sat W M H w) (hb : Below w.heap.size w w') : Sat W M H w' := hs.grow (Below.toGrown hb)
theorem Sat.cons (hs : Sat W M H w) (hb : w.grownBy w' none) {e : Ent} (he : e.Holds w') (hu : ∀ g, e.uses g → w.heap.size ≤ g) : Sat W M (e :: H) w' := by
  have h' := hs.grow hb
  refine ⟨h'.touch, fun i x hi => ?_, fun i x hi g hg => ?_, fun i j a b hij hi hj g hg => ?_⟩
  · cases i with
    | zero => simp at hi; exact hi ▸ he
    | succ i => exact h'.holds i x (by simpa using hi)
  · cases i with
    | zero =>
      simp at hi
      subst hi
      exact .inl (Nat.le_trans hs.touch.size (hu g (Ent.own_uses hg)))
    | succ i => exact hs.own i x (by simpa using hi) g hg
  · cases i with
    | zero =>
      cases j with
      | zero => exact absurd rfl hij
      | succ j =>
        simp at hi hj
        subst hi
        intro hbu
        have h1 := Ent.uses_lt (hs.holds j b hj) hbu
        have h2 := hu g (Ent.own_uses hg)
        omega
    | succ i =>
      cases j with
      | zero =>
        simp at hi hj
        subst hj
        intro hbu
        have h1 := Ent.uses_lt (hs.holds i a hi) (Ent.own_uses hg)
        have h2 := hu g hbu
        omega
      | succ j => exact hs.sep i j a b (fun e => hij (by rw [e])) (by simpa using hi) (by simpa using hj) g hg
theorem Sat.set (hs : Sat W M H w) {p : Nat} {e : Ent} (hp : H[p]? = some e) (hg : w.grownBy w' e.own) {e' : Ent} (he' : e'.Holds w') (hu : ∀ g, e'.uses g → e.own = some g ∨ w.heap.size ≤ g) : Sat W M (H.set p e') w' := by
  have hpl : p < H.length := (List.getElem?_eq_some_iff.1 hp).1
  have get : ∀ i x, (H.set p e')[i]? = some x → (i = p ∧ x = e') ∨ (i ≠ p ∧ H[i]? = some x) := by
    intro i x hi
    rw [List.getElem?_set] at hi
    by_cases h : p = i
    · subst h; simp [hpl] at hi; exact .inl ⟨rfl, hi.symm⟩
    · rw [if_neg h] at hi; exact .inr ⟨fun e => h e.symm, hi⟩
  refine ⟨⟨hg.os.trans hs.touch.os, hg.tape.trans hs.touch.tape, hg.output.trans hs.touch.output, Nat.le_trans hs.touch.size hg.size, fun k hk hm => ?_⟩, fun i x hi => ?_, fun i x hi g hxg => ?_, fun i j a b hij hi hj g hag => ?_⟩
  · rw [hg.block k (Nat.lt_of_lt_of_le hk hs.touch.size) (fun he => by
      rcases hs.own p e hp k he.symm with h | h
      · omega
      · exact hm h)]
    exact hs.touch.block k hk hm
  · rcases get i x hi with ⟨_, rfl⟩ | ⟨hne, hi'⟩
    · exact he'
    · exact (hs.holds i x hi').kept hg fun g hr => hs.sep p i e x (fun e => hne e.symm) hp hi' g hr
  · rcases get i x hi with ⟨_, rfl⟩ | ⟨hne, hi'⟩
    · rcases hu g (Ent.own_uses hxg) with h | h
      · exact hs.own p e hp g h
      · exact .inl (Nat.le_trans hs.touch.size h)
    · exact hs.own i x hi' g hxg
  · rcases get i a hi with ⟨hip, rfl⟩ | ⟨hip, hi'⟩
    · rcases get j b hj with ⟨hjp, rfl⟩ | ⟨hjp, hj'⟩
      · exact absurd (hip.trans hjp.symm) hij
      · intro hbu
        rcases hu g (Ent.own_uses hag) with h | h
        · exact hs.sep p j e b (fun e => hjp e.symm) hp hj' g h hbu
        · have := Ent.uses_lt (hs.holds j b hj') hbu
          omega
    · rcases get j b hj with ⟨hjp, rfl⟩ | ⟨hjp, hj'⟩
      · intro hbu
        rcases hu g hbu with h | h
        · exact hs.sep i p a e hip hi' hp g hag (Ent.own_uses h)
        · have := Ent.uses_lt (hs.holds i a hi') (Ent.own_uses hag)
          omega
      · exact hs.sep i j a b hij hi' hj' g hag
theorem Sat.blk (hs : Sat W M H w) (p : Nat) {g e : Nat} {cs : List Value} (hp : H[p]? = some (.blk g e cs)) : Blk w g e cs := hs.holds p _ hp
theorem Sat.rd (hs : Sat W M H w) (p : Nat) {ao : Option Addr} {cs : List Value} (hp : H[p]? = some (.rd ao cs)) : Rd w ao cs := hs.holds p _ hp
theorem Sat.row (hs : Sat W M H w) (p : Nat) {ao : Option Addr} {n cap e k : Nat} {cs : List Value} (hp : H[p]? = some (.row ao n cap e k cs)) : w.ownsRow 0 e k (.slice ao n cap) n cs := hs.holds p _ hp
/-- Some of what is known, in whatever order. -/
def pickH (H : Hp) : List Nat → Option Hp
  | [] => some []
  | i :: r => match H[i]? with
    | some e => match pickH H r with
      | some es => some (e :: es)
      | none => none
    | none => none
theorem pickH_get : ∀ {ks : List Nat} {H' : Hp}, pickH H ks = some H' → ∀ (i : Nat) (e : Ent), H'[i]? = some e → ∃ k : Nat, ks[i]? = some k ∧ H[k]? = some e
  | [], H', h, i, e, hi => by simp only [pickH, Option.some.injEq] at h; subst h; simp at hi
  | k :: r, H', h, i, e, hi => by
    unfold pickH at h
    split at h
    · rename_i x hx
      split at h
      · rename_i es hes
        simp only [Option.some.injEq] at h
        subst h
        cases i with
        | zero => simp at hi; subst hi; exact ⟨k, by simp, hx⟩
        | succ i =>
          obtain ⟨k', h1, h2⟩ := pickH_get hes i e (by simpa using hi)
          exact ⟨k', by simpa using h1, h2⟩
      · cases h
    · cases h
def nodupB : List Nat → Bool
  | [] => true
  | k :: r => !(r.any (Nat.beq k)) && nodupB r
theorem nodupB_get : ∀ {ks : List Nat}, nodupB ks = true → ∀ (i j k : Nat), i ≠ j → ks[i]? = some k → ks[j]? = some k → False
  | [], _, i, j, k, _, hi, _ => by simp at hi
  | x :: r, h, i, j, k, hij, hi, hj => by
    simp only [nodupB, Bool.and_eq_true, Bool.not_eq_true', List.any_eq_false] at h
    cases i with
    | zero =>
      cases j with
      | zero => exact hij rfl
      | succ j =>
        simp at hi hj
        subst hi
        exact h.1 x (List.mem_of_getElem? hj) (by simp)
    | succ i =>
      cases j with
      | zero =>
        simp at hi hj
        subst hj
        exact h.1 x (List.mem_of_getElem? hi) (by simp)
      | succ j => exact nodupB_get h.2 i j k (fun e => hij (by rw [e])) (by simpa using hi) (by simpa using hj)
theorem Sat.pick (hs : Sat W M H w) {ks : List Nat} {H' : Hp} (hk : pickH H ks = some H') (hn : nodupB ks = true) : Sat W M H' w := by
  refine ⟨hs.touch, fun i e hi => ?_, fun i e hi => ?_, fun i j a b hij hi hj => ?_⟩
  · obtain ⟨k, _, h⟩ := pickH_get hk i e hi
    exact hs.holds k e h
  · obtain ⟨k, _, h⟩ := pickH_get hk i e hi
    exact hs.own k e h
  · obtain ⟨k, h1, h2⟩ := pickH_get hk i a hi
    obtain ⟨l, h3, h4⟩ := pickH_get hk j b hj
    exact hs.sep k l a b (fun e => nodupB_get hn i j k hij h1 (e ▸ h3)) h2 h4
end
theorem new_grown (w : World) (o : Obj) : w.grownBy (w.alloc o) none := World.grownBy_alloc w o none
theorem drew_grown (w : World) : w.grownBy w.drew none := ⟨rfl, rfl, rfl, Nat.le_refl _, fun _ _ _ => rfl⟩
end Go.Proofs.Ytdififdnnpgjoaa
/- A symbolic walk: what it says of one operation is so: numbers, texts, addresses. No program is named here. -/
namespace Go.Proofs.Ytdififdnnpgjoaa
open Go.RowKit

theorem SxRng.i64 {x : Int} {A : Int → Prop} (h1 : -9223372036854775808 ≤ x) (h2 : x ≤ 9223372036854775807) (h : A x) : SxRng .i64 x A := ⟨by rw [IntWalk.i64_in x (by omega)]; exact h⟩
theorem SxRng.u8 {x : Int} {A : Int → Prop} (h1 : 0 ≤ x) (h2 : x < 256) (h : A x) : SxRng .u8 x A := ⟨by
  have : IntKind.u8.wrap x = x := by simp [IntKind.wrap, IntKind.signed, IntKind.bits]; omega
  rw [this]; exact h⟩
theorem SxRng.u16 {x : Int} {A : Int → Prop} (h1 : 0 ≤ x) (h2 : x < 65536) (h : A x) : SxRng .u16 x A := ⟨by
  have : IntKind.u16.wrap x = x := by simp [IntKind.wrap, IntKind.signed, IntKind.bits]; omega
  rw [this]; exact h⟩
theorem SxRng.u32 {x : Int} {A : Int → Prop} (h1 : 0 ≤ x) (h2 : x < 4294967296) (h : A x) : SxRng .u32 x A := ⟨by
  have : IntKind.u32.wrap x = x := by simp [IntKind.wrap, IntKind.signed, IntKind.bits]; omega
  rw [this]; exact h⟩
theorem SxRng.u64 {x : Int} {A : Int → Prop} (h1 : 0 ≤ x) (h2 : x < 18446744073709551616) (h : A x) : SxRng .u64 x A := ⟨by
  have : IntKind.u64.wrap x = x := by simp [IntKind.wrap, IntKind.signed, IntKind.bits]; omega
  rw [this]; exact h⟩
theorem SxRng.u8w {x : Int} {A : Int → Prop} (h : A (x % 256)) : SxRng .u8 x A := ⟨by
  have : IntKind.u8.wrap x = x % 256 := by simp [IntKind.wrap, IntKind.signed, IntKind.bits]
  rw [this]; exact h⟩
theorem SxRng.u16w {x : Int} {A : Int → Prop} (h : A (x % 65536)) : SxRng .u16 x A := ⟨by
  have : IntKind.u16.wrap x = x % 65536 := by simp [IntKind.wrap, IntKind.signed, IntKind.bits]
  rw [this]; exact h⟩
theorem SxRng.u32w {x : Int} {A : Int → Prop} (h : A (x % 4294967296)) : SxRng .u32 x A := ⟨by
  have : IntKind.u32.wrap x = x % 4294967296 := by simp [IntKind.wrap, IntKind.signed, IntKind.bits]
  rw [this]; exact h⟩
theorem SxRng.u64w {x : Int} {A : Int → Prop} (h : A (x % 18446744073709551616)) : SxRng .u64 x A := ⟨by
  have : IntKind.u64.wrap x = x % 18446744073709551616 := by simp [IntKind.wrap, IntKind.signed, IntKind.bits]
  rw [this]; exact h⟩

theorem SxQ.rem {x y : Int} {A : Int → Prop} (hx : 0 ≤ x) (hy : 0 ≤ y) (h : A (x % y)) : SxQ (x.tmod y) A := ⟨_, Int.tmod_eq_emod_of_nonneg hx, h⟩
theorem SxQ.quo {x y : Int} {A : Int → Prop} (hx : 0 ≤ x) (hy : 0 ≤ y) (h : A (x / y)) : SxQ (x.tdiv y) A := ⟨_, Int.tdiv_eq_ediv_of_nonneg hx, h⟩
theorem SxQ.shr {x e : Int} {A : Int → Prop} (d : Int) (he : e = d) (hd : 0 ≤ d) (h : A (x / d)) : SxQ (x.fdiv e) A := ⟨_, by rw [he]; exact Int.fdiv_eq_ediv_of_nonneg x hd, h⟩
theorem SxQ.shl {x e : Int} {A : Int → Prop} (d : Int) (he : e = d) (h : A (x * d)) : SxQ (x * e) A := ⟨_, by rw [he], h⟩
theorem SxSh.lit {n : Nat} {A : Nat → Prop} (h : A n) : SxSh (n : Int) A := ⟨n, rfl, h⟩
theorem SxSh.ofn {n : Nat} {A : Nat → Prop} (h : A n) : SxSh (Int.ofNat n) A := ⟨n, rfl, h⟩
def OpK (W : World) (M : List Nat) (o : Oper) (a : Act) (A : Value → Hp → Prop) : Act → World → Prop := fun a' w' => ∃ v H', a' = a.put o.dst v ∧ Sat W M H' w' ∧ A v H'
section
variable {P : Program} {W : World} {M : List Nat} {o : Oper} {a : Act} {w w' : World} {A : Value → Hp → Prop} {H H' : Hp} {Q : Exit → Act → World → Prop}
theorem op_value {v : Value} (hr : (execOp a.eval o).run P w = .ok (.value v) w') (hs : Sat W M H' w') (h : A v H') : o.wp P a w (OpK W M o a A) Q := by
  unfold Oper.wp; rw [hr]; exact ⟨v, H', rfl, hs, h⟩
theorem op_skip (hr : (execOp a.eval o).run P w = .ok .skip w') (hs : Sat W M H' w') (h : A undef H') : o.wp P a w (OpK W M o a A) Q := by
  unfold Oper.wp; rw [hr]; exact ⟨undef, H', rfl, hs, h⟩
end

theorem sxInt_run {P : Program} {op : BinOp} {k : IntKind} {m n : Int} {A : Value → Prop} (hsh : isShift op = false) (t : TypeId) (x y : Operand) (h : sxInt op k m n A) :
    ∃ v, A v ∧ ∀ w, (do eqGuard op t x y (.int k m) (.int k n); binOp op t (.int k m) (.int k n)).run P w = .ok v w := by
  cases op <;> simp only [isShift, Bool.true_eq_false] at hsh <;> simp only [sxInt] at h
  case add => cases h with | mk h => exact ⟨_, h, fun w => by simp [eqGuard, binOp, Op.intArith]⟩
  case sub => cases h with | mk h => exact ⟨_, h, fun w => by simp [eqGuard, binOp, Op.intArith]⟩
  case mul => cases h with | mk h => exact ⟨_, h, fun w => by simp [eqGuard, binOp, Op.intArith]⟩
  case quo => cases h with | mk h0 h => cases h with | mk q hq h => subst hq; cases h with | mk h => exact ⟨_, h, fun w => by simp [eqGuard, binOp, Op.intDiv, h0]⟩
  case rem => cases h with | mk h0 h => cases h with | mk q hq h => subst hq; exact ⟨_, h, fun w => by simp [eqGuard, binOp, Op.intDiv, h0]⟩
  case and => exact ⟨_, h, fun w => by simp [eqGuard, binOp, Op.intBits, bitI]⟩
  case or => exact ⟨_, h, fun w => by simp [eqGuard, binOp, Op.intBits, bitI]⟩
  case xor => exact ⟨_, h, fun w => by simp [eqGuard, binOp, Op.intBits, bitI]⟩
  case andNot => exact ⟨_, h, fun w => by simp [eqGuard, binOp, Op.intBits, bitI]⟩
  case eql => exact ⟨_, h, fun w => by simp [eqGuard, binOp, Op.intCmp]⟩
  case neq => exact ⟨_, h, fun w => by simp [eqGuard, binOp, Op.intCmp]⟩
  case lss => exact ⟨_, h, fun w => by simp [eqGuard, binOp, Op.intCmp]⟩
  case leq => exact ⟨_, h, fun w => by simp [eqGuard, binOp, Op.intCmp]⟩
  case gtr => exact ⟨_, h, fun w => by simp [eqGuard, binOp, Op.intCmp]⟩
  case geq => exact ⟨_, h, fun w => by simp [eqGuard, binOp, Op.intCmp]⟩
theorem sxString_run {P : Program} {op : BinOp} {m n : ByteArray} {A : Value → Prop} (t : TypeId) (x y : Operand) (h : sxString op m n A) :
    ∃ v, A v ∧ ∀ w, (do eqGuard op t x y (.string m) (.string n); binOp op t (.string m) (.string n)).run P w = .ok v w := by
  cases op <;> simp only [sxString] at h
  case add =>
    cases h with
    | mk h0 h =>
      have hn : ¬ (((m.size + n.size : Nat) : Int) > IntKind.i64.max) := by
        have : IntKind.i64.max = 9223372036854775807 := by decide
        rw [this]; omega
      exact ⟨_, h, fun w => by simp only [eqGuard, binOp, Op.stringOp]; rw [if_neg hn]; simp⟩
  case eql => exact ⟨_, h, fun w => by simp [eqGuard, binOp, Op.stringOp, strEq]⟩
  case neq => exact ⟨_, h, fun w => by simp [eqGuard, binOp, Op.stringOp, strEq]⟩
  case lss => exact ⟨_, h, fun w => by simp [eqGuard, binOp, Op.stringOp, strLt]⟩
  case leq => exact ⟨_, h, fun w => by simp [eqGuard, binOp, Op.stringOp, strLt, strEq]⟩
  case gtr => exact ⟨_, h, fun w => by simp [eqGuard, binOp, Op.stringOp, strLt, strEq]⟩
  case geq => exact ⟨_, h, fun w => by simp [eqGuard, binOp, Op.stringOp, strLt]⟩
theorem sxBin_run {S : Sx} {op : BinOp} {t : TypeId} {x y : Operand} {u v : Value} {A : Value → Prop} (h : sxBin S op t x y u v A) :
    ∃ r, A r ∧ ∀ w, (do eqGuard op t x y u v; binOp op t u v).run S.P w = .ok r w := by
  unfold sxBin at h
  split at h
  · rename_i k m k' n
    cases hsh : isShift op with
    | true =>
      rw [hsh] at h
      simp only [cond_true] at h
      cases h with
      | mk j hj h =>
        subst hj
        have hj : ¬ ((j : Int) < 0) := by omega
        cases op <;> simp only [isShift, Bool.false_eq_true] at hsh
        · cases h with | mk q hq h => subst hq; cases h with | mk h => exact ⟨_, h, fun w => by simp [eqGuard, binOp, Op.shift, hj]⟩
        · cases h with | mk q hq h => subst hq; exact ⟨_, h, fun w => by simp [eqGuard, binOp, Op.shift, hj]⟩
    | false =>
      rw [hsh] at h
      simp only [cond_false] at h
      cases hk : sameK k k' with
      | true =>
        rw [hk] at h
        obtain rfl := sameK_eq hk
        exact sxInt_run hsh t x y h
      | false => rw [hk] at h; exact h.elim
  · exact sxString_run t x y h
  · cases h with | mk r hr h => exact ⟨r, h, hr⟩
theorem nthV_eq : ∀ (l : List Value) (n : Nat), nthV l n = l[n]?
  | [], n => by simp [nthV]
  | v :: r, 0 => by simp [nthV]
  | v :: r, n + 1 => by simp [nthV, nthV_eq r n]
theorem nthF_eq : ∀ (l : List (Nat × Nat)) (n : Nat), nthF l n = l[n]?
  | [], n => by simp [nthF]
  | v :: r, 0 => by simp [nthF]
  | v :: r, n + 1 => by simp [nthF, nthF_eq r n]
section
variable {S : Sx}
theorem Sx.und0 {t : Nat} {d : TD} (h : S.desc t = some d) : ∃ x, S.P.underlying t = some x ∧ tdOf x = d := by
  unfold Sx.desc at h
  split at h
  · rename_i d0 n0 b0 z0 hi
    obtain ⟨x, h1, h2⟩ := Option.map_eq_some_iff.1 (S.ty t ⟨d0, n0, b0, z0⟩ hi).1
    exact ⟨x, h1, h2.trans (Option.some.inj h)⟩
  · cases h
theorem tdOf_bool {x : TypeDesc} (h : tdOf x = .bool) : x = .bool := by cases x <;> first | rfl | cases h
theorem tdOf_int {x : TypeDesc} {k : IntKind} (h : tdOf x = .int k) : x = .int k := by cases x <;> first | (simp only [tdOf, TD.int.injEq] at h; rw [h]) | cases h
theorem tdOf_string {x : TypeDesc} (h : tdOf x = .string) : x = .string := by cases x <;> first | rfl | cases h
theorem tdOf_slice {x : TypeDesc} {e : Nat} (h : tdOf x = .slice e) : x = .slice e := by cases x <;> first | (simp only [tdOf, TD.slice.injEq] at h; rw [h]) | cases h
theorem tdOf_array {x : TypeDesc} {n e : Nat} (h : tdOf x = .array n e) : x = .array n e := by cases x <;> first | (simp only [tdOf, TD.array.injEq] at h; rw [h.1, h.2]) | cases h
theorem tdOf_struct {x : TypeDesc} {fs : List (Nat × Nat)} (h : tdOf x = .struct fs) : ∃ l, x = .struct l ∧ (l.toList.map fun (f : Field) => (f.offset, f.type)) = fs := by
  cases x <;> first | (simp only [tdOf, TD.struct.injEq] at h; exact ⟨_, rfl, h⟩) | cases h
theorem tdOf_agg {x : TypeDesc} : isAggD (tdOf x) = (match x with | .struct _ | .array _ _ => true | _ => false) := by cases x <;> rfl
theorem Sx.uint {t : Nat} {k : IntKind} (h : S.desc t = some (.int k)) : S.P.underlying t = some (.int k) := by obtain ⟨x, h1, h2⟩ := Sx.und0 h; rw [h1, tdOf_int h2]
theorem Sx.ustr {t : Nat} (h : S.desc t = some .string) : S.P.underlying t = some .string := by obtain ⟨x, h1, h2⟩ := Sx.und0 h; rw [h1, tdOf_string h2]
theorem Sx.usl {t e : Nat} (h : S.desc t = some (.slice e)) : S.P.underlying t = some (.slice e) := by obtain ⟨x, h1, h2⟩ := Sx.und0 h; rw [h1, tdOf_slice h2]
theorem Sx.uarr {t n e : Nat} (h : S.desc t = some (.array n e)) : S.P.underlying t = some (.array n e) := by obtain ⟨x, h1, h2⟩ := Sx.und0 h; rw [h1, tdOf_array h2]
theorem Sx.ustruct {t : Nat} {fs : List (Nat × Nat)} (h : S.desc t = some (.struct fs)) : ∃ l, S.P.underlying t = some (.struct l) ∧ (l.toList.map fun (f : Field) => (f.offset, f.type)) = fs := by
  obtain ⟨x, h1, h2⟩ := Sx.und0 h
  obtain ⟨l, h3, h4⟩ := tdOf_struct h2
  exact ⟨l, by rw [h1, h3], h4⟩
theorem Sx.descOf {t : Nat} {i : TInf} (h : tl S.T t = some i) : S.desc t = some i.d := by unfold Sx.desc; rw [h]
theorem Sx.info {t : Nat} {i : TInf} (h : tl S.T t = some i) : ∃ x, S.P.info? t = some x ∧ x.zero = some i.zero ∧ x.size = i.size ∧ x.bytes = i.bytes := by
  obtain ⟨x, hx, he⟩ := Option.map_eq_some_iff.1 (S.ty t i h).2
  simp only [Prod.mk.injEq] at he
  exact ⟨x, hx, he.1, he.2.1, he.2.2⟩
theorem Sx.siz {t n : Nat} (h : S.sz t = some n) : ∃ x, S.P.info? t = some x ∧ x.size = n := by
  unfold Sx.sz at h
  split at h
  · rename_i d0 n0 b0 z0 hi
    obtain ⟨x, h1, _, h2, _⟩ := Sx.info hi
    exact ⟨x, h1, by rw [h2]; exact Option.some.inj h⟩
  · cases h
theorem run_int {t : Nat} {k : IntKind} (h : S.desc t = some (.int k)) (w : World) : (underlying t).run S.P w = .ok (.int k) w := run_underlying (Sx.uint h) w
theorem run_str {t : Nat} (h : S.desc t = some .string) (w : World) : (underlying t).run S.P w = .ok .string w := run_underlying (Sx.ustr h) w
theorem run_sl {t e : Nat} (h : S.desc t = some (.slice e)) (w : World) : (underlying t).run S.P w = .ok (.slice e) w := run_underlying (Sx.usl h) w
theorem run_arr {t n e : Nat} (h : S.desc t = some (.array n e)) (w : World) : (underlying t).run S.P w = .ok (.array n e) w := run_underlying (Sx.uarr h) w
theorem run_size {t n : Nat} (h : S.sz t = some n) (w : World) : (sizeOf t).run S.P w = .ok n w := by
  obtain ⟨x, h1, h2⟩ := Sx.siz h
  simp [sizeOf, typeInfo, h1, h2]
theorem run_zero {t : Nat} {i : TInf} (h : tl S.T t = some i) (w : World) : (zeroValue t).run S.P w = .ok i.zero w := by
  obtain ⟨x, h1, h2, _⟩ := Sx.info h
  simp [zeroValue, typeInfo, h1, h2]
theorem run_size' {t : Nat} {i : TInf} (h : tl S.T t = some i) (w : World) : (sizeOf t).run S.P w = .ok i.size w := by
  obtain ⟨x, h1, _, h2, _⟩ := Sx.info h
  simp [sizeOf, typeInfo, h1, h2]
theorem run_agg {t : Nat} {i : TInf} (h : tl S.T t = some i) (w : World) : (isAgg t).run S.P w = .ok (isAggD i.d) w := by
  obtain ⟨x, h1, h2⟩ := Sx.und0 (Sx.descOf h)
  unfold isAgg
  rw [Sem.run_bind, run_underlying h1 w, ← h2]
  cases x <;> simp [isAggD, tdOf]
end
theorem sxOpt_get {S : Sx} {N : Nat} {F : Fr} {a : Act} (ha : Agree N F a) {x : Option Operand} {d i : Int} (h : sxOpt S F x d = some i) :
    (x = none ∧ i = d) ∨ ∃ k, x.map a.eval = some (.int k i) := by
  unfold sxOpt at h
  cases x with
  | none => exact .inl ⟨rfl, (Option.some.inj h).symm⟩
  | some x =>
    right
    simp only at h
    split at h
    · rename_i k j hv
      obtain rfl := Option.some.inj h
      exact ⟨k, by simp [ev_eval ha hv]⟩
    · cases h
theorem run_sliceBounds {P : Program} (b : Bool) (len cap : Nat) (lo hi : Option Value) (l h : Nat) (hl : (lo = none ∧ l = 0) ∨ ∃ k, lo = some (.int k l)) (hh : (hi = none ∧ h = len) ∨ ∃ k, hi = some (.int k h)) (h1 : l ≤ h) (h2 : h ≤ cap) (w : World) :
    (Instr.sliceBounds b len cap lo hi none).run P w = .ok (l, h, cap) w := by
  rcases hl with ⟨rfl, rfl⟩ | ⟨k, rfl⟩ <;> rcases hh with ⟨rfl, rfl⟩ | ⟨k', rfl⟩ <;> simp [Instr.sliceBounds, Instr.sliceBound, asIntOf, h1, h2]
theorem opt_nat {x : Option Operand} {a : Act} {d : Nat} {i : Int} {n : Nat} (h : (x = none ∧ i = (d : Int)) ∨ ∃ k, x.map a.eval = some (.int k i)) (hi : i = (n : Int)) : (x.map a.eval = none ∧ n = d) ∨ ∃ k, x.map a.eval = some (.int k (n : Int)) := by
  subst hi
  rcases h with ⟨rfl, h⟩ | h
  · exact .inl ⟨rfl, by omega⟩
  · exact .inr h
end Go.Proofs.Ytdififdnnpgjoaa
/- A symbolic walk: what it says of memory is so: loads, stores, new blocks, rows that grow. No program is named here. -/
namespace Go.Proofs.Ytdififdnnpgjoaa
open Go.RowKit

theorem SxLd.get {W : World} {M : List Nat} {H : Hp} {w : World} {g off : Nat} {A : Value → Prop} (h : SxLd H g off A) (hs : Sat W M H w) : ∃ v, A v ∧ w.cell? ⟨g, off, none⟩ = some v := by
  cases h with
  | blk p hp hv h => exact ⟨_, h, by rw [(hs.blk p hp).cell, hv]⟩
  | rd p hp ha hj hv h =>
    rename_i j v
    have hr := hs.rd p hp
    have hjl : j < _ := (List.getElem?_eq_some_iff.1 hv).1
    obtain ⟨g', o', he, _, h3⟩ := hr.2 (by omega)
    rw [ha] at he
    simp only [Option.some.injEq, Addr.mk.injEq, and_true] at he
    obtain ⟨rfl, rfl⟩ := he
    exact ⟨v, h, by rw [hj, h3 j hjl, hv]⟩
  | row p hp ha hj hv h =>
    subst ha
    subst hj
    have hr := hs.row p hp
    have hjl := (List.getElem?_eq_some_iff.1 hv).1
    refine ⟨_, h, ?_⟩
    have := hr.1
    rw [Nat.zero_add, World.ownsRow.cellAt hr _ (by omega), hv]
theorem SxLdN.get {W : World} {M : List Nat} {H : Hp} {w : World} {g off n : Nat} {A : List Value → Prop} (h : SxLdN H g off n A) (hs : Sat W M H w) :
    ∃ vs, A vs ∧ vs.length = n ∧ ∀ j v, vs[j]? = some v → w.cell? ⟨g, off + j, none⟩ = some v := by
  have sub : ∀ {cs vs : List Value} {o j : Nat} {v : Value}, (cs.drop o).take n = vs → vs[j]? = some v → cs[o + j]? = some v := by
    intro cs vs o j v hv hj
    subst hv
    rw [List.getElem?_take] at hj
    split at hj
    · rw [List.getElem?_drop] at hj; exact hj
    · cases hj
  cases h with
  | blk p hp hl hv h => exact ⟨_, h, hl, fun j v hj => by rw [(hs.blk p hp).cell]; exact sub hv hj⟩
  | rd p hp ha hj hl hv h =>
    rename_i o i
    refine ⟨_, h, hl, fun j v hjv => ?_⟩
    have hc := sub hv hjv
    have hr := hs.rd p hp
    have hjl := (List.getElem?_eq_some_iff.1 hc).1
    obtain ⟨g', o', he, _, h3⟩ := hr.2 (by omega)
    rw [ha] at he
    simp only [Option.some.injEq, Addr.mk.injEq, and_true] at he
    obtain ⟨rfl, rfl⟩ := he
    rw [hj, Nat.add_assoc, h3 _ hjl, hc]
  | row p hp ha hj hl hv h =>
    subst ha
    refine ⟨_, h, hl, fun j v hjv => ?_⟩
    have hc := sub hv hjv
    have hr := hs.row p hp
    have hjl := (List.getElem?_eq_some_iff.1 hc).1
    have h1 := hr.1
    rw [hj, Nat.zero_add, World.ownsRow.cellAt hr _ (by omega), hc]
theorem run_loadVar_one {P : Program} {t : TypeId} {ad : Addr} {v : Value} {w : World} (hagg : (isAgg t).run P w = .ok false w) (hc : w.cell? ad = some v) : (loadVar t ad).run P w = .ok v w := by
  simp [loadVar, Sem.run_bind, hagg, run_load, hc]
theorem run_loadVar_many {P : Program} {t : TypeId} {g off n : Nat} {vs : List Value} {w : World} (hagg : (isAgg t).run P w = .ok true w) (hsz : (sizeOf t).run P w = .ok n w) (hl : vs.length = n)
    (hc : ∀ j v, vs[j]? = some v → w.cell? ⟨g, off + j, none⟩ = some v) : (loadVar t ⟨g, off, none⟩).run P w = .ok (.agg vs.toArray) w := by
  have h := run_loadCells_list (P := P) w ⟨g, off, none⟩ vs (fun j v hv => by rw [Addr.add_lit]; exact hc j v hv)
  rw [hl] at h
  simp [loadVar, Sem.run_bind, hagg, hsz, h]
theorem splice_step (cs : List Value) (k : Nat) (v : Value) (rest : List Value) (h : k + (v :: rest).length ≤ cs.length) : splice (k + 1) rest (cs.set k v) = splice k (v :: rest) cs := by
  have := put_step cs k v rest h
  unfold splice
  exact this
theorem run_storeCells_raw {P : Program} (g o e lo hi : Nat) : ∀ (vs : List Value) (i : Nat) (cur : Array Value) (w : World), w.heap[g]? = some (.cells cur e (lo, hi)) → (hi ≤ lo ∨ cur.size ≤ lo) → o + i + vs.length ≤ cur.size → (∀ v ∈ vs, v.oneCell' = true) →
    ∃ w' cur', (storeCells ⟨g, o, none⟩ vs i).run P w = .ok () w' ∧ w'.heap[g]? = some (.cells cur' e (lo, hi)) ∧ cur'.toList = splice (o + i) vs cur.toList ∧ Only g w w'
  | [], i, cur, w, hb, _, _, _ => ⟨w, cur, rfl, hb, by simp [splice], Only.refl⟩
  | v :: rest, i, cur, w, hb, hf, hl, h1 => by
    have hi' : o + i < cur.size := by simp at hl; omega
    have hcell : w.cell? ⟨g, o + i, none⟩ = some cur[o + i] := by simp [World.cell?, hb, hi']
    have hfro : w.frozen? ⟨g, o + i, none⟩ = false := by
      simp only [World.frozen?, hb, Bool.and_eq_false_iff, decide_eq_false_iff_not]
      omega
    have hst : (store ((⟨g, o, none⟩ : Addr).add i) v).run P w = .ok () (w.setCell ⟨g, o + i, none⟩ v) := by
      rw [Addr.add_lit, run_store P w _ v _ (h1 v (by simp)), hcell]
      simp [hfro]
    have hb2 : (w.setCell ⟨g, o + i, none⟩ v).heap[g]? = some (.cells (cur.setIfInBounds (o + i) v) e (lo, hi)) := by simp [World.setCell, Array.getElem?_modify, hb]
    obtain ⟨w', cur', hr, hb', hc', ho⟩ := run_storeCells_raw (P := P) g o e lo hi rest (i + 1) (cur.setIfInBounds (o + i) v) (w.setCell ⟨g, o + i, none⟩ v) hb2 (by simpa using hf) (by simp at hl ⊢; omega) (fun x hx => h1 x (by simp [hx]))
    refine ⟨w', cur', ?_, hb', ?_, (Only.setCell _ _).trans ho⟩
    · simp only [storeCells, Sem.run_bind, hst, Result.andThen_ok, hr]
    · rw [hc', Array.toList_setIfInBounds]
      have := splice_step cur.toList (o + i) v rest (by simp at hl ⊢; omega)
      rw [← this, Nat.add_assoc]
theorem splice_length (off : Nat) (vs cs : List Value) (h : off + vs.length ≤ cs.length) : (splice off vs cs).length = cs.length := by simp [splice]; omega
theorem splice_take (off : Nat) (vs cs : List Value) (m : Nat) (h : off + vs.length ≤ m) (hm : m ≤ cs.length) : (splice off vs cs).take m = splice off vs (cs.take m) := by
  unfold splice
  rw [List.append_assoc, List.take_append, List.append_assoc, List.length_take, List.take_append, Nat.min_eq_left (by omega), List.take_take, Nat.min_eq_right (by omega), List.take_of_length_le (by omega : vs.length ≤ m - off)]
  rw [List.take_take, Nat.min_eq_left (by omega)]
  congr 2
  rw [List.drop_take, Nat.sub_sub]
theorem SxSt.get {P : Program} {W : World} {M : List Nat} {H : Hp} {w : World} {g off : Nat} {vs : List Value} {A : Hp → Prop} (h : SxSt H g off vs A) (hs : Sat W M H w) :
    ∃ w' H', (storeCells ⟨g, off, none⟩ vs 0).run P w = .ok () w' ∧ Sat W M H' w' ∧ A H' := by
  cases h with
  | blk p hp hl h1 hc h =>
    replace hl := Nat.le_of_ble_eq_true hl
    replace h1 := allOne_mem h1
    obtain ⟨cur, lo, hi, hb, hcur, hf⟩ := hs.blk p hp
    subst hcur
    obtain ⟨w', cur', hr, hb', hc', ho⟩ := run_storeCells_raw (P := P) g off _ lo hi vs 0 cur w hb (by simpa using hf) (by simpa using hl) h1
    rename_i e' cs'
    have hh : (Ent.blk g e' cs').Holds w' := by
      refine ⟨cur', lo, hi, hb', ?_, ?_⟩
      · rw [hc', Nat.add_zero, hc]
      · rw [← hc, splice_length _ _ _ hl]; exact hf
    refine ⟨w', _, hr, hs.set hp (Only.toGrown ho) hh (fun x hx => .inl ?_), h⟩
    simp only [Ent.uses] at hx
    simp [Ent.own, hx]
  | row p hp ha hj hl h1 hc h =>
    replace h1 := allOne_mem h1
    subst ha
    subst hj
    rename_i n cap e k cs j cs'
    have hr := hs.row p hp
    rcases hr.2 with ⟨hv, _⟩ | ⟨g', cap', cur, hv, hbg, hh, hnc, hcm, hcs, htake⟩
    · simp at hv
    · simp only [Value.slice.injEq, Option.some.injEq, Addr.mk.injEq, and_true, true_and] at hv
      obtain ⟨rfl, rfl⟩ := hv
      have hlen : cs.length = n * k := hr.1
      have hnk : n * k ≤ cap * k := Nat.mul_le_mul_right _ hnc
      have hrest : j + vs.length ≤ cur.size := by omega
      obtain ⟨w', cur', hr2, hb', hc', ho⟩ := run_storeCells_raw (P := P) g j e 0 0 vs 0 cur w hh (.inl (Nat.le_refl _)) (by simpa using hrest) h1
      have hh' : (Ent.row (some ⟨g, 0, none⟩) n cap e k cs').Holds w' := by
        refine ⟨?_, .inr ⟨g, cap, cur', rfl, Nat.zero_le _, hb', hnc, hcm, ?_, ?_⟩⟩
        · rw [← hc, splice_length _ _ _ hl, hlen]
        · rw [← hcs, ← Array.length_toList, hc', splice_length _ _ _ (by simpa using hrest), Array.length_toList]
        · rw [hc', Nat.add_zero, splice_take _ _ _ _ (by omega) (by simp; omega), htake, hc]
      refine ⟨w', _, by rw [Nat.zero_add]; exact hr2, hs.set hp (Only.toGrown ho) hh' (fun x hx => .inl ?_), h⟩
      simpa [Ent.uses, Ent.own] using hx
theorem run_storeVar_of {P : Program} {t : TypeId} {v : Value} {ad : Addr} {w w' : World} {k : Nat} (hsz : (sizeOf t).run P w = .ok k w) (hv : v.cells.size = k) (h : (storeCells ad v.cells.toList 0).run P w = .ok () w') : (storeVar t ad v).run P w = .ok () w' := by
  simp [storeVar, hsz, hv, h]
theorem SxStr.get {P : Program} {W : World} {M : List Nat} {H : Hp} {w : World} {ao : Option Addr} {n cap : Nat} {A : List UInt8 → Prop} (h : SxStr H ao n A) (hs : Sat W M H w) (src dst e : TypeId) (h1 : P.underlying src = some (.slice e)) (h2 : P.underlying e = some (.int .u8)) (h3 : P.underlying dst = some .string) :
    ∃ l, A l ∧ (convert src dst (.slice ao n cap)).run P w = .ok (.string ⟨l.toArray⟩) w := by
  have key : ∀ (l : List UInt8), l.length = n → (0 < n → ∃ g o, ao = some ⟨g, o, none⟩ ∧ ∀ j, j < n → w.cell? ⟨g, o + j, none⟩ = (l.map fun b => Value.int .u8 (b.toNat : Int))[j]?) → (convert src dst (.slice ao n cap)).run P w = .ok (.string ⟨l.toArray⟩) w := by
    intro l hl hh
    cases ao with
    | none =>
      have : n = 0 := by
        rcases Nat.eq_zero_or_pos n with h | h
        · exact h
        · obtain ⟨g, o, h, _⟩ := hh h; cases h
      subst this
      have : l = [] := List.eq_nil_of_length_eq_zero hl
      subst this
      rw [run_convert_bytes_string w src dst e _ 0 cap h1 h2 h3]
      simp [Conv.bytesToString]
      rfl
    | some ad =>
      subst hl
      refine run_convert_bytes_back w src dst e ad cap l h1 h2 h3 fun j hj => ?_
      obtain ⟨g, o, he, hc⟩ := hh (by omega)
      obtain rfl := Option.some.inj he
      rw [Addr.add_lit, hc j hj]
      simp [hj]
  cases h with
  | rd p hp l hn hl h =>
    refine ⟨l, h, key l hn fun h0 => ?_⟩
    have hr := hs.rd p hp
    rename_i cs
    have hlen : n ≤ cs.length := by
      have := congrArg List.length hl
      simp at this
      omega
    obtain ⟨g, o, he, _, hc⟩ := hr.2 (by omega)
    refine ⟨g, o, he, fun j hj => ?_⟩
    rw [hc j (by omega), ← hl, List.getElem?_take, if_pos hj]
  | blk p ha hp l hn hl h =>
    refine ⟨l, h, key l hn fun h0 => ?_⟩
    rename_i g o e' cs
    refine ⟨g, o, ha, fun j hj => ?_⟩
    rw [(hs.blk p hp).cell, ← hl, List.getElem?_take, if_pos hj, List.getElem?_drop]
  | row p hp l hn hl h =>
    refine ⟨l, h, key l hn fun h0 => ?_⟩
    rename_i m cap' e' cs
    have hr := hs.row p hp
    have hlen : n ≤ cs.length := by
      have := congrArg List.length hl
      simp at this
      omega
    have h1 := hr.1
    rcases hr.2 with ⟨hv, h0⟩ | ⟨g, cap2, cur, hv, _⟩
    · simp [h0] at h1; subst h1; simp at hlen; omega
    · simp only [Value.slice.injEq] at hv
      refine ⟨g, 0, hv.1, fun j hj => ?_⟩
      have hr2 := hr
      rw [hv.1] at hr2
      rw [Nat.zero_add, World.ownsRow.cellAt hr2 j (by omega), ← hl, List.getElem?_take, if_pos hj]
theorem run_append_nothing {P : Program} {w : World} {t ty e : TypeId} {i : TypeInfo} {z : Value} {n k cap xcap : Nat} {ao : Option Addr} {xs : List Value} (ht : P.underlying t = some (.slice e)) (hi : P.info? e = some i) (hz : i.zero = some z) (hown : w.ownsRow 0 e k (.slice ao n cap) n xs) :
    (Builtin.append_ #[t, t] ty #[.slice ao n cap, .slice none 0 xcap]).run P w = .ok (.slice ao n cap) w := by
  have hc : n ≤ cap := by
    rcases hown.2 with ⟨h, rfl⟩ | ⟨g, cap', cur, h, _, _, hc, _⟩
    · omega
    · simp only [Value.slice.injEq] at h; omega
  simp [Builtin.append_, run_underlying ht, sizeOf, typeInfo, zeroValue, hi, hz, Builtin.lenOf, hc, Builtin.firstCells]
  cases ao <;> simp [storeCells]
theorem SxApp.get {S : Sx} {W : World} {M : List Nat} {H : Hp} {w : World} {ao xo : Option Addr} {n cap e m xcap : Nat} {i : TInf} {A : Option Addr → Nat → Hp → Prop} (h : SxApp H ao n cap e i.size i.bytes xo m xcap A) (hs : Sat W M H w)
    (t ty : TypeId) (ht : S.P.underlying t = some (.slice e)) (hi : tl S.T e = some i) (hz : i.zero.cells.size = i.size) (hk : 0 < i.size) :
    ∃ ao' cap' H' w', A ao' cap' H' ∧ (Builtin.append_ #[t, t] ty #[.slice ao n cap, .slice xo m xcap]).run S.P w = .ok (.slice ao' (n + m) cap') w' ∧ Sat W M H' w' := by
  obtain ⟨x, hx0, hx1, hx2, hx3⟩ := Sx.info hi
  have main : ∀ (p : Nat) (cs vs cs' : List Value) (_hp : H[p]? = some (.row ao n cap e i.size cs)) (_hm : vs.length = m * i.size) (_h1 : ∀ v ∈ vs, v.oneCell' = true) (_h63 : n + m ≤ maxLen) (_hb : (n + m) * i.bytes ≤ 140737488355328) (_hc : cs ++ vs = cs') (_h : ∀ ao' cap', A ao' cap' (H.set p (.row ao' (n + m) cap' e i.size cs'))) (ad : Addr), xo = some ad → (∀ j u, vs[j]? = some u → w.cell? (ad.add j) = some u) → ∃ ao' cap' H' w', A ao' cap' H' ∧ (Builtin.append_ #[t, t] ty #[.slice ao n cap, .slice xo m xcap]).run S.P w = .ok (.slice ao' (n + m) cap') w' ∧ Sat W M H' w' := by
    rintro p cs vs cs' hp hm h1 h63 hb hc hA ad rfl hnews
    have hr := hs.row p hp
    obtain ⟨v', w', hrun, hown, hgr, _, hat⟩ := run_append_own_at (P := S.P) w 0 t ty e x i.zero i.size i.bytes ht hx0 hx1 hx2 hx3 hz hk _ n cs hr ad m xcap vs hm hnews h1 h63 hb (Nat.zero_le _)
    have form : ∃ ao' cap', v' = .slice ao' (n + m) cap' := by
      rcases hown.2 with ⟨rfl, h0⟩ | ⟨g, c, cur, rfl, _⟩
      · exact ⟨none, 0, by rw [h0]⟩
      · exact ⟨_, _, rfl⟩
    obtain ⟨ao', cap', rfl⟩ := form
    refine ⟨ao', cap', _, w', hA ao' cap', hrun, hs.set hp ?_ (by rw [← hc]; exact hown) ?_⟩
    · have : (Value.slice ao n cap).ownBlock = (Ent.row ao n cap e i.size cs).own := by cases ao <;> rfl
      rw [← this]; exact hgr
    · intro g hg
      have h1 : (Value.slice ao' (n + m) cap').ownBlock = some g := by
        cases ao' with
        | none => cases hg
        | some a => simpa [Ent.uses, Value.ownBlock] using hg
      rcases hat with h2 | h2
      · left
        rw [h1] at h2
        cases ao with
        | none => cases h2
        | some a => simpa [Ent.own, Value.ownBlock] using h2.symm
      · right
        rw [h1] at h2
        have := Option.some.inj h2
        omega
  have nothing : ∀ (p : Nat) (cs vs cs' : List Value) (_hp : H[p]? = some (.row ao n cap e i.size cs)) (_hm : vs.length = m * i.size) (_hc : cs ++ vs = cs') (_h : ∀ ao' cap', A ao' cap' (H.set p (.row ao' (n + m) cap' e i.size cs'))), xo = none → vs = [] → ∃ ao' cap' H' w', A ao' cap' H' ∧ (Builtin.append_ #[t, t] ty #[.slice ao n cap, .slice xo m xcap]).run S.P w = .ok (.slice ao' (n + m) cap') w' ∧ Sat W M H' w' := by
    rintro p cs vs cs' hp hm hc hA rfl rfl
    have hr := hs.row p hp
    have hm0 : m = 0 := by
      rcases Nat.eq_zero_or_pos m with h | h
      · exact h
      · have := Nat.mul_pos h hk; simp at hm; omega
    subst hm0
    refine ⟨ao, cap, _, w, hA ao cap, run_append_nothing ht hx0 hx1 hr, ?_⟩
    refine hs.set hp ⟨rfl, rfl, rfl, Nat.le_refl _, fun _ _ _ => rfl⟩ (by rw [← hc, List.append_nil]; exact hr) fun g hg => .inl hg
  have read : ∀ (p : Nat) (cs vs cs' : List Value) (_hp : H[p]? = some (.row ao n cap e i.size cs)) (_hm : vs.length = m * i.size) (_h1 : ∀ v ∈ vs, v.oneCell' = true) (_h63 : n + m ≤ maxLen) (_hb : (n + m) * i.bytes ≤ 140737488355328) (_hc : cs ++ vs = cs') (_h : ∀ ao' cap', A ao' cap' (H.set p (.row ao' (n + m) cap' e i.size cs'))) (_hrd : Rd w xo vs), ∃ ao' cap' H' w', A ao' cap' H' ∧ (Builtin.append_ #[t, t] ty #[.slice ao n cap, .slice xo m xcap]).run S.P w = .ok (.slice ao' (n + m) cap') w' ∧ Sat W M H' w' := by
    intro p cs vs cs' hp hm h1 h63 hb hc h hrd
    cases hxo : xo with
    | none =>
      refine hxo ▸ nothing p cs vs cs' hp hm hc h hxo ?_
      cases vs with
      | nil => rfl
      | cons v vs => obtain ⟨g, off, h, _⟩ := hrd.2 (by simp); rw [hxo] at h; cases h
    | some ad =>
      refine hxo ▸ main p cs vs cs' hp hm h1 h63 hb hc h ad hxo fun j u hj => ?_
      have hjl := (List.getElem?_eq_some_iff.1 hj).1
      obtain ⟨g, off, he, _, h3⟩ := hrd.2 (by omega)
      rw [hxo] at he
      obtain rfl := Option.some.inj he
      rw [Addr.add_lit, h3 j hjl, hj]
  cases h with
  | from_ p hp hx hm h1 h63 hb hc h => exact read p _ _ _ hp hm (allOne_mem h1) h63 hb hc h (hx W M w hs)
  | mk p hp q hx hm h1 h63 hb hc h =>
    replace h1 := allOne_mem h1
    rename_i cs vs cs'
    have hr := hs.row p hp
    replace main := main p cs vs cs' hp hm h1 h63 hb hc h
    replace nothing := nothing p cs vs cs' hp hm hc h
    rcases hx with ⟨h1, h3, _⟩ | hq | ⟨g, e', rfl, all, hq, hall⟩ | ⟨_, e', hq⟩
    · exact nothing h1 h3
    · have hrd := hs.rd q hq
      cases xo with
      | none =>
        refine nothing rfl ?_
        cases vs with
        | nil => rfl
        | cons v vs => obtain ⟨g, off, h, _⟩ := hrd.2 (by simp); cases h
      | some ad =>
        refine main ad rfl fun j u hj => ?_
        have hjl := (List.getElem?_eq_some_iff.1 hj).1
        obtain ⟨g, off, he, _, h3⟩ := hrd.2 (by omega)
        obtain rfl := Option.some.inj he
        rw [Addr.add_lit, h3 j hjl, hj]
    · refine main ⟨g, 0, none⟩ rfl fun j u hj => ?_
      rw [Addr.add_lit, Nat.zero_add, (hs.blk q hq).cell]
      rw [← hall, List.getElem?_take] at hj
      split at hj
      · exact hj
      · cases hj
    · have hrq := hs.row q hq
      cases xo with
      | none =>
        rcases hrq.2 with ⟨hv, h0⟩ | ⟨g, c, cur, hv, _⟩
        · have hl := hrq.1
          simp only [Value.slice.injEq] at hv
          subst h0
          exact nothing rfl (List.eq_nil_of_length_eq_zero (by simpa using hl))
        · cases hv
      | some ad =>
        refine main ad rfl fun j u hj => ?_
        have hjl := (List.getElem?_eq_some_iff.1 hj).1
        have hl := hrq.1
        rcases hrq.2 with ⟨hv, h0⟩ | ⟨g, c, cur, hv, _⟩
        · cases hv
        · simp only [Value.slice.injEq, Option.some.injEq] at hv
          obtain ⟨rfl, _, rfl⟩ := hv
          rw [Addr.add_lit, Nat.zero_add, World.ownsRow.cellAt hrq j (by omega), hj]
theorem SxAppS.get {S : Sx} {W : World} {M : List Nat} {H : Hp} {w : World} {ao : Option Addr} {n cap e : Nat} {s : ByteArray} {A : Option Addr → Nat → Hp → Prop} (h : SxAppS H ao n cap e s A) (hs : Sat W M H w)
    (t u ty : TypeId) (ht : S.P.underlying t = some (.slice e)) (hu : S.P.underlying u = some .string) (hi : tl S.T e = some ⟨.int .u8, 1, 1, .int .u8 0⟩) :
    ∃ ao' cap' H' w', A ao' cap' H' ∧ (Builtin.append_ #[t, u] ty #[.slice ao n cap, .string s]).run S.P w = .ok (.slice ao' (n + s.size) cap') w' ∧ Sat W M H' w' := by
  obtain ⟨x, hx0, hx1, hx2, hx3⟩ := Sx.info hi
  cases h with
  | mk p hp h63 hc h =>
    rename_i cs cs'
    replace hx1 : x.zero = some (.int .u8 0) := hx1
    replace hx2 : x.size = 1 := hx2
    replace hx3 : x.bytes = 1 := hx3
    have hr := hs.row p hp
    obtain ⟨v', w', hrun, hown, hgr, _⟩ := Go.Lib.run_append_own_string (P := S.P) (w := w) 0 t u ty e x ht hu hx0 hx1 hx2 hx3 _ n _ hr s (by unfold maxLen; omega) h63 (Nat.zero_le _)
    have form : ∃ ao' cap', v' = .slice ao' (n + s.size) cap' := by
      rcases hown.2 with ⟨rfl, h0⟩ | ⟨g, c, cur, rfl, _⟩
      · exact ⟨none, 0, by rw [h0]⟩
      · exact ⟨_, _, rfl⟩
    have hat : v'.ownBlock = (Value.slice ao n cap).ownBlock ∨ ∀ b, v'.ownBlock = some b → w.heap.size ≤ b := by
      rcases hr.2 with ⟨hv, rfl⟩ | ⟨g, c, cur, hv, _, hg, hnc, _, hcs, _⟩
      · right
        rw [hv] at hrun
        have hcs0 : cs = [] := List.eq_nil_of_length_eq_zero (by simpa using hr.1)
        obtain ⟨v2, w2, hrun2, hown2, _⟩ := Go.Lib.run_append_own_string (P := S.P) (w := w) w.heap.size t u ty e x ht hu hx0 hx1 hx2 hx3 _ 0 [] (World.ownsRow_nil w _ e 1) s (by unfold maxLen; omega) h63 (Nat.le_refl _)
        rw [hrun] at hrun2
        injection hrun2 with e1 e2
        subst e1 e2
        exact fun b hb => (World.ownsRow.lt hown2 b hb).1
      · simp only [Value.slice.injEq] at hv
        obtain ⟨rfl, _, rfl⟩ := hv
        by_cases hroom : n + s.size ≤ cap
        · left
          have h2 := Go.Lib.run_append_room_string (P := S.P) w t u ty e x ht hu hx0 hx2 g n cap cur hg s hroom (by rw [Nat.mul_one] at hcs; omega)
          rw [hrun] at h2
          injection h2 with e1 e2
          rw [e1]; rfl
        · right
          have h2 := Go.Lib.run_append_grow_string (P := S.P) w t u ty e x _ ht hu hx0 hx1 ⟨g, 0, none⟩ n cap cs (by rw [hx2]; exact hr.1) (hr.cells (g := g) rfl) s (by omega) (by omega) (by rw [hx3]; exact growslice_fits (by omega) (by omega))
          rw [hrun] at h2
          injection h2 with e1 e2
          rw [e1]
          intro b hb
          simp only [Value.ownBlock, Option.some.injEq] at hb
          omega
    obtain ⟨ao', cap', rfl⟩ := form
    refine ⟨ao', cap', _, w', h ao' cap', hrun, hs.set hp ?_ (by rw [← hc]; exact hown) ?_⟩
    · have : (Value.slice ao n cap).ownBlock = (Ent.row ao n cap e 1 cs).own := by cases ao <;> rfl
      rw [← this]; exact hgr
    · intro g hg
      have h1 : (Value.slice ao' (n + s.size) cap').ownBlock = some g := by
        cases ao' with
        | none => cases hg
        | some a => simpa [Ent.uses, Value.ownBlock] using hg
      rcases hat with h2 | h2
      · left
        rw [h1] at h2
        cases ao with
        | none => cases h2
        | some a => simpa [Ent.own, Value.ownBlock] using h2.symm
      · exact .inr (h2 g h1)
end Go.Proofs.Ytdififdnnpgjoaa
/- A symbolic walk: what it says of each operation is so. No program is named here. -/
namespace Go.Proofs.Ytdififdnnpgjoaa
open Go.RowKit

theorem set_splice_from (off : Nat) : ∀ (vs : List Value) (k : Nat) (cs : List Value), off + k + vs.length ≤ cs.length →
    (vs.zipIdx k).foldl (fun (c : Array Value) (x : Value × Nat) => c.setIfInBounds (off + x.2) x.1) cs.toArray = (splice (off + k) vs cs).toArray
  | [], k, cs, _ => by simp [splice]
  | v :: r, k, cs, h => by
    rw [List.zipIdx_cons, List.foldl_cons]
    have h1 : cs.toArray.setIfInBounds (off + k) v = (cs.set (off + k) v).toArray := by simp
    simp only
    rw [h1, set_splice_from off r (k + 1) (cs.set (off + k) v) (by simp at h ⊢; omega)]
    congr 1
    exact splice_step cs (off + k) v r (by simp at h ⊢; omega)
theorem fold_splice (off : Nat) (v : Value) (cs : List Value) (h : off + v.cells.size ≤ cs.length) :
    v.cells.zipIdx.foldl (fun (c : Array Value) (x : Value × Nat) => c.setIfInBounds (off + x.2) x.1) cs.toArray = (splice off v.cells.toList cs).toArray := by
  have := set_splice_from off v.cells.toList 0 cs (by simpa using h)
  rw [Nat.add_zero] at this
  rw [← this, ← Array.foldl_toList, Array.toList_zipIdx]
theorem fill_get {place : Nat → Option (Nat × Nat)} {place' : Nat → Option (Nat × Nat)} (hp : ∀ i x, place i = some x → place' i = some x) : ∀ (ps : List (Nat × Value)) (cs : List Value) (cs' : List Value), fillP place cs (ps.map fun p => (p.1, p.2.cells.toList)) → fillC place cs (ps.map fun p => (p.1, p.2.cells.toList)) = some cs' →
    cs'.length = cs.length ∧ Instr.fill place' cs.toArray ps = some cs'.toArray
  | [], cs, cs', _, h => by
    simp only [List.map_nil, fillC, Option.some.injEq] at h
    subst h
    exact ⟨rfl, rfl⟩
  | (i, v) :: r, cs, cs', h, hc => by
    simp only [List.map_cons, fillP] at h
    simp only [List.map_cons, fillC] at hc
    split at h
    · rename_i off size hpl
      obtain ⟨⟨h1, h2⟩, h⟩ := h
      rw [hpl] at hc
      simp only at hc
      obtain ⟨hl, hf⟩ := fill_get hp r _ cs' h hc
      have hs : v.cells.size = size := by simpa using h1
      refine ⟨?_, ?_⟩
      · rw [hl, splice_length _ _ _ (by simp; omega)]
      · simp only [Instr.fill, hp i _ hpl]
        rw [if_neg (by simp; omega)]
        rw [fold_splice off v cs (by omega)]
        exact hf
    · exact h.elim
theorem SxFill.get {place : Nat → Option (Nat × Nat)} {place' : Nat → Option (Nat × Nat)} (hp : ∀ i x, place i = some x → place' i = some x) {A : List Value → Prop} (ps : List (Nat × Value)) (cs : List Value) (h : SxFill place cs (ps.map fun p => (p.1, p.2.cells.toList)) A) :
    ∃ cs', A cs' ∧ cs'.length = cs.length ∧ Instr.fill place' cs.toArray ps = some cs'.toArray := by
  cases h with
  | mk h hc hA =>
    obtain ⟨h1, h2⟩ := fill_get hp ps cs _ h hc
    exact ⟨_, hA, h1, h2⟩
theorem zerosL_length (z : List Value) : ∀ n, (zerosL z n).length = n * z.length
  | 0 => by simp [zerosL]
  | n + 1 => by simp [zerosL, zerosL_length z n, Nat.add_mul]; omega
theorem zerosL_get (z : List Value) (hz : 0 < z.length) : ∀ (n i : Nat), i < n * z.length → (zerosL z n)[i]? = z[i % z.length]?
  | 0, i, h => by simp at h
  | n + 1, i, h => by
    rw [zerosL, List.getElem?_append]
    by_cases hi : i < z.length
    · rw [if_pos hi, Nat.mod_eq_of_lt hi]
    · rw [if_neg hi, zerosL_get z hz n (i - z.length) (by rw [Nat.add_mul] at h; omega)]
      congr 1
      rw [Nat.mod_eq_sub_mod (Nat.le_of_not_lt hi)]
theorem made_zeros (z : Array Value) (k n : Nat) (hz : z.size = k) (hk : 0 < k) : ((Array.range (n * k)).map (z[· % z.size]!)) = (zerosL z.toList n).toArray := by
  apply Array.ext'
  apply List.ext_getElem?
  intro i
  have hl : z.toList.length = k := by simpa using hz
  by_cases hi : i < n * k
  · rw [List.toList_toArray, zerosL_get z.toList (by omega) n i (by rw [hl]; exact hi), hl]
    have hm : i % k < k := Nat.mod_lt _ hk
    simp [hi, hz, hm]
  · rw [List.getElem?_eq_none (by simp; omega), List.getElem?_eq_none (by simp [zerosL_length, hl]; omega)]
theorem zerosL_take (z : List Value) (a b k : Nat) (hz : z.length = k) (h : a ≤ b) : (zerosL z b).take (a * k) = zerosL z a := by
  rcases Nat.eq_zero_or_pos k with hk | hk
  · have h1 : zerosL z a = [] := List.eq_nil_of_length_eq_zero (by rw [zerosL_length, hz, hk, Nat.mul_zero])
    rw [h1, hk]; simp
  apply List.ext_getElem?
  intro i
  have hab : a * k ≤ b * k := Nat.mul_le_mul_right _ h
  rw [List.getElem?_take]
  by_cases hi : i < a * k
  · rw [if_pos hi, zerosL_get z (by omega) b i (by rw [hz]; omega), zerosL_get z (by omega) a i (by rw [hz]; exact hi)]
  · rw [if_neg hi, List.getElem?_eq_none (by rw [zerosL_length, hz]; omega)]
theorem maxLen_val : maxLen = 9223372036854775807 := rfl

section
variable {S : Sx} {W : World} {M : List Nat} {N : Nat} {o : Oper} {F : Fr} {H : Hp} {A : Value → Hp → Prop} {a : Act} {w : World}
theorem slice_get {t : Nat} {v : Value} {lo hi : Option Operand} (h : sxSlice S t v lo hi F H A) : ∃ r, A r H ∧ ∀ (a : Act), Agree N F a → ∀ w, (Instr.sliceAt t v (lo.map a.eval) (hi.map a.eval) none).run S.P w = .ok r w := by
  unfold sxSlice at h
  split at h
  · rename_i s hd
    split at h
    · rename_i l u hl hu
      cases h with
      | mk p q h1 h2 h3 h4 h =>
        refine ⟨_, h, fun a ha w => ?_⟩
        have hb := run_sliceBounds (P := S.P) false s.size s.size (lo.map a.eval) (hi.map a.eval) p q (opt_nat (d := 0) (sxOpt_get ha hl) h1) (opt_nat (d := s.size) (sxOpt_get ha hu) h2) h3 h4 w
        simp [Instr.sliceAt, Instr.slice, run_str hd, hb]
    · exact h.elim
  · rename_i e ao n cap hd
    split at h
    · rename_i l u k hl hu hk
      cases h with
      | mk p q h1 h2 h3 h4 h =>
        have hb := fun (a : Act) (ha : Agree N F a) w => run_sliceBounds (P := S.P) true n cap (lo.map a.eval) (hi.map a.eval) p q (opt_nat (d := 0) (sxOpt_get ha hl) h1) (opt_nat (d := n) (sxOpt_get ha hu) h2) h3 h4 w
        refine ⟨_, h (if cap = p then ao else ao.map (·.add (p * k))) (fun hlt => by rw [if_neg (by omega)]) (fun he => by rw [if_pos he.symm]), fun a ha w => ?_⟩
        simp [Instr.sliceAt, Instr.slice, run_sl hd, hb a ha, run_size hk]
    · exact h.elim
  · rename_i n e g off hd
    split at h
    · rename_i l u k hl hu hk
      cases h with
      | mk p q h1 h2 h3 h4 h =>
        have hb := fun (a : Act) (ha : Agree N F a) w => run_sliceBounds (P := S.P) false n n (lo.map a.eval) (hi.map a.eval) p q (opt_nat (d := 0) (sxOpt_get ha hl) h1) (opt_nat (d := n) (sxOpt_get ha hu) h2) h3 h4 w
        refine ⟨_, h (if n = p then off else off + p * k) (fun hlt => by rw [if_neg (by omega)]), fun a ha w => ?_⟩
        have hadd : (if n = p then (⟨g, off, none⟩ : Addr) else (⟨g, off, none⟩ : Addr).add (p * k)) = ⟨g, if n = p then off else off + p * k, none⟩ := by
          split
          · rfl
          · rw [Addr.add_lit]
        simp [Instr.sliceAt, run_arr hd, hb a ha, run_size hk, Instr.sureAddr, hadd]
    · exact h.elim
  · exact h.elim
theorem conv_get {src dst : Nat} {v : Value} (h : sxConv S src dst v H A) (hs : Sat W M H w) : ∃ r H' w', A r H' ∧ Sat W M H' w' ∧ (convert src dst v).run S.P w = .ok r w' := by
  unfold sxConv at h
  split at h
  · rename_i k k' n hd1 hd2
    cases h with | mk h => exact ⟨_, H, w, h, hs, by simp [convert, run_int hd1, run_int hd2, Conv.intToInt]⟩
  · rename_i s hd1 hd2
    exact ⟨_, H, w, h, hs, by simp [convert, run_str hd1, run_str hd2]⟩
  · rename_i e s hd1 hd2
    split at h
    · rename_i hd3
      obtain ⟨cap, w', hr, hc, hb, hbel, _⟩ := run_bytes_blk (P := S.P) w src dst e s (Sx.ustr hd1) (Sx.usl hd2) (Sx.uint hd3)
      cases h with | mk h => cases h w.heap.size with | mk h => exact ⟨_, _, w', h cap hc, hs.cons (Below.toGrown hbel) hb (fun g hg => by simp only [Ent.uses] at hg; omega), hr⟩
    · exact h.elim
  · rename_i e ao n cap hd1 hd2
    split at h
    · rename_i hd3
      obtain ⟨l, hl, hr⟩ := h.get (P := S.P) (cap := cap) hs src dst e (Sx.usl hd1) (Sx.uint hd3) (Sx.ustr hd2)
      exact ⟨_, H, w, hl, hs, hr⟩
    · exact h.elim
  · cases h with | mk r hr h => exact ⟨r, H, w, h, hs, hr w⟩
theorem builtin_get {b : Builtin} {tys : List TypeId} {vs : List Value} (ty : TypeId) (h : sxBuiltin S b tys vs H A) (hs : Sat W M H w) (cst : Array Bool) : ∃ r H' w', A r H' ∧ Sat W M H' w' ∧ (builtin b tys.toArray ty cst vs.toArray).run S.P w = .ok (.value r) w' := by
  unfold sxBuiltin at h
  split at h
  · rename_i t tys v
    split at h
    · rename_i s hd; exact ⟨_, H, w, h, hs, by simp [builtin, Builtin.len_, run_str hd, goInt]⟩
    · rename_i e ao n cap hd; exact ⟨_, H, w, h, hs, by simp [builtin, Builtin.len_, run_sl hd, goInt]⟩
    · rename_i n e hd; exact ⟨_, H, w, h, hs, by simp [builtin, Builtin.len_, run_arr hd, goInt]⟩
    · cases h with
      | mk n hn hA =>
        refine ⟨_, H, w, hA, hs, ?_⟩
        have := hn W M w ty hs
        simp [builtin, this, goInt]
  · rename_i k x k' y
    cases hk : sameK k k' with
    | true => rw [hk] at h; exact ⟨_, H, w, h, hs, by simp [builtin, Builtin.min_, Builtin.min2]⟩
    | false => rw [hk] at h; exact h.elim
  · rename_i k x k' y
    cases hk : sameK k k' with
    | true => rw [hk] at h; exact ⟨_, H, w, h, hs, by simp [builtin, Builtin.max_, Builtin.max2]⟩
    | false => rw [hk] at h; exact h.elim
  · rename_i t u ao n cap xo m xcap
    cases htu : Nat.beq t u with
    | false => rw [htu] at h; exact h.elim
    | true =>
      rw [htu] at h
      obtain rfl := Nat.eq_of_beq_eq_true htu
      simp only [cond_true] at h
      split at h
      · rename_i e hd
        split at h
        · rename_i d0 n0 b0 z0 hi
          cases h with
          | mk h0 h =>
            obtain ⟨ao', cap', H', w', hA, hr, hs'⟩ := SxApp.get (i := ⟨d0, n0, b0, z0⟩) h hs t ty (Sx.usl hd) hi h0.1 h0.2
            exact ⟨_, H', w', hA, hs', by simp [builtin, hr]⟩
        · exact h.elim
      · exact h.elim
  · rename_i t u ao n cap s
    split at h
    · rename_i e hd hu
      split at h
      · rename_i hi
        obtain ⟨ao', cap', H', w', hA, hr, hs'⟩ := SxAppS.get h hs t u ty (Sx.usl hd) (Sx.ustr hu) hi
        exact ⟨_, H', w', hA, hs', by simp [builtin, hr]⟩
      · exact h.elim
    · exact h.elim
  · cases h with | mk v hr h => exact ⟨v, H, w, h, hs, hr ty cst w⟩
end
end Go.Proofs.Ytdififdnnpgjoaa
/- A symbolic walk: a stretch of code. No program is named here. -/
namespace Go.Proofs.Ytdififdnnpgjoaa
open Go.RowKit

theorem places_of {S : Sx} : ∀ (fs : List Field), (fs.map fun (f : Field) => (f.offset, f.type)).all (fun f => (S.sz f.2).isSome) = true → fs.mapM (fun f => (S.P.info? f.type).map fun i => (f.offset, i.size)) = some (fs.map fun f => (f.offset, (S.sz f.type).getD 0))
  | [], _ => rfl
  | f :: fs, h => by
    simp only [List.map_cons, List.all_cons, Bool.and_eq_true] at h
    obtain ⟨n, hn⟩ := Option.isSome_iff_exists.1 h.1
    obtain ⟨x, h1, h2⟩ := Sx.siz hn
    rw [List.mapM_cons, places_of fs h.2]
    simp [h1, h2, hn]
theorem extract_sub (cs : Array Value) (off n : Nat) : cs.extract off (off + n) = ((cs.toList.drop off).take n).toArray := by
  apply Array.ext'
  simp [Array.toList_extract, List.extract_eq_take_drop]
section
variable {S : Sx}
theorem part_agg {t : Nat} {i : TInf} (hi : tl S.T t = some i) (hag : isAggD i.d = true) (cs : Array Value) (off : Nat) (w : World) : (part t cs off).run S.P w = .ok (.agg ((cs.toList.drop off).take i.size).toArray) w := by
  simp [part, run_agg hi w, hag, run_size' hi w, extract_sub]
theorem part_one {t : Nat} {i : TInf} (hi : tl S.T t = some i) (hag : isAggD i.d = false) (cs : Array Value) (off : Nat) (v : Value) (hv : cs.toList[off]? = some v) (w : World) : (part t cs off).run S.P w = .ok v w := by
  rw [Array.getElem?_toList] at hv
  simp [part, run_agg hi w, hag, hv]
end
section
variable {S : Sx} {W : World} {M : List Nat} {N : Nat} {F : Fr} {H : Hp} {A : Value → Hp → Prop} {a : Act} {w : World}
theorem sxOp_sound {o : Oper} (h : sxOp S W M N o F H A) (ha : Agree N F a) (hs : Sat W M H w) (Q : Exit → Act → World → Prop) : o.wp S.P a w (OpK W M o a A) Q := by
  obtain ⟨dst, op, ty, pos, after, guard⟩ := o
  cases op
  case move x =>
    simp only [sxOp] at h
    split at h
    · rename_i v hv; exact op_value (w' := w) (by simp [execOp, ev_eval ha hv]) hs h
    · exact h.elim
  case assign x =>
    simp only [sxOp] at h
    split at h
    · rename_i v hv; exact op_value (w' := w) (by simp [execOp, ev_eval ha hv]) hs h
    · exact h.elim
  case pick c x y =>
    simp only [sxOp] at h
    split at h
    · rename_i t ht
      cases h with
      | mk h1 h2 =>
        cases t with
        | true =>
          have h := h1 rfl
          split at h
          · rename_i v hv; exact op_value (w' := w) (by simp [execOp, ev_eval ha ht, ev_eval ha hv, asBool]) hs h
          · exact h.elim
        | false =>
          have h := h2 rfl
          split at h
          · rename_i v hv; exact op_value (w' := w) (by simp [execOp, ev_eval ha ht, ev_eval ha hv, asBool]) hs h
          · exact h.elim
    · exact h.elim
  case binOp b t x y yt =>
    simp only [sxOp] at h
    split at h
    · rename_i u v hu hv
      obtain ⟨r, hr, hrun⟩ := sxBin_run h
      have := hrun w
      exact op_value (w' := w) (by simp only [execOp, ev_eval ha hu, ev_eval ha hv]; rw [Sem.run_bind, this]; rfl) hs hr
    · exact h.elim
  case unOp b t x =>
    simp only [sxOp] at h
    split at h
    · rename_i b hb; exact op_value (w' := w) (by simp [execOp, ev_eval ha hb, Op.unary]) hs h
    · rename_i v hv
      cases h with | mk r hr h => exact op_value (w' := w) (by simp [execOp, ev_eval ha hv, hr w]) hs h
    · exact h.elim
  case convert src dst' x =>
    simp only [sxOp] at h
    split at h
    · rename_i v hv
      obtain ⟨r, H', w', hA, hs', hr⟩ := conv_get h hs
      exact op_value (w' := w') (by simp [execOp, ev_eval ha hv, hr]) hs' hA
    · exact h.elim
  case alloc t =>
    simp only [sxOp] at h
    split at h
    · rename_i d0 n0 b0 z0 hi
      cases hrow : S.rows.any (Nat.beq t) with
      | false =>
        rw [hrow] at h
        obtain ⟨h⟩ := h
        refine op_value (w' := w.alloc (.cells z0.cells t)) ?_ (hs.cons (new_grown w _) (e := .blk w.heap.size t z0.cells.toList) (Blk.new w z0.cells t) (fun g hg => by simp only [Ent.uses] at hg; omega)) (h w.heap.size)
        simp [execOp, Instr.alloc, run_zero hi, newVar, newRow]
      | true =>
        rw [hrow] at h
        obtain ⟨h1, ⟨h⟩⟩ := h
        have hown : (Ent.row (some ⟨w.heap.size, 0, none⟩) 1 1 t n0 z0.cells.toList).Holds (w.alloc (.cells z0.cells t)) :=
          ⟨by simp [h1], .inr ⟨w.heap.size, 1, z0.cells, rfl, Nat.zero_le _, heap_alloc_new w _, Nat.le_refl _, by unfold maxLen; omega, by simp [h1], by rw [List.take_of_length_le (by simp [h1])]⟩⟩
        refine op_value (w' := w.alloc (.cells z0.cells t)) ?_ (hs.cons (new_grown w _) hown (fun g hg => by simp only [Ent.uses, Option.map_some, Option.some.injEq] at hg; omega)) (h w.heap.size)
        simp [execOp, Instr.alloc, run_zero hi, newVar, newRow]
    · exact h.elim
  case box t x =>
    simp only [sxOp] at h
    split at h
    · rename_i v hv
      obtain ⟨h⟩ := h
      refine op_value (w' := w.alloc (.cells v.cells t)) ?_ (hs.cons (new_grown w _) (e := .blk w.heap.size t v.cells.toList) (Blk.new w v.cells t) (fun g hg => by simp only [Ent.uses] at hg; omega)) (h w.heap.size)
      simp [execOp, Instr.box, ev_eval ha hv, newVar, newRow]
    · exact h.elim
  case build t ps =>
    simp only [sxOp] at h
    split at h
    · rename_i d0 n0 b0 z0 vs hi hvs
      have hev := evParts_eval ha hvs
      have hps : (ps.map fun (x : Nat × Operand) => (x.1, a.eval x.2)).toList.map (fun p => (p.1, p.2.cells.toList)) = vs := by rw [← hev]; simp
      split at h
      · rename_i fs
        obtain ⟨l, hl1, hl2⟩ := Sx.ustruct (S := S) (t := t) (fs := fs) (Sx.descOf hi)
        subst hl2
        cases hall : (l.toList.map fun (f : Field) => (f.offset, f.type)).all (fun f => (S.sz f.2).isSome) with
        | false => rw [hall] at h; exact h.elim
        | true =>
          rw [hall] at h
          simp only [cond_true] at h
          rw [← hps] at h
          have hpl : ∀ j x, placeF S (l.toList.map fun (f : Field) => (f.offset, f.type)) j = some x → Option.map (fun f => (f.offset, (S.sz f.type).getD 0)) l[j]? = some x := by
            intro j x hx
            unfold placeF at hx
            split at hx
            · rename_i fo ft hf
              rw [nthF_eq, List.getElem?_map, Array.getElem?_toList] at hf
              obtain ⟨y, hy1, hy2⟩ := Option.map_eq_some_iff.1 hf
              simp only [Prod.mk.injEq] at hy2
              obtain ⟨rfl, rfl⟩ := hy2
              split at hx
              · rename_i n hn
                rw [← Option.some.inj hx, hy1]
                simp [hn]
              · cases hx
            · cases hx
          obtain ⟨cs', hA, _, hf⟩ := SxFill.get (place' := fun j => Option.map (fun f => (f.offset, (S.sz f.type).getD 0)) l[j]?) hpl _ _ h
          refine op_value (w' := w) ?_ hs hA
          simp only [Array.toArray_toList, Array.toList_map] at hf
          simp [execOp, Instr.build, run_zero hi, run_underlying hl1, Array.mapM_eq_mapM_toList, run_places w _ _ (places_of l.toList hall), hf]
      · rename_i n e
        split at h
        · rename_i k hk
          rw [← hps] at h
          obtain ⟨cs', hA, _, hf⟩ := SxFill.get (place' := fun j => some (j * k, k)) (fun _ _ h => h) _ _ h
          refine op_value (w' := w) ?_ hs hA
          simp only [Array.toArray_toList, Array.toList_map] at hf
          have hu := Sx.uarr (S := S) (t := t) (n := n) (e := e) (Sx.descOf hi)
          simp [execOp, Instr.build, run_zero hi, run_underlying hu, run_size hk, hf]
        · exact h.elim
      · exact h.elim
    · exact h.elim
  case buildSlice t n ps =>
    simp only [sxOp] at h
    split at h
    · rename_i e vs hd hvs
      have hev := evParts_eval ha hvs
      have hps : (ps.map fun (x : Nat × Operand) => (x.1, a.eval x.2)).toList.map (fun p => (p.1, p.2.cells.toList)) = vs := by rw [← hev]; simp
      split at h
      · rename_i d0 n0 b0 z0 hi
        cases h with
        | mk h0 h =>
          obtain ⟨h0, hz, hk⟩ := h0
          rw [← hps] at h
          obtain ⟨cs', hA, hl, hf⟩ := SxFill.get (place' := fun j => some (j * n0, n0)) (fun _ _ h => h) _ _ h
          have hz' : z0.cells.toList.length = n0 := by simpa using hz
          rw [zerosL_length, hz'] at hl
          obtain ⟨hA⟩ := hA
          simp only [Array.toList_map] at hf
          rw [← made_zeros z0.cells n0 n hz hk] at hf
          have hm : n ≤ maxLen := by rw [maxLen_val]; have := Nat.le_mul_of_pos_right n hk; omega
          have hown : (Ent.row (some ⟨w.heap.size, 0, none⟩) n n e n0 cs').Holds (w.alloc (.cells cs'.toArray e)) := by
            refine ⟨hl, .inr ⟨w.heap.size, n, cs'.toArray, rfl, Nat.zero_le _, heap_alloc_new w _, Nat.le_refl _, hm, by simpa using hl, ?_⟩⟩
            rw [List.toList_toArray, ← hl, List.take_length]
          refine op_value (w' := w.alloc (.cells cs'.toArray e)) ?_ (hs.cons (new_grown w _) hown (fun g hg => by simp only [Ent.uses, Option.map_some, Option.some.injEq] at hg; omega)) (hA w.heap.size)
          have h24 : ¬ (16777216 < n * n0) := by omega
          by_cases hn : n * n0 = 0
          · have hn0 : n = 0 := by rcases Nat.mul_eq_zero.1 hn with h | h <;> omega
            subst hn0
            have hz0 : (Array.range (0 * n0)).map (z0.cells[· % z0.cells.size]!) = #[] := by simp
            rw [hz0] at hf
            simp [execOp, Instr.buildSlice, run_sl hd, run_size' hi, hf, newRow, Array.range_zero']
          · simp [execOp, Instr.buildSlice, run_sl hd, run_size' hi, h24, hn, run_zero hi, hf, newRow]
      · exact h.elim
    · exact h.elim
  case load t x =>
    simp only [sxOp] at h
    split at h
    · rename_i d0 n0 b0 z0 g off hi hx
      cases hag : isAggD d0 with
      | true =>
        rw [hag] at h
        simp only [cond_true] at h
        obtain ⟨vs, hA, hl, hc⟩ := h.get hs
        refine op_value (w' := w) ?_ hs hA
        have := run_loadVar_many (P := S.P) (by rw [run_agg hi w, hag]) (run_size' hi w) hl hc
        simp [execOp, Instr.loadAt, Instr.sureAddr, ev_eval ha hx, this]
      | false =>
        rw [hag] at h
        simp only [cond_false] at h
        obtain ⟨v, hA, hc⟩ := h.get hs
        refine op_value (w' := w) ?_ hs hA
        have := run_loadVar_one (P := S.P) (by rw [run_agg hi w, hag]) hc
        simp [execOp, Instr.loadAt, Instr.sureAddr, ev_eval ha hx, this]
    · exact h.elim
  case store t x y =>
    simp only [sxOp] at h
    split at h
    · rename_i k g off v hk hx hy
      cases h with
      | mk h0 h =>
        obtain ⟨w', H', hr, hs', hA⟩ := h.get (P := S.P) hs
        refine op_skip (w' := w') ?_ hs' hA
        have := run_storeVar_of (run_size hk w) h0 hr
        simp [execOp, Instr.storeAt, Instr.sureAddr, ev_eval ha hx, ev_eval ha hy, this]
    · exact h.elim
  case fieldAddr t x f =>
    simp only [sxOp] at h
    split at h
    · rename_i fs g off hd hx
      split at h
      · rename_i d n hp
        cases hn : Nat.blt 0 n with
        | false => rw [hn] at h; exact h.elim
        | true =>
          rw [hn] at h
          have hn' : n ≠ 0 := by have : 0 < n := by simpa using hn
                                 omega
          obtain ⟨l, hl1, hl2⟩ := Sx.ustruct hd
          subst hl2
          unfold placeF at hp
          split at hp
          · rename_i fo ft hf
            rw [nthF_eq, List.getElem?_map, Array.getElem?_toList] at hf
            obtain ⟨y, hy1, hy2⟩ := Option.map_eq_some_iff.1 hf
            simp only [Prod.mk.injEq] at hy2
            obtain ⟨rfl, rfl⟩ := hy2
            split at hp
            · rename_i k hk
              simp only [Option.some.injEq, Prod.mk.injEq] at hp
              obtain ⟨rfl, rfl⟩ := hp
              refine op_value (w' := w) ?_ hs h
              simp [execOp, Instr.fieldAt, run_underlying hl1, hy1, ev_eval ha hx, Instr.sureAddr, fieldPlace, run_size hk, hn', Addr.add_lit]
            · cases hp
          · cases hp
      · exact h.elim
    · exact h.elim
  case nilCheck x =>
    simp only [sxOp] at h
    split at h
    · rename_i ad hx; exact op_value (w' := w) (by simp [execOp, ev_eval ha hx]) hs h
    · rename_i f first captured hx; exact op_value (w' := w) (by simp [execOp, ev_eval ha hx]) hs h
    · exact h.elim
  case indexAddr t x ix =>
    simp only [sxOp] at h
    split at h
    · rename_i e ao n cap kk i hd hx hix
      split at h
      · rename_i k hk
        have main : ∀ (j g off : Nat), i = j → j < n → ao = some ⟨g, off, none⟩ → A (.pointer (some ⟨g, off + j * k, none⟩)) H → Oper.wp S.P ⟨dst, .indexAddr t x ix, ty, pos, after, guard⟩ a w (OpK W M ⟨dst, .indexAddr t x ix, ty, pos, after, guard⟩ a A) Q := by
          rintro j g off rfl hj rfl hA
          refine op_value (w' := w) ?_ hs hA
          have h0 : (0 : Int) ≤ (j : Int) ∧ (j : Int) < (n : Int) := by omega
          simp [execOp, Instr.indexAt, asIntOf, run_sl hd, ev_eval ha hx, ev_eval ha hix, hj, run_size hk, Addr.add_lit]
        cases h with
        | rd p cs hp j h1 hj hc h =>
          have hr := hs.rd p hp
          obtain ⟨g, off, he, _⟩ := hr.2 (by omega)
          exact main j g off h1 hj he (h g off he)
        | row p cap' e' cs hp j h1 hj h =>
          have hr := hs.row p hp
          rcases hr.2 with ⟨_, h0⟩ | ⟨g, c, cur, he, _⟩
          · omega
          · simp only [Value.slice.injEq] at he
            exact main j g 0 h1 hj he.1 (h g he.1)
        | ptr g off he j h1 hj h => exact main j g off h1 hj he h
      · exact h.elim
    · rename_i n e g off kk i hd hx hix
      split at h
      · rename_i k hk
        cases h with
        | mk j h1 hj h =>
          subst h1
          refine op_value (w' := w) ?_ hs h
          simp [execOp, Instr.indexAt, asIntOf, run_arr hd, ev_eval ha hx, ev_eval ha hix, hj, run_size hk, Instr.sureAddr, Addr.add_lit]
      · exact h.elim
    · exact h.elim
  case index t x ix =>
    simp only [sxOp] at h
    split at h
    · rename_i s kk i hd hx hix
      cases h with
      | mk j h1 hj h =>
        subst h1
        refine op_value (w' := w) ?_ hs h
        have hsz : j < s.data.toList.length := by simpa using hj
        have hget : s[j]? = some s[j] := by simp [hj]
        have hb : s.data.toList.getD j 0 = s[j] := by
          have hsz2 : j < s.data.size := by simpa using hsz
          simp only [List.getD, Array.getElem?_toList]
          rw [Array.getElem?_eq_getElem hsz2]; rfl
        simp only [hb]
        simp [execOp, Instr.index, asIntOf, run_str hd, ev_eval ha hx, ev_eval ha hix, hget, hj]
    · rename_i n e cs kk i hd hx hix
      split at h
      · rename_i d0 n0 b0 z0 hu
        cases h with
        | mk j h1 hj h =>
          subst h1
          cases hag : isAggD d0 with
          | true =>
            rw [hag] at h
            simp only [cond_true] at h
            cases h with
            | mk hl hv h =>
              refine op_value (w' := w) ?_ hs h
              simp [execOp, Instr.index, asIntOf, run_arr hd, ev_eval ha hx, ev_eval ha hix, hj, run_size' hu, part_agg hu hag, hv]
          | false =>
            rw [hag] at h
            simp only [cond_false] at h
            cases h with
            | mk hv h =>
              refine op_value (w' := w) ?_ hs h
              simp [execOp, Instr.index, asIntOf, run_arr hd, ev_eval ha hx, ev_eval ha hix, hj, run_size' hu, part_one hu hag _ _ _ hv]
      · exact h.elim
    · exact h.elim
  case field t x f =>
    simp only [sxOp] at h
    split at h
    · rename_i fs cs hd hx
      split at h
      · rename_i fo ft hf
        obtain ⟨l, hl1, hl2⟩ := Sx.ustruct hd
        subst hl2
        rw [nthF_eq, List.getElem?_map, Array.getElem?_toList] at hf
        obtain ⟨y, hy1, hy2⟩ := Option.map_eq_some_iff.1 hf
        simp only [Prod.mk.injEq] at hy2
        obtain ⟨rfl, rfl⟩ := hy2
        split at h
        · rename_i d0 n0 b0 z0 hu
          cases hag : isAggD d0 with
          | true =>
            rw [hag] at h
            simp only [cond_true] at h
            cases h with
            | mk hl hv h =>
              refine op_value (w' := w) ?_ hs h
              simp [execOp, Instr.field, run_underlying hl1, ev_eval ha hx, hy1, asAgg, part_agg hu hag, hv]
          | false =>
            rw [hag] at h
            simp only [cond_false] at h
            cases h with
            | mk hv h =>
              refine op_value (w' := w) ?_ hs h
              simp [execOp, Instr.field, run_underlying hl1, ev_eval ha hx, hy1, asAgg, part_one hu hag _ _ _ hv]
        · exact h.elim
      · exact h.elim
    · exact h.elim
  case extract x i =>
    simp only [sxOp] at h
    split at h
    · rename_i vs hv
      split at h
      · rename_i v hn
        rw [nthV_eq, Array.getElem?_toList] at hn
        exact op_value (w' := w) (by simp [execOp, ev_eval ha hv, Instr.extract, hn]) hs h
      · exact h.elim
    · exact h.elim
  case slice t x lo hi mx =>
    cases mx with
    | some m => simp only [sxOp] at h; cases h with | mk h => exact h a w Q ha hs
    | none =>
      simp only [sxOp] at h
      split at h
      · rename_i v hv
        obtain ⟨r, hA, hr⟩ := slice_get (N := N) h
        exact op_value (w' := w) (by simp [execOp, ev_eval ha hv, hr a ha w]) hs hA
      · exact h.elim
  case makeSlice t x y =>
    simp only [sxOp] at h
    split at h
    · rename_i e l c hd hx hy
      split at h
      · rename_i d0 n0 b0 z0 hi
        cases h with
        | mk p q h1 h2 h3 h4 h =>
          cases h with
          | mk h0 h =>
            obtain ⟨hb, hz, hk⟩ := h0
            obtain ⟨h⟩ := h
            subst h1
            subst h2
            obtain ⟨z, hz0, hz1, hz2, hz3⟩ := Sx.info hi
            have hm : (b0 : Int) * (q : Int) ≤ 281474976710656 := by
              have h : ((q * b0 : Nat) : Int) ≤ 281474976710656 := by omega
              rw [Int.natCast_mul, Int.mul_comm] at h
              exact h
            rw [maxLen_val] at h4
            have hr := run_make (P := S.P) w t e z z0 (Sx.usl hd) hz0 hz1 .i64 .i64 p q (by omega) (by omega) (by rw [hz3]; exact hm) (by omega)
            simp only [Int.toNat_natCast, hz2] at hr
            have hz' : z0.cells.toList.length = n0 := by simpa using hz
            have hmade : madeCells z0.cells (q * n0) = (zerosL z0.cells.toList q).toArray := made_zeros _ _ _ hz hk
            rw [hmade] at hr
            have hown : (Ent.row (some ⟨w.heap.size, 0, none⟩) p q e n0 (zerosL z0.cells.toList p)).Holds (w.alloc (.cells (zerosL z0.cells.toList q).toArray e)) := by
              refine ⟨by rw [zerosL_length, hz'], .inr ⟨w.heap.size, q, _, rfl, Nat.zero_le _, heap_alloc_new w _, h3, by rw [maxLen_val]; exact h4, by rw [List.size_toArray, zerosL_length, hz'], ?_⟩⟩
              rw [List.toList_toArray]
              exact zerosL_take _ p q _ hz' h3
            exact op_value (w' := w.alloc (.cells (zerosL z0.cells.toList q).toArray e)) (by simp [execOp, ev_eval ha hx, ev_eval ha hy, hr]) (hs.cons (new_grown w _) hown (fun g hg => by simp only [Ent.uses, Option.map_some, Option.some.injEq] at hg; omega)) (h w.heap.size)
      · exact h.elim
    · exact h.elim
  case makeFunc fn first captured =>
    simp only [sxOp] at h
    split at h
    · rename_i u v hu hv
      have h1 : first.map a.eval = u.toArray := by apply Array.ext'; rw [Array.toList_map, evs_eval ha hu]
      have h2 : captured.map a.eval = v.toArray := by apply Array.ext'; rw [Array.toList_map, evs_eval ha hv]
      exact op_value (w' := w) (by simp [execOp, Instr.makeFunc, h1, h2]) hs h
    · exact h.elim
  case call c =>
    obtain ⟨callee, args, tys⟩ := c
    simp only [sxOp] at h
    split at h
    · rename_i b vs hvs
      cases hus : useSem b vs with
      | true =>
        rw [hus] at h
        simp only [cond_true] at h
        cases h with | mk h => exact h a w Q ha hs
      | false =>
        rw [hus] at h
        simp only [cond_false] at h
        have hargs : args.map a.eval = vs.toArray := by apply Array.ext'; rw [Array.toList_map, evs_eval ha hvs]
        obtain ⟨r, H', w', hA, hs', hr⟩ := builtin_get ty h hs (args.map fun | .const _ => true | _ => false)
        exact op_value (w' := w') (by simp only [Array.toArray_toList] at hr; simp [execOp, resolve, invoke, hargs]; exact hr) hs' hA
    · rename_i f vs hvs
      have hargs : args.map a.eval = vs.toArray := by apply Array.ext'; rw [Array.toList_map, evs_eval ha hvs]
      split at h
      · rename_i fv hf
        unfold sxCallee at h
        split at h
        · rename_i n first captured
          cases hn : S.fns.any (Nat.beq n) with
          | false =>
            rw [hn] at h
            simp only [cond_false] at h
            have h : SxExt S W M n (first ++ vs.toArray ++ captured) H A := by
              split at h
              · rename_i h1 h2
                have e1 : first = #[] := by apply Array.ext'; exact h1
                have e2 : captured = #[] := by apply Array.ext'; exact h2
                rw [e1, e2]
                simpa using h
              · have e : (first.toList ++ vs ++ captured.toList).toArray = first ++ vs.toArray ++ captured := by apply Array.ext'; simp
                rw [e] at h
                exact h
            cases h with
            | mk v h hA =>
              refine op_value (w' := w) ?_ hs hA
              rw [← h w hs]
              simp [execOp, resolve, invoke, ev_eval ha hf, Deferred.ofValue, hargs]
          | true =>
            rw [hn] at h
            simp only [cond_true] at h
            have h : SxCall S W M n (first ++ vs.toArray ++ captured) H A := by
              split at h
              · rename_i h1 h2
                have e1 : first = #[] := by apply Array.ext'; exact h1
                have e2 : captured = #[] := by apply Array.ext'; exact h2
                rw [e1, e2]
                simpa using h
              · have e : (first.toList ++ vs ++ captured.toList).toArray = first ++ vs.toArray ++ captured := by apply Array.ext'; simp
                rw [e] at h
                exact h
            cases h with
            | mk h =>
              have hm : n ∈ S.fns := by
                obtain ⟨m, hm, he⟩ := List.any_eq_true.1 hn
                rw [Nat.eq_of_beq_eq_true he]; exact hm
              have hok := List.all_eq_true.1 S.fnsOk n hm
              cases hfn : S.P.funcs[n]? with
              | none => rw [hfn] at hok; cases hok
              | some fn =>
                rw [hfn] at hok
                simp only [Bool.and_eq_true, Bool.not_eq_true'] at hok
                unfold Oper.wp execOp
                simp only [resolve, invoke, Sem.run_bind, Sem.run_pure, Result.andThen_ok, ev_eval ha hf, Deferred.ofValue, callFunc, run_program, hfn, hok.1, hok.2, Bool.false_eq_true, if_false, Oper.upon, hargs]
                refine Calls.mono (h w hs) fun e w' he => ?_
                obtain ⟨v, H', rfl, hs', hA⟩ := he
                exact ⟨v, H', rfl, hs', hA⟩
        · exact h.elim
      · exact h.elim
    · exact h.elim
  all_goals (simp only [sxOp] at h; cases h with | mk h => exact h a w Q ha hs)
end
end Go.Proofs.Ytdififdnnpgjoaa
