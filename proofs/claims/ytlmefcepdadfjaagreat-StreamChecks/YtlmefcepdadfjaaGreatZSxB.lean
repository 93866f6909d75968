/- Texts of this claim, one behind the other. -/
import Derived.Laws.StructEq
import Derived.Test.YtlmefcepdadfjaaGreatZOwnF
import Derived.Test.YtlmefcepdadfjaaGreatZDrawE
/- A symbolic walk: what a stretch of code asks, computed from its text; the words. No program is named here. -/
namespace Go.Proofs.YtlmefcepdadfjaaGreat
open Go.RowKit

/-- A frame of which some slots are known. -/
abbrev Fr := List (Nat × Option Value)
def look : Fr → Nat → Option Value
  | [], _ => none
  | (s, v) :: r, t => bif Nat.beq s t then v else look r t
def ev (F : Fr) : Operand → Option Value
  | .tmp t => look F t
  | .const v => some v
  | .global g => some (.pointer (some ⟨g, 0, none⟩))
  | .func f => some (.func (.func f) #[] #[])
def evs (F : Fr) : List Operand → Option (List Value)
  | [] => some []
  | x :: r => match ev F x with
    | some v => match evs F r with
      | some vs => some (v :: vs)
      | none => none
    | none => none
structure Agree (N : Nat) (F : Fr) (a : Act) : Prop where
  size : a.tmps.size = N
  defers : a.defers = []
  slots : ∀ t v, look F t = some v → a.tmps.getD t undef = v
def upd (d : Option Nat) (v : Value) (F : Fr) : Fr := match d with | some d => (d, some v) :: F | none => F
def dstOk (N : Nat) : Option Nat → Bool
  | some d => Nat.blt d N
  | none => true

/-- Anything else that is known of memory, by what it is, where it lies, and that it stays while nobody writes there. -/
structure GEnt where
  own : Option Nat
  uses : Nat → Prop
  holds : World → Prop
  own_uses : ∀ g, own = some g → uses g
  uses_lt : ∀ w g, holds w → uses g → g < w.heap.size
  kept : ∀ w w' row, holds w → w.grownBy w' row → (∀ g, row = some g → ¬ uses g) → holds w'
/-- What is known of memory: a block that is known whole and may be written; cells that are read; a slice of the call's own that may grow. -/
inductive Ent where
  | blk (g e : Nat) (cs : List Value)
  | rd (ao : Option Addr) (cs : List Value)
  | row (ao : Option Addr) (n cap e k : Nat) (cs : List Value)
  | gen (x : GEnt)
abbrev Hp := List Ent
def Ent.Holds (w : World) : Ent → Prop
  | .blk g e cs => Blk w g e cs
  | .rd ao cs => Rd w ao cs
  | .row ao n cap e k cs => w.ownsRow 0 e k (.slice ao n cap) n cs
  | .gen x => x.holds w
def Ent.own : Ent → Option Nat
  | .blk g _ _ => some g
  | .rd _ _ => none
  | .row ao _ _ _ _ _ => ao.map (·.block)
  | .gen x => x.own
def Ent.uses : Ent → Nat → Prop
  | .blk g _ _, b => b = g
  | .rd ao cs, b => cs ≠ [] ∧ ao.map (·.block) = some b
  | .row ao _ _ _ _ _, b => ao.map (·.block) = some b
  | .gen x, b => x.uses b
/-- Of what was there, only the blocks M may have been written. -/
structure Touch (M : List Nat) (W w : World) : Prop where
  os : w.os = W.os
  tape : w.tape = W.tape
  output : w.output = W.output
  size : W.heap.size ≤ w.heap.size
  block : ∀ k, k < W.heap.size → k ∉ M → w.heap[k]? = W.heap[k]?
structure Sat (W : World) (M : List Nat) (H : Hp) (w : World) : Prop where
  touch : Touch M W w
  holds : ∀ (i : Nat) (e : Ent), H[i]? = some e → e.Holds w
  own : ∀ (i : Nat) (e : Ent), H[i]? = some e → ∀ g, e.own = some g → W.heap.size ≤ g ∨ g ∈ M
  sep : ∀ (i j : Nat) (a b : Ent), i ≠ j → H[i]? = some a → H[j]? = some b → ∀ g, a.own = some g → ¬ b.uses g

/-- What the types are. -/
inductive TD where
  | bool | int (k : IntKind) | string | slice (e : Nat) | array (n e : Nat) | struct (fs : List (Nat × Nat)) | other
def tdOf : TypeDesc → TD
  | .bool => .bool
  | .int k => .int k
  | .string => .string
  | .slice e => .slice e
  | .array n e => .array n e
  | .struct fs => .struct (fs.toList.map fun f => (f.offset, f.type))
  | _ => .other
structure TInf where
  d : TD
  size : Nat
  bytes : Nat
  zero : Value
def tl : List (Nat × TInf) → Nat → Option TInf
  | [], _ => none
  | (s, v) :: r, t => bif Nat.beq s t then some v else tl r t
structure Sx where
  P : Program
  T : List (Nat × TInf)
  ty : ∀ t i, tl T t = some i → (P.underlying t).map tdOf = some i.d ∧ (P.info? t).map (fun x => (x.zero, x.size, x.bytes)) = some (some i.zero, i.size, i.bytes)
  mixed : P.follows .mixedOrders = true
  /-- Variables of these types are taken for rows of one element. -/
  rows : List Nat
  cmp : List Nat
  cmpOk : (cmp.all fun t => !P.stoodInHeld t && !P.eqGuardType P.depth t && (P.fieldsOf t).all (fun f => f.name != "_")) = true
  fns : List Nat
  fnsOk : (fns.all fun f => match P.funcs[f]? with | some fn => !(fn.name == "runtime.NumGoroutine") && !fn.body.isNone | none => false) = true
def Sx.desc (S : Sx) (t : Nat) : Option TD := match tl S.T t with | some ⟨d, _, _, _⟩ => some d | none => none
def Sx.sz (S : Sx) (t : Nat) : Option Nat := match tl S.T t with | some ⟨_, n, _, _⟩ => some n | none => none
/-- Values of one cell. -/
def allOne : List Value → Bool
  | [] => true
  | v :: r => v.oneCell' && allOne r
theorem allOne_mem : ∀ {l : List Value}, allOne l = true → ∀ v ∈ l, v.oneCell' = true
  | [], _, v, hv => by simp at hv
  | u :: r, h, v, hv => by
    simp only [allOne, Bool.and_eq_true] at h
    rcases List.mem_cons.1 hv with e | e
    · exact e ▸ h.1
    · exact allOne_mem h.2 v e

/-- The stops of the walk. -/
inductive SxIf (t : Bool) (A B : Prop) : Prop
  | mk (h1 : t = true → A) (h2 : t = false → B)
theorem SxIf.tt {A B : Prop} (h : A) : SxIf true A B := ⟨fun _ => h, fun h' => (by cases h')⟩
theorem SxIf.ff {A B : Prop} (h : B) : SxIf false A B := ⟨fun h' => (by cases h'), fun _ => h⟩
inductive SxNew (A : Nat → Prop) : Prop
  | mk (h : ∀ g, A g)
inductive SxRng (k : IntKind) (x : Int) (A : Int → Prop) : Prop
  | mk (h : A (k.wrap x))
inductive SxNz (y : Int) (A : Prop) : Prop
  | mk (h : y ≠ 0) (h' : A)
inductive SxQ (x : Int) (A : Int → Prop) : Prop
  | mk (r : Int) (h : x = r) (h' : A r)
inductive SxSh (y : Int) (A : Nat → Prop) : Prop
  | mk (n : Nat) (h : y = n) (h' : A n)
inductive SxLe (m n : Nat) (A : Prop) : Prop
  | mk (h : m ≤ n) (h' : A)
inductive SxIdx (i : Int) (n : Nat) (A : Nat → Prop) : Prop
  | mk (j : Nat) (h : i = j) (hj : j < n) (h' : A j)
inductive SxBnd (lo hi : Int) (m : Nat) (A : Nat → Nat → Prop) : Prop
  | mk (a b : Nat) (h1 : lo = a) (h2 : hi = b) (h3 : a ≤ b) (h4 : b ≤ m) (h' : A a b)
/-- The address of an element of a slice that is read, or is the call's own. -/
inductive SxIA (H : Hp) (ao : Option Addr) (n k : Nat) (i : Int) (A : Nat → Nat → Prop) : Prop
  | rd (p : Nat) (cs : List Value) (hp : H[p]? = some (.rd ao cs)) (j : Nat) (h : i = j) (hj : j < n) (hc : j * k < cs.length) (h' : ∀ g off, ao = some ⟨g, off, none⟩ → A g (off + j * k))
  | row (p cap e : Nat) (cs : List Value) (hp : H[p]? = some (.row ao n cap e k cs)) (j : Nat) (h : i = j) (hj : j < n) (h' : ∀ g, ao = some ⟨g, 0, none⟩ → A g (0 + j * k))
  | ptr (g off : Nat) (ha : ao = some ⟨g, off, none⟩) (j : Nat) (h : i = j) (hj : j < n) (h' : A g (off + j * k))
  | any (cs : List Value) (hx : ∀ W M w, Sat W M H w → Rd w ao cs) (j : Nat) (h : i = j) (hj : j < n) (hc : j * k < cs.length) (h' : ∀ g off, ao = some ⟨g, off, none⟩ → A g (off + j * k))
/-- One cell is read. -/
inductive SxLd (H : Hp) (g off : Nat) (A : Value → Prop) : Prop
  | blk (p : Nat) {e : Nat} {cs : List Value} (hp : H[p]? = some (.blk g e cs)) {v : Value} (hv : cs[off]? = some v) (h' : A v)
  | rd (p : Nat) {ao : Option Addr} {cs : List Value} (hp : H[p]? = some (.rd ao cs)) {o : Nat} (ha : ao = some ⟨g, o, none⟩) {j : Nat} (hj : off = o + j) {v : Value} (hv : cs[j]? = some v) (h' : A v)
  | row (p : Nat) {ao : Option Addr} {n cap e k : Nat} {cs : List Value} (hp : H[p]? = some (.row ao n cap e k cs)) (ha : ao = some ⟨g, 0, none⟩) {v : Value} {j : Nat} (hj : off = 0 + j) (hv : cs[j]? = some v) (h' : A v)
  | from_ {ao : Option Addr} {cs : List Value} (hx : ∀ W M w, Sat W M H w → Rd w ao cs) {o : Nat} (ha : ao = some ⟨g, o, none⟩) {j : Nat} (hj : off = o + j) {v : Value} (hv : cs[j]? = some v) (h' : A v)
/-- Several cells are read: a struct, an array. -/
inductive SxLdN (H : Hp) (g off n : Nat) (A : List Value → Prop) : Prop
  | blk (p : Nat) {e : Nat} {cs : List Value} (hp : H[p]? = some (.blk g e cs)) {vs : List Value} (hl : vs.length = n) (hv : (cs.drop off).take n = vs) (h' : A vs)
  | rd (p : Nat) {ao : Option Addr} {cs : List Value} (hp : H[p]? = some (.rd ao cs)) {o : Nat} (ha : ao = some ⟨g, o, none⟩) {j : Nat} (hj : off = o + j) {vs : List Value} (hl : vs.length = n) (hv : (cs.drop j).take n = vs) (h' : A vs)
  | row (p : Nat) {ao : Option Addr} {m cap e k : Nat} {cs : List Value} (hp : H[p]? = some (.row ao m cap e k cs)) (ha : ao = some ⟨g, 0, none⟩) {j : Nat} (hj : off = 0 + j) {vs : List Value} (hl : vs.length = n) (hv : (cs.drop j).take n = vs) (h' : A vs)
  | from_ {ao : Option Addr} {cs : List Value} (hx : ∀ W M w, Sat W M H w → Rd w ao cs) {o : Nat} (ha : ao = some ⟨g, o, none⟩) {j : Nat} (hj : off = o + j) {vs : List Value} (hl : vs.length = n) (hv : (cs.drop j).take n = vs) (h' : A vs)
def splice (off : Nat) (vs cs : List Value) : List Value := cs.take off ++ vs ++ cs.drop (off + vs.length)
/-- Cells are written. -/
inductive SxSt (H : Hp) (g off : Nat) (vs : List Value) (A : Hp → Prop) : Prop
  | blk (p : Nat) {e : Nat} {cs : List Value} (hp : H[p]? = some (.blk g e cs)) (hl : Nat.ble (off + vs.length) cs.length = true) (h1 : allOne vs = true) {cs' : List Value} (hc : splice off vs cs = cs') (h' : A (H.set p (.blk g e cs')))
  | row (p : Nat) {ao : Option Addr} {n cap e k : Nat} {cs : List Value} (hp : H[p]? = some (.row ao n cap e k cs)) (ha : ao = some ⟨g, 0, none⟩) {j : Nat} (hj : off = 0 + j) (hl : j + vs.length ≤ cs.length) (h1 : allOne vs = true) {cs' : List Value} (hc : splice j vs cs = cs') (h' : A (H.set p (.row ao n cap e k cs')))
/-- string(b). -/
inductive SxStr (H : Hp) (ao : Option Addr) (n : Nat) (A : List UInt8 → Prop) : Prop
  | rd (p : Nat) {cs : List Value} (hp : H[p]? = some (.rd ao cs)) (l : List UInt8) (hn : l.length = n) (hl : cs.take n = l.map fun b => .int .u8 (b.toNat : Int)) (h' : A l)
  | blk (p : Nat) {g o e : Nat} {cs : List Value} (ha : ao = some ⟨g, o, none⟩) (hp : H[p]? = some (.blk g e cs)) (l : List UInt8) (hn : l.length = n) (hl : (cs.drop o).take n = l.map fun b => .int .u8 (b.toNat : Int)) (h' : A l)
  | row (p : Nat) {m cap e : Nat} {cs : List Value} (hp : H[p]? = some (.row ao m cap e 1 cs)) (l : List UInt8) (hn : l.length = n) (hl : cs.take n = l.map fun b => .int .u8 (b.toNat : Int)) (h' : A l)
/-- append(s, x..), s the call's own. -/
inductive SxApp (H : Hp) (ao : Option Addr) (n cap e k bytes : Nat) (xo : Option Addr) (m xcap : Nat) (A : Option Addr → Nat → Hp → Prop) : Prop
  | mk (p : Nat) {cs : List Value} (hp : H[p]? = some (.row ao n cap e k cs)) (q : Nat) {vs : List Value}
      (hx : (xo = none ∧ vs = [] ∧ m = 0) ∨ H[q]? = some (.rd xo vs) ∨ (∃ g e', xo = some ⟨g, 0, none⟩ ∧ ∃ all, H[q]? = some (.blk g e' all) ∧ all.take (m * k) = vs) ∨ (p ≠ q ∧ ∃ e', H[q]? = some (.row xo m xcap e' k vs)))
      (hm : vs.length = m * k) (h1 : allOne vs = true) (h63 : n + m ≤ maxLen) (hb : (n + m) * bytes ≤ 140737488355328)
      {cs' : List Value} (hc : cs ++ vs = cs')
      (h' : ∀ ao' cap', A ao' cap' (H.set p (.row ao' (n + m) cap' e k cs')))
  | from_ (p : Nat) {cs : List Value} (hp : H[p]? = some (.row ao n cap e k cs)) {vs : List Value} (hx : ∀ W M w, Sat W M H w → Rd w xo vs)
      (hm : vs.length = m * k) (h1 : allOne vs = true) (h63 : n + m ≤ maxLen) (hb : (n + m) * bytes ≤ 140737488355328)
      {cs' : List Value} (hc : cs ++ vs = cs')
      (h' : ∀ ao' cap', A ao' cap' (H.set p (.row ao' (n + m) cap' e k cs')))
  | sem (h : ∀ (P : Program) (W : World) (M : List Nat) (w : World) (t ty : TypeId) (x : TypeInfo) (z : Value), Sat W M H w → P.underlying t = some (.slice e) → P.info? e = some x → x.zero = some z → x.size = k → x.bytes = bytes → z.cells.size = k → 0 < k →
      ∃ ao' cap' H' w', A ao' cap' H' ∧ (Builtin.append_ #[t, t] ty #[.slice ao n cap, .slice xo m xcap]).run P w = .ok (.slice ao' (n + m) cap') w' ∧ Sat W M H' w')
/-- append(s, x...), x a string. -/
inductive SxAppS (H : Hp) (ao : Option Addr) (n cap e : Nat) (s : ByteArray) (A : Option Addr → Nat → Hp → Prop) : Prop
  | mk (p : Nat) {cs : List Value} (hp : H[p]? = some (.row ao n cap e 1 cs)) (h63 : n + s.size ≤ 140737488355328) {cs' : List Value} (hc : cs ++ Go.Lib.strCells s = cs') (h' : ∀ ao' cap', A ao' cap' (H.set p (.row ao' (n + s.size) cap' e 1 cs')))
inductive SxCall (S : Sx) (W : World) (M : List Nat) (f : Nat) (args : Array Value) (H : Hp) (A : Value → Hp → Prop) : Prop
  | mk (h : ∀ w, Sat W M H w → Calls S.P f args w fun e w' => ∃ v H', e = .returned v ∧ Sat W M H' w' ∧ A v H')
/-- A function without a body. -/
inductive SxExt (S : Sx) (W : World) (M : List Nat) (f : Nat) (args : Array Value) (H : Hp) (A : Value → Hp → Prop) : Prop
  | mk (v : Value) (h : ∀ w, Sat W M H w → (callFunc f args).run S.P w = .ok (.value v) w) (h' : A v H)
/-- Any other operation. -/
inductive SxSem (S : Sx) (W : World) (M : List Nat) (N : Nat) (o : Oper) (F : Fr) (H : Hp) (A : Value → Hp → Prop) : Prop
  | mk (h : ∀ a w (Q : Exit → Act → World → Prop), Agree N F a → Sat W M H w → o.wp S.P a w (fun a' w' => ∃ v H', a' = a.put o.dst v ∧ Sat W M H' w' ∧ A v H') Q)
/-- A value that is computed. -/
inductive SxRun (P : Program) (s : Sem Value) (A : Value → Prop) : Prop
  | mk (v : Value) (h : ∀ w, s.run P w = .ok v w) (h' : A v)
/-- A builtin that leaves memory as it is. -/
inductive SxBI (P : Program) (b : Builtin) (tys : List TypeId) (vs : List Value) (A : Value → Prop) : Prop
  | mk (v : Value) (h : ∀ ty cst w, (builtin b tys.toArray ty cst vs.toArray).run P w = .ok (.value v) w) (h' : A v)
/-- The length of what lies in memory. -/
inductive SxLenV (S : Sx) (tys : List TypeId) (v : Value) (H : Hp) (A : Nat → Prop) : Prop
  | mk (n : Nat) (h : ∀ (W : World) (M : List Nat) (w : World) (ty : TypeId), Sat W M H w → (Builtin.len_ tys.toArray ty #[v]).run S.P w = .ok (goInt n) w) (h' : A n)
inductive SxNth (cs : List Value) (j : Nat) (A : Value → Prop) : Prop
  | mk {v : Value} (h : cs[j]? = some v) (h' : A v)
inductive SxSub (cs : List Value) (off n : Nat) (A : List Value → Prop) : Prop
  | mk {vs : List Value} (hl : vs.length = n) (h : (cs.drop off).take n = vs) (h' : A vs)

def sameK : IntKind → IntKind → Bool
  | .i8, .i8 | .i16, .i16 | .i32, .i32 | .i64, .i64 | .u8, .u8 | .u16, .u16 | .u32, .u32 | .u64, .u64 => true
  | _, _ => false
theorem sameK_eq {a b : IntKind} (h : sameK a b = true) : a = b := by cases a <;> cases b <;> first | rfl | cases h
def bitI (op : BinOp) (k : IntKind) (x y : Int) : Int :=
  match op with
  | .and => k.wrap (BitVec.ofInt k.bits x &&& BitVec.ofInt k.bits y).toNat
  | .or => k.wrap (BitVec.ofInt k.bits x ||| BitVec.ofInt k.bits y).toNat
  | .xor => k.wrap (BitVec.ofInt k.bits x ^^^ BitVec.ofInt k.bits y).toNat
  | _ => k.wrap (BitVec.ofInt k.bits x &&& ~~~ BitVec.ofInt k.bits y).toNat
def strEq (a b : ByteArray) : Bool := a.toList == b.toList
def strLt (a b : ByteArray) : Bool := Op.bytesLess a.toList b.toList
def sxInt (op : BinOp) (k : IntKind) (x y : Int) (A : Value → Prop) : Prop :=
  match op with
  | .add => SxRng k (x + y) fun r => A (.int k r)
  | .sub => SxRng k (x - y) fun r => A (.int k r)
  | .mul => SxRng k (x * y) fun r => A (.int k r)
  | .quo => SxNz y (SxQ (x.tdiv y) fun q => SxRng k q fun r => A (.int k r))
  | .rem => SxNz y (SxQ (x.tmod y) fun q => A (.int k q))
  | .and => A (.int k (bitI .and k x y))
  | .or => A (.int k (bitI .or k x y))
  | .xor => A (.int k (bitI .xor k x y))
  | .andNot => A (.int k (bitI .andNot k x y))
  | .eql => A (.bool (x == y))
  | .neq => A (.bool (x != y))
  | .lss => A (.bool (decide (x < y)))
  | .leq => A (.bool (decide (x ≤ y)))
  | .gtr => A (.bool (decide (x > y)))
  | .geq => A (.bool (decide (x ≥ y)))
  | _ => False
def sxString (op : BinOp) (x y : ByteArray) (A : Value → Prop) : Prop :=
  match op with
  | .add => SxLe (x.size + y.size) 9223372036854775807 (A (.string (x ++ y)))
  | .eql => A (.bool (strEq x y))
  | .neq => A (.bool (!strEq x y))
  | .lss => A (.bool (strLt x y))
  | .leq => A (.bool (strLt x y || strEq x y))
  | .gtr => A (.bool (!(strLt x y || strEq x y)))
  | .geq => A (.bool (!strLt x y))
  | _ => False
def isShift : BinOp → Bool
  | .shl | .shr => true
  | _ => false
def sxBin (S : Sx) (op : BinOp) (t : Nat) (x y : Operand) (a b : Value) (A : Value → Prop) : Prop :=
  match a, b with
  | .int k m, .int k' n => bif isShift op then
        SxSh n fun j => match op with
          | .shl => SxQ (m * 2 ^ (min j k.bits)) fun q => SxRng k q fun r => A (.int k r)
          | .shr => SxQ (m.fdiv (2 ^ (min j k.bits))) fun q => A (.int k q)
          | _ => False
      else bif sameK k k' then sxInt op k m n A else False
  | .string m, .string n => sxString op m n A
  | a, b => SxRun S.P (do eqGuard op t x y a b; binOp op t a b) A
def sxOpt (S : Sx) (F : Fr) (x : Option Operand) (d : Int) : Option Int :=
  match x with
  | none => some d
  | some x => match ev F x with
    | some (.int _ i) => some i
    | _ => none
def nthV : List Value → Nat → Option Value
  | [], _ => none
  | v :: _, 0 => some v
  | _ :: r, n + 1 => nthV r n
def nthF : List (Nat × Nat) → Nat → Option (Nat × Nat)
  | [], _ => none
  | v :: _, 0 => some v
  | _ :: r, n + 1 => nthF r n
def isAggD : TD → Bool
  | .struct _ | .array _ _ => true
  | _ => false
inductive SxP (p : Prop) (A : Prop) : Prop
  | mk (h : p) (h' : A)
/-- The parts of a literal, laid over zeros. -/
def fillC (place : Nat → Option (Nat × Nat)) : List Value → List (Nat × List Value) → Option (List Value)
  | cs, [] => some cs
  | cs, (i, vs) :: r => match place i with
    | some (off, _) => fillC place (splice off vs cs) r
    | none => none
def fillP (place : Nat → Option (Nat × Nat)) : List Value → List (Nat × List Value) → Prop
  | _, [] => True
  | cs, (i, vs) :: r => match place i with
    | some (off, size) => (vs.length = size ∧ off + size ≤ cs.length) ∧ fillP place (splice off vs cs) r
    | none => False
def fillB (place : Nat → Option (Nat × Nat)) : List Value → List (Nat × List Value) → Bool
  | _, [] => true
  | cs, (i, vs) :: r => match place i with
    | some (off, size) => bif Nat.beq vs.length size then (bif Nat.ble (off + size) cs.length then fillB place (splice off vs cs) r else false) else false
    | none => false
theorem fillB_P {place : Nat → Option (Nat × Nat)} : ∀ {ps : List (Nat × List Value)} {cs : List Value}, fillB place cs ps = true → fillP place cs ps
  | [], cs, _ => trivial
  | (i, vs) :: r, cs, h => by
    unfold fillB at h
    unfold fillP
    split at h
    · rename_i off size hp
      cases h1 : Nat.beq vs.length size with
      | false => rw [h1] at h; cases h
      | true =>
        cases h2 : Nat.ble (off + size) cs.length with
        | false => rw [h1, h2] at h; cases h
        | true =>
          rw [h1, h2] at h
          exact ⟨⟨Nat.eq_of_beq_eq_true h1, Nat.le_of_ble_eq_true h2⟩, fillB_P h⟩
    · cases h
inductive SxFill (place : Nat → Option (Nat × Nat)) (cs : List Value) (ps : List (Nat × List Value)) (A : List Value → Prop) : Prop
  | mk (h : fillP place cs ps) {cs' : List Value} (hc : fillC place cs ps = some cs') (h' : A cs')
theorem SxFill.ok {place : Nat → Option (Nat × Nat)} {cs : List Value} {ps : List (Nat × List Value)} {A : List Value → Prop} (h : fillB place cs ps = true) {cs' : List Value} (hc : fillC place cs ps = some cs') (h' : A cs') : SxFill place cs ps A := ⟨fillB_P h, hc, h'⟩
def evParts (F : Fr) : List (Nat × Operand) → Option (List (Nat × List Value))
  | [] => some []
  | (i, x) :: r => match ev F x with
    | some v => match evParts F r with
      | some vs => some ((i, v.cells.toList) :: vs)
      | none => none
    | none => none
def placeF (S : Sx) (fs : List (Nat × Nat)) (i : Nat) : Option (Nat × Nat) :=
  match nthF fs i with
  | some (o, t) => match S.sz t with
    | some n => some (o, n)
    | none => none
  | none => none
def zerosL (z : List Value) : Nat → List Value
  | 0 => []
  | n + 1 => z ++ zerosL z n

def sxSlice (S : Sx) (t : Nat) (v : Value) (lo hi : Option Operand) (F : Fr) (H : Hp) (A : Value → Hp → Prop) : Prop :=
  match S.desc t, v with
  | some .string, .string s => match sxOpt S F lo 0, sxOpt S F hi s.size with
    | some l, some h => SxBnd l h s.size fun a b => A (.string (s.extract a b)) H
    | _, _ => False
  | some (.slice e), .slice ao n cap => match sxOpt S F lo 0, sxOpt S F hi n, S.sz e with
    | some l, some h, some k => SxBnd l h cap fun a b => ∀ ao', (a < cap → ao' = ao.map (·.add (a * k))) → (a = cap → ao' = ao) → A (.slice ao' (b - a) (cap - a)) H
    | _, _, _ => False
  | some (.array n e), .pointer (some ⟨g, off, none⟩) => match sxOpt S F lo 0, sxOpt S F hi n, S.sz e with
    | some l, some h, some k => SxBnd l h n fun a b => ∀ off', (a < n → off' = off + a * k) → A (.slice (some ⟨g, off', none⟩) (b - a) (n - a)) H
    | _, _, _ => False
  | _, _ => False
def sxConv (S : Sx) (src dst : Nat) (v : Value) (H : Hp) (A : Value → Hp → Prop) : Prop :=
  match S.desc src, S.desc dst, v with
  | some (.int _), some (.int k), .int _ n => SxRng k n fun r => A (.int k r) H
  | some .string, some .string, .string s => A (.string s) H
  | some .string, some (.slice e), .string s => match S.desc e with
    | some (.int .u8) => SxNew fun g => SxNew fun cap => s.size ≤ cap → A (.slice (some ⟨g, 0, none⟩) s.size cap) (.blk g e (tab cap fun j => .int .u8 ((s.data.toList.getD j 0).toNat : Int)) :: H)
    | _ => False
  | some (.slice e), some .string, .slice ao n _ => match S.desc e with
    | some (.int .u8) => SxStr H ao n fun l => A (.string ⟨l.toArray⟩) H
    | _ => False
  | _, _, v => SxRun S.P (convert src dst v) fun r => A r H
def sxBuiltin (S : Sx) (b : Builtin) (tys : List TypeId) (vs : List Value) (H : Hp) (A : Value → Hp → Prop) : Prop :=
  match b, tys, vs with
  | .len, t :: _, [v] => match S.desc t, v with
    | some .string, .string s => A (.int .i64 (s.size : Nat)) H
    | some (.slice _), .slice _ n _ => A (.int .i64 (n : Nat)) H
    | some (.array n _), _ => A (.int .i64 (n : Nat)) H
    | _, _ => SxLenV S tys v H fun n => A (.int .i64 (n : Nat)) H
  | .min, _, [.int k x, .int k' y] => bif sameK k k' then A (.int k (if y < x then y else x)) H else False
  | .max, _, [.int k x, .int k' y] => bif sameK k k' then A (.int k (if x < y then y else x)) H else False
  | .append, [t, u], [.slice ao n cap, .slice xo m xcap] => bif Nat.beq t u then (match S.desc t with
    | some (.slice e) => match tl S.T e with
      | some ⟨_, k, bt, z⟩ => SxP (z.cells.size = k ∧ 0 < k) (SxApp H ao n cap e k bt xo m xcap fun ao' cap' H' => A (.slice ao' (n + m) cap') H')
      | none => False
    | _ => False) else False
  | .append, [t, u], [.slice ao n cap, .string s] => match S.desc t, S.desc u with
    | some (.slice e), some .string => match tl S.T e with
      | some ⟨.int .u8, 1, 1, .int .u8 0⟩ => SxAppS H ao n cap e s fun ao' cap' H' => A (.slice ao' (n + s.size) cap') H'
      | _ => False
    | _, _ => False
  | b, tys, vs => SxBI S.P b tys vs fun v => A v H
def sxCallee (S : Sx) (W : World) (M : List Nat) (f : Value) (vs : List Value) (H : Hp) (A : Value → Hp → Prop) : Prop :=
  match f with
  | .func (.func n) first captured => bif S.fns.any (Nat.beq n) then (match first.toList, captured.toList with | [], [] => SxCall S W M n vs.toArray H A | u, v => SxCall S W M n (u ++ vs ++ v).toArray H A) else (match first.toList, captured.toList with | [], [] => SxExt S W M n vs.toArray H A | u, v => SxExt S W M n (u ++ vs ++ v).toArray H A)
  | _ => False
/-- A builtin that is about maps, or writes memory. -/
def useSem : Builtin → List Value → Bool
  | .delete, _ => true
  | .clear, _ => true
  | .copy, _ => true
  | _, _ => false
/-- What an operation asks. -/
def sxOp (S : Sx) (W : World) (M : List Nat) (N : Nat) (o : Oper) (F : Fr) (H : Hp) (A : Value → Hp → Prop) : Prop :=
  match o.op with
  | .move x | .assign x => match ev F x with
    | some v => A v H
    | none => False
  | .pick c x y => match ev F c with
    | some (.bool t) => SxIf t (match ev F x with | some v => A v H | none => False) (match ev F y with | some v => A v H | none => False)
    | _ => False
  | .binOp op t x y _ => match ev F x, ev F y with
    | some a, some b => sxBin S op t x y a b fun v => A v H
    | _, _ => False
  | .unOp op _ x => match op, ev F x with
    | .not, some (.bool b) => A (.bool !b) H
    | op, some v => SxRun S.P (Op.unary op v) fun v => A v H
    | _, none => False
  | .convert src dst x => match ev F x with
    | some v => sxConv S src dst v H A
    | none => False
  | .alloc t => match tl S.T t with
    | some ⟨_, n, _, z⟩ => bif S.rows.any (Nat.beq t) then SxP (z.cells.size = n) (SxNew fun g => A (.pointer (some ⟨g, 0, none⟩)) (.row (some ⟨g, 0, none⟩) 1 1 t n z.cells.toList :: H))
      else SxNew fun g => A (.pointer (some ⟨g, 0, none⟩)) (.blk g t z.cells.toList :: H)
    | none => False
  | .box t x => match ev F x with
    | some v => SxNew fun g => A (.pointer (some ⟨g, 0, none⟩)) (.blk g t v.cells.toList :: H)
    | none => False
  | .build t ps => match tl S.T t, evParts F ps.toList with
    | some ⟨d, _, _, z⟩, some vs => match d with
      | .struct fs => bif fs.all (fun f => (S.sz f.2).isSome) then SxFill (placeF S fs) z.cells.toList vs (fun cs => A (.agg cs.toArray) H) else False
      | .array _ e => match S.sz e with
        | some k => SxFill (fun j => some (j * k, k)) z.cells.toList vs (fun cs => A (.agg cs.toArray) H)
        | none => False
      | _ => False
    | _, _ => False
  | .buildSlice t n ps => match S.desc t, evParts F ps.toList with
    | some (.slice e), some vs => match tl S.T e with
      | some ⟨_, k, _, z⟩ => SxP (n * k ≤ 16777216 ∧ z.cells.size = k ∧ 0 < k)
          (SxFill (fun j => some (j * k, k)) (zerosL z.cells.toList n) vs (fun cs => SxNew fun g => A (.slice (some ⟨g, 0, none⟩) n n) (.row (some ⟨g, 0, none⟩) n n e k cs :: H)))
      | none => False
    | _, _ => False
  | .load t x => match tl S.T t, ev F x with
    | some ⟨d, n, _, _⟩, some (.pointer (some ⟨g, off, none⟩)) => bif isAggD d then SxLdN H g off n fun vs => A (.agg vs.toArray) H else SxLd H g off fun v => A v H
    | _, _ => False
  | .store t x y => match S.sz t, ev F x, ev F y with
    | some k, some (.pointer (some ⟨g, off, none⟩)), some v => SxP (v.cells.size = k) (SxSt H g off v.cells.toList fun H' => A undef H')
    | _, _, _ => False
  | .fieldAddr t x f => match S.desc t, ev F x with
    | some (.struct fs), some (.pointer (some ⟨g, off, none⟩)) => match placeF S fs f with
      | some (d, n) => bif Nat.blt 0 n then A (.pointer (some ⟨g, off + d, none⟩)) H else False
      | none => False
    | _, _ => False
  | .nilCheck x => match ev F x with
    | some (.pointer (some a)) => A (.pointer (some a)) H
    | some (.func (.func f) first captured) => A (.func (.func f) first captured) H
    | _ => False
  | .indexAddr t x ix => match S.desc t, ev F x, ev F ix with
    | some (.slice e), some (.slice ao n _), some (.int _ i) => match S.sz e with
      | some k => SxIA H ao n k i fun g off => A (.pointer (some ⟨g, off, none⟩)) H
      | none => False
    | some (.array n e), some (.pointer (some ⟨g, off, none⟩)), some (.int _ i) => match S.sz e with
      | some k => SxIdx i n fun j => A (.pointer (some ⟨g, off + j * k, none⟩)) H
      | none => False
    | _, _, _ => False
  | .index t x ix => match S.desc t, ev F x, ev F ix with
    | some .string, some (.string s), some (.int _ i) => SxIdx i s.size fun j => A (.int .u8 ((s.data.toList.getD j 0).toNat : Int)) H
    | some (.array n e), some (.agg cs), some (.int _ i) => match tl S.T e with
      | some ⟨d, k, _, _⟩ => SxIdx i n fun j => bif isAggD d then SxSub cs.toList (j * k) k fun vs => A (.agg vs.toArray) H else SxNth cs.toList (j * k) fun v => A v H
      | none => False
    | _, _, _ => False
  | .field t x f => match S.desc t, ev F x with
    | some (.struct fs), some (.agg cs) => match nthF fs f with
      | some (o, ft) => match tl S.T ft with
        | some ⟨d, k, _, _⟩ => bif isAggD d then SxSub cs.toList o k fun vs => A (.agg vs.toArray) H else SxNth cs.toList o fun v => A v H
        | none => False
      | none => False
    | _, _ => False
  | .extract x i => match ev F x with
    | some (.tuple vs) => match nthV vs.toList i with
      | some v => A v H
      | none => False
    | _ => False
  | .slice t x lo hi none => match ev F x with
    | some v => sxSlice S t v lo hi F H A
    | none => False
  | .makeSlice t x y => match S.desc t, ev F x, ev F y with
    | some (.slice e), some (.int .i64 l), some (.int .i64 c) => match tl S.T e with
      | some ⟨_, k, bt, z⟩ => SxBnd l c maxLen fun a b => SxP (b * bt ≤ 140737488355328 ∧ z.cells.size = k ∧ 0 < k)
          (SxNew fun g => A (.slice (some ⟨g, 0, none⟩) a b) (.row (some ⟨g, 0, none⟩) a b e k (zerosL z.cells.toList a) :: H))
      | none => False
    | _, _, _ => False
  | .makeFunc fn first captured => match evs F first.toList, evs F captured.toList with
    | some u, some v => A (.func fn u.toArray v.toArray) H
    | _, _ => False
  | .call c => match c.callee, evs F c.args.toList with
    | .builtin b, some vs => bif useSem b vs then SxSem S W M N o F H A else sxBuiltin S b c.argTypes.toList vs H A
    | .value f, some vs => match ev F f with
      | some f => sxCallee S W M f vs H A
      | none => False
    | _, _ => False
  | _ => SxSem S W M N o F H A
end Go.Proofs.YtlmefcepdadfjaaGreat
/- A symbolic walk: what holds of memory is kept. No program is named here. -/
namespace Go.Proofs.YtlmefcepdadfjaaGreat
open Go.RowKit

theorem ev_eval {N : Nat} {F : Fr} {a : Act} (h : Agree N F a) {x : Operand} {v : Value} (hx : ev F x = some v) : a.eval x = v := by
  cases x with
  | tmp t => exact h.slots t v hx
  | const c => exact Option.some.inj hx
  | global g => exact Option.some.inj hx
  | func f => exact Option.some.inj hx
theorem evs_eval {N : Nat} {F : Fr} {a : Act} (h : Agree N F a) : ∀ {xs : List Operand} {vs : List Value}, evs F xs = some vs → xs.map a.eval = vs
  | [], vs, hx => by simp only [evs, Option.some.injEq] at hx; simp [hx]
  | x :: r, vs, hx => by
    unfold evs at hx
    split at hx
    · rename_i v hv
      split at hx
      · rename_i us hu
        simp only [Option.some.injEq] at hx
        subst hx
        rw [List.map_cons, ev_eval h hv, evs_eval h hu]
      · cases hx
    · cases hx
theorem evParts_eval {N : Nat} {F : Fr} {a : Act} (h : Agree N F a) : ∀ {xs : List (Nat × Operand)} {vs : List (Nat × List Value)}, evParts F xs = some vs → xs.map (fun p => (p.1, (a.eval p.2).cells.toList)) = vs
  | [], vs, hx => by simp only [evParts, Option.some.injEq] at hx; simp [hx]
  | (i, x) :: r, vs, hx => by
    unfold evParts at hx
    split at hx
    · rename_i v hv
      split at hx
      · rename_i us hu
        simp only [Option.some.injEq] at hx
        subst hx
        rw [List.map_cons, evParts_eval h hu]
        simp [ev_eval h hv]
      · cases hx
    · cases hx
theorem Agree.put {N : Nat} {F : Fr} {a : Act} (h : Agree N F a) {d : Option Nat} (hd : dstOk N d = true) (v : Value) : Agree N (upd d v F) (a.put d v) := by
  cases d with
  | none => exact h
  | some d =>
    have hlt : d < a.tmps.size := by rw [h.size]; simpa [dstOk] using hd
    refine ⟨by simp [Act.put, h.size], h.defers, fun t u hu => ?_⟩
    simp only [upd, look] at hu
    rw [put_getD a d v t hlt]
    cases hb : Nat.beq d t with
    | true =>
      rw [hb] at hu
      have : d = t := Nat.eq_of_beq_eq_true hb
      subst this
      simp only [cond_true, Option.some.injEq] at hu
      simp [hu]
    | false =>
      rw [hb] at hu
      have : d ≠ t := fun e => by subst e; simp at hb
      rw [if_neg (Ne.symm this)]
      exact h.slots t u hu
theorem Ent.own_uses {e : Ent} {g : Nat} (h : e.own = some g) : e.uses g := by
  cases e with
  | blk b t cs => simp only [Ent.own, Option.some.injEq] at h; exact h.symm
  | rd ao cs => cases h
  | row ao n cap t k cs => exact h
  | gen x => exact x.own_uses g h
theorem Ent.uses_lt {e : Ent} {w : World} {g : Nat} (h : e.Holds w) (hu : e.uses g) : g < w.heap.size := by
  cases e with
  | blk b t cs => rw [show g = b from hu]; exact Blk.lt h
  | rd ao cs =>
    obtain ⟨h1, h2⟩ := hu
    have hl : 0 < cs.length := List.length_pos_iff.2 h1
    obtain ⟨b, off, rfl, hb, _⟩ := h.2 hl
    simp only [Option.map_some, Option.some.injEq] at h2
    exact h2 ▸ hb
  | row ao n cap t k cs =>
    cases ao with
    | none => cases hu
    | some a =>
      simp only [Ent.uses, Option.map_some, Option.some.injEq] at hu
      exact (World.ownsRow.lt h g (by simp [Value.ownBlock, hu])).2
  | gen x => exact x.uses_lt w g h hu
theorem Ent.Holds.kept {e : Ent} {w w' : World} {row : Option Nat} (h : e.Holds w) (hg : w.grownBy w' row) (hr : ∀ g, row = some g → ¬ e.uses g) : e.Holds w' := by
  cases e with
  | blk b t cs => exact Blk.grown h hg (fun hb => hr b hb.symm rfl)
  | rd ao cs =>
    refine ⟨h.1, fun hn => ?_⟩
    obtain ⟨g, off, rfl, h2, h3⟩ := h.2 hn
    refine ⟨g, off, rfl, Nat.lt_of_lt_of_le h2 hg.size, fun j hj => ?_⟩
    rw [← h3 j hj]
    refine World.cell?_of_block (w := w) (hg.block g h2 fun e => hr g e.symm ⟨List.ne_nil_of_length_pos hn, rfl⟩)
  | row ao n cap t k cs =>
    refine World.ownsRow.kept h hg ?_
    cases ao with
    | none => exact .inl rfl
    | some a =>
      right
      intro he
      exact hr a.block (by rw [← he]; rfl) rfl
  | gen x => exact x.kept w w' row h hg hr
theorem Below.toGrown {w w' : World} (h : Below w.heap.size w w') : w.grownBy w' none := ⟨h.os, h.tape, h.output, h.size, fun k hk _ => h.block k hk⟩
theorem Only.toGrown {g : Nat} {w w' : World} (h : Only g w w') : w.grownBy w' (some g) := ⟨h.os, h.tape, h.output, Nat.le_of_eq h.size.symm, fun k _ hk => h.block k fun e => hk (by rw [e])⟩
section
variable {W : World} {M : List Nat} {H : Hp} {w w' : World}
theorem Sat.grow (hs : Sat W M H w) (hb : w.grownBy w' none) : Sat W M H w' := by
  refine ⟨⟨hb.os.trans hs.touch.os, hb.tape.trans hs.touch.tape, hb.output.trans hs.touch.output, Nat.le_trans hs.touch.size hb.size, fun k hk hm => ?_⟩, fun i e hi => (hs.holds i e hi).kept hb (by simp), hs.own, hs.sep⟩
  rw [hb.block k (Nat.lt_of_lt_of_le hk hs.touch.size) (by simp)]
  exact hs.touch.block k hk hm
theorem Sat.below (hs : Sat W M H w) (hb : Below w.heap.size w w') : Sat W M H w' := hs.grow (Below.toGrown hb)
theorem Sat.cons (hs : Sat W M H w) (hb : w.grownBy w' none) {e : Ent} (he : e.Holds w') (hu : ∀ g, e.uses g → w.heap.size ≤ g) : Sat W M (e :: H) w' := by
  have h' := hs.grow hb
  refine ⟨h'.touch, fun i x hi => ?_, fun i x hi g hg => ?_, fun i j a b hij hi hj g hg => ?_⟩
  · cases i with
    | zero => simp at hi; exact hi ▸ he
    | succ i => exact h'.holds i x (by simpa using hi)
  · cases i with
    | zero =>
      simp at hi
      subst hi
      exact .inl (Nat.le_trans hs.touch.size (hu g (Ent.own_uses hg)))
    | succ i => exact hs.own i x (by simpa using hi) g hg
  · cases i with
    | zero =>
      cases j with
      | zero => exact absurd rfl hij
      | succ j =>
        simp at hi hj
        subst hi
        intro hbu
        have h1 := Ent.uses_lt (hs.holds j b hj) hbu
        have h2 := hu g (Ent.own_uses hg)
        omega
    | succ i =>
      cases j with
      | zero =>
        simp at hi hj
        subst hj
        intro hbu
        have h1 := Ent.uses_lt (hs.holds i a hi) (Ent.own_uses hg)
        have h2 := hu g hbu
        omega
      | succ j => exact hs.sep i j a b (fun e => hij (by rw [e])) (by simpa using hi) (by simpa using hj) g hg
theorem Sat.set (hs : Sat W M H w) {p : Nat} {e : Ent} (hp : H[p]? = some e) (hg : w.grownBy w' e.own) {e' : Ent} (he' : e'.Holds w') (hu : ∀ g, e'.uses g → e.own = some g ∨ w.heap.size ≤ g) : Sat W M (H.set p e') w' := by
  have hpl : p < H.length := (List.getElem?_eq_some_iff.1 hp).1
  have get : ∀ i x, (H.set p e')[i]? = some x → (i = p ∧ x = e') ∨ (i ≠ p ∧ H[i]? = some x) := by
    intro i x hi
    rw [List.getElem?_set] at hi
    by_cases h : p = i
    · subst h; simp [hpl] at hi; exact .inl ⟨rfl, hi.symm⟩
    · rw [if_neg h] at hi; exact .inr ⟨fun e => h e.symm, hi⟩
  refine ⟨⟨hg.os.trans hs.touch.os, hg.tape.trans hs.touch.tape, hg.output.trans hs.touch.output, Nat.le_trans hs.touch.size hg.size, fun k hk hm => ?_⟩, fun i x hi => ?_, fun i x hi g hxg => ?_, fun i j a b hij hi hj g hag => ?_⟩
  · rw [hg.block k (Nat.lt_of_lt_of_le hk hs.touch.size) (fun he => by
      rcases hs.own p e hp k he.symm with h | h
      · omega
      · exact hm h)]
    exact hs.touch.block k hk hm
  · rcases get i x hi with ⟨_, rfl⟩ | ⟨hne, hi'⟩
    · exact he'
    · exact (hs.holds i x hi').kept hg fun g hr => hs.sep p i e x (fun e => hne e.symm) hp hi' g hr
  · rcases get i x hi with ⟨_, rfl⟩ | ⟨hne, hi'⟩
    · rcases hu g (Ent.own_uses hxg) with h | h
      · exact hs.own p e hp g h
      · exact .inl (Nat.le_trans hs.touch.size h)
    · exact hs.own i x hi' g hxg
  · rcases get i a hi with ⟨hip, rfl⟩ | ⟨hip, hi'⟩
    · rcases get j b hj with ⟨hjp, rfl⟩ | ⟨hjp, hj'⟩
      · exact absurd (hip.trans hjp.symm) hij
      · intro hbu
        rcases hu g (Ent.own_uses hag) with h | h
        · exact hs.sep p j e b (fun e => hjp e.symm) hp hj' g h hbu
        · have := Ent.uses_lt (hs.holds j b hj') hbu
          omega
    · rcases get j b hj with ⟨hjp, rfl⟩ | ⟨hjp, hj'⟩
      · intro hbu
        rcases hu g hbu with h | h
        · exact hs.sep i p a e hip hi' hp g hag (Ent.own_uses h)
        · have := Ent.uses_lt (hs.holds i a hi') (Ent.own_uses hag)
          omega
      · exact hs.sep i j a b hij hi' hj' g hag
theorem Sat.blk (hs : Sat W M H w) (p : Nat) {g e : Nat} {cs : List Value} (hp : H[p]? = some (.blk g e cs)) : Blk w g e cs := hs.holds p _ hp
theorem Sat.rd (hs : Sat W M H w) (p : Nat) {ao : Option Addr} {cs : List Value} (hp : H[p]? = some (.rd ao cs)) : Rd w ao cs := hs.holds p _ hp
theorem Sat.row (hs : Sat W M H w) (p : Nat) {ao : Option Addr} {n cap e k : Nat} {cs : List Value} (hp : H[p]? = some (.row ao n cap e k cs)) : w.ownsRow 0 e k (.slice ao n cap) n cs := hs.holds p _ hp
/-- Some of what is known, in whatever order. -/
def pickH (H : Hp) : List Nat → Option Hp
  | [] => some []
  | i :: r => match H[i]? with
    | some e => match pickH H r with
      | some es => some (e :: es)
      | none => none
    | none => none
theorem pickH_get : ∀ {ks : List Nat} {H' : Hp}, pickH H ks = some H' → ∀ (i : Nat) (e : Ent), H'[i]? = some e → ∃ k : Nat, ks[i]? = some k ∧ H[k]? = some e
  | [], H', h, i, e, hi => by simp only [pickH, Option.some.injEq] at h; subst h; simp at hi
  | k :: r, H', h, i, e, hi => by
    unfold pickH at h
    split at h
    · rename_i x hx
      split at h
      · rename_i es hes
        simp only [Option.some.injEq] at h
        subst h
        cases i with
        | zero => simp at hi; subst hi; exact ⟨k, by simp, hx⟩
        | succ i =>
          obtain ⟨k', h1, h2⟩ := pickH_get hes i e (by simpa using hi)
          exact ⟨k', by simpa using h1, h2⟩
      · cases h
    · cases h
def nodupB : List Nat → Bool
  | [] => true
  | k :: r => !(r.any (Nat.beq k)) && nodupB r
theorem nodupB_get : ∀ {ks : List Nat}, nodupB ks = true → ∀ (i j k : Nat), i ≠ j → ks[i]? = some k → ks[j]? = some k → False
  | [], _, i, j, k, _, hi, _ => by simp at hi
  | x :: r, h, i, j, k, hij, hi, hj => by
    simp only [nodupB, Bool.and_eq_true, Bool.not_eq_true', List.any_eq_false] at h
    cases i with
    | zero =>
      cases j with
      | zero => exact hij rfl
      | succ j =>
        simp at hi hj
        subst hi
        exact h.1 x (List.mem_of_getElem? hj) (by simp)
    | succ i =>
      cases j with
      | zero =>
        simp at hi hj
        subst hj
        exact h.1 x (List.mem_of_getElem? hi) (by simp)
      | succ j => exact nodupB_get h.2 i j k (fun e => hij (by rw [e])) (by simpa using hi) (by simpa using hj)
theorem Sat.pick (hs : Sat W M H w) {ks : List Nat} {H' : Hp} (hk : pickH H ks = some H') (hn : nodupB ks = true) : Sat W M H' w := by
  refine ⟨hs.touch, fun i e hi => ?_, fun i e hi => ?_, fun i j a b hij hi hj => ?_⟩
  · obtain ⟨k, _, h⟩ := pickH_get hk i e hi
    exact hs.holds k e h
  · obtain ⟨k, _, h⟩ := pickH_get hk i e hi
    exact hs.own k e h
  · obtain ⟨k, h1, h2⟩ := pickH_get hk i a hi
    obtain ⟨l, h3, h4⟩ := pickH_get hk j b hj
    exact hs.sep k l a b (fun e => nodupB_get hn i j k hij h1 (e ▸ h3)) h2 h4
end
theorem new_grown (w : World) (o : Obj) : w.grownBy (w.alloc o) none := World.grownBy_alloc w o none
theorem drew_grown (w : World) : w.grownBy w.drew none := ⟨rfl, rfl, rfl, Nat.le_refl _, fun _ _ _ => rfl⟩
end Go.Proofs.YtlmefcepdadfjaaGreat
