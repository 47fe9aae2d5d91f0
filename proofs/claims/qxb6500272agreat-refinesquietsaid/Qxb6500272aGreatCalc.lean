/-
  A calculus over the heap alone. 'wpx' turns the code of a function into a verification condition; it is sound for 'Code.wp'.
-/
import Derived.Test.Qxb6500272aGreatRows
import Derived.WalkKit
import Derived.StillTail
namespace Go.Proofs.Qxb6500272aGreat
open Go

abbrev Heap := Array Obj

/-- The cell at block b, place o. -/
def rd (H : Heap) (b o : Nat) : Option Value :=
  match H[b]? with
  | some (.cells c _ _) => c[o]?
  | _ => none

/-- n cells from o on may be written. -/
def Wr (H : Heap) (b o n : Nat) : Prop := ∃ c t, H[b]? = some (.cells c t (0, 0)) ∧ o + n ≤ c.size

def hset (H : Heap) (b o : Nat) (v : Value) : Heap :=
  H.modify b fun
    | .cells c elem frozen => .cells (c.setIfInBounds o v) elem frozen
    | x => x

def hsets (H : Heap) (b o : Nat) : List Value → Heap
  | [] => H
  | [v] => hset H b o v
  | v :: vs => hsets (hset H b o v) b (o + 1) vs

/-- The cells l stand from place o on. -/
def RowAt (H : Heap) (b o : Nat) (l : List Value) : Prop := ∀ j, j < l.length → rd H b (o + j) = l[j]?

abbrev str (l : List UInt8) : Value := .string ⟨⟨l⟩⟩
abbrev ptr (b : Nat) : Value := .pointer (some ⟨b, 0, none⟩)

abbrev i64ok (n : Int) : Prop := -9223372036854775808 ≤ n ∧ n ≤ 9223372036854775807

/-! ### The structs -/
structure RefT where
  col : Int
  row : Int
  ac : Bool
  ar : Bool
structure NodeT where
  kind : Int
  op : Int
  a : Int
  b : Int
  n : Int
  r1 : RefT
  r2 : RefT
structure ValT where
  kind : Int
  n : Int
  s : List UInt8
structure TreeT where
  na : Option Addr
  nl : Nat
  nc : Nat
  root : Int
  err : Int
  pos : Int
structure TokT where
  kind : Int
  at_ : Int
  end_ : Int
  op : Int
  n : Int
  r : RefT
structure MarkT where
  kind : Int
  op : Int
  at_ : Int
  n : Int
  link : Int
structure NoteT where
  up : Int
  brk : Bool
structure InstrT where
  do_ : Int
  a : Int
  v : ValT
  set : BitVec 32
structure TallyT where
  bad : ValT
  acc : Int
  count : Int
structure FoldT where
  bad : ValT
  sum : Int
  min : Int
  max : Int
  count : Int
  all : Bool
  some : Bool
structure GapT where
  rows : Bool
  n : Int
  at_ : Int
  step : Int
structure OpT where
  kind : Int
  a : Int
  b : Int
  c : Int
  s : List UInt8
  t : List UInt8

abbrev I (n : Int) : Value := .int .i64 n

def encRef (r : RefT) : List Value := [I r.col, I r.row, .bool r.ac, .bool r.ar]
def encNode (x : NodeT) : List Value := [I x.kind, I x.op, I x.a, I x.b, I x.n, I x.r1.col, I x.r1.row, .bool x.r1.ac, .bool x.r1.ar, I x.r2.col, I x.r2.row, .bool x.r2.ac, .bool x.r2.ar]
def encVal (x : ValT) : List Value := [I x.kind, I x.n, str x.s]
def encTree (x : TreeT) : List Value := [.slice x.na x.nl x.nc, I x.root, I x.err, I x.pos]
def encTok (x : TokT) : List Value := [I x.kind, I x.at_, I x.end_, I x.op, I x.n, I x.r.col, I x.r.row, .bool x.r.ac, .bool x.r.ar]
def encMark (x : MarkT) : List Value := [I x.kind, I x.op, I x.at_, I x.n, I x.link]
def encNote (x : NoteT) : List Value := [I x.up, .bool x.brk]
def encInstr (x : InstrT) : List Value := [I x.do_, I x.a, I x.v.kind, I x.v.n, str x.v.s, .int .u32 x.set.toNat]
def encTally (x : TallyT) : List Value := [I x.bad.kind, I x.bad.n, str x.bad.s, I x.acc, I x.count]
def encFold (x : FoldT) : List Value := [I x.bad.kind, I x.bad.n, str x.bad.s, I x.sum, I x.min, I x.max, I x.count, .bool x.all, .bool x.some]
def encGap (x : GapT) : List Value := [.bool x.rows, I x.n, I x.at_, I x.step]
def encOp (x : OpT) : List Value := [I x.kind, I x.a, I x.b, I x.c, str x.s, str x.t]

/-- A value of a struct type, by the type's number: its payload is handed on. -/
def structOf (t : Nat) (p : List Value → Prop) : Prop :=
  match t with
  | 151 => ∃ x : RefT, p (encRef x)
  | 153 => ∃ x : NodeT, p (encNode x)
  | 94 => ∃ x : ValT, p (encVal x)
  | 131 => ∃ x : TreeT, p (encTree x)
  | 194 => ∃ x : TokT, p (encTok x)
  | 202 => ∃ x : MarkT, p (encMark x)
  | 206 => ∃ x : NoteT, p (encNote x)
  | 218 => ∃ x : InstrT, p (encInstr x)
  | 233 => ∃ x : TallyT, p (encTally x)
  | 237 => ∃ x : FoldT, p (encFold x)
  | 128 => ∃ x : GapT, p (encGap x)
  | 38 => ∃ x : OpT, p (encOp x)
  | _ => False

/-- 0: a struct · 1: int · 2: bool · 3: byte · 4: a set (uint32) · 5: string · 6: a pointer to a whole variable · 7: a slice · 8: a pointer into a row · 9: none -/
def tag (t : Nat) : Nat :=
  match t with
  | 3 => 1 | 67 => 1
  | 4 => 2
  | 5 => 3
  | 71 => 4
  | 9 => 5
  | 27 => 6 | 29 => 6 | 31 => 6 | 39 => 6 | 41 => 6 | 43 => 6 | 45 => 6 | 47 => 6 | 50 => 6 | 86 => 6 | 88 => 6 | 112 => 6 | 165 => 6 | 172 => 6
  | 22 => 7 | 32 => 7 | 61 => 7 | 62 => 7 | 63 => 7 | 64 => 7 | 65 => 7 | 66 => 7 | 70 => 7 | 72 => 7 | 73 => 7 | 76 => 7 | 79 => 7
  | 149 => 8 | 161 => 8
  | 151 => 0 | 153 => 0 | 94 => 0 | 131 => 0 | 194 => 0 | 202 => 0 | 206 => 0 | 218 => 0 | 233 => 0 | 237 => 0 | 128 => 0 | 38 => 0
  | _ => 9

/-- A value of one cell, by the tag: its payload is handed on. -/
def plainOf (g : Nat) (p : Value → Prop) : Prop :=
  match g with
  | 1 => ∃ n : Int, p (.int .i64 n)
  | 2 => ∃ c : Bool, p (.bool c)
  | 3 => ∃ n : Int, p (.int .u8 n)
  | 4 => ∃ s : BitVec 32, p (.int .u32 s.toNat)
  | 5 => ∃ s : List UInt8, p (.string ⟨⟨s⟩⟩)
  | 6 => ∃ q : Nat, p (.pointer (some ⟨q, 0, none⟩))
  | 7 => ∃ (a : Option Addr) (l c : Nat), p (.slice a l c)
  | 8 => ∃ q o : Nat, p (.pointer (some ⟨q, o, none⟩))
  | _ => False

/-- A value of type t. -/
def valOf (t : Nat) (p : Value → Prop) : Prop :=
  match tag t with
  | 0 => structOf t fun l => p (.agg ⟨l⟩)
  | g => plainOf g p

def loadx (t : Nat) (H : Heap) (b o : Nat) (K : Value → Prop) : Prop :=
  match tag t with
  | 0 => structOf t fun l => RowAt H b o l ∧ K (.agg ⟨l⟩)
  | g => plainOf g fun v => rd H b o = some v ∧ K v

/-! ### The state -/
structure St where
  R : List Value
  B : List (Nat × Bool)

def St.know (S : St) (t : Nat) (b : Bool) : St := ⟨S.R, (t, b) :: S.B⟩
def St.put (S : St) (d : Option Nat) (v : Value) (kb : Option Bool) : St :=
  match d with
  | none => S
  | some d => ⟨S.R.set d v, match kb with
    | some b => (d, b) :: S.B.filter fun p => p.1 != d
    | none => S.B.filter fun p => p.1 != d⟩
def ev (S : St) : Operand → Value
  | .tmp t => S.R.getD t undef
  | .const v => v
  | .global g => .pointer (some ⟨g, 0, none⟩)
  | .func f => .func (.func f) #[] #[]
def kbo (S : St) : Operand → Option Bool
  | .const (.bool b) => some b
  | .tmp t => S.B.lookup t
  | _ => none

/-- What a Sem that asks the world nothing comes to. -/
def sval {α : Type} (P : Program) : Sem α → Option α
  | .pure a => some a
  | .program k => sval P (k P)
  | _ => none

/-! ### Calls over the heap -/
def HCalls (P : Program) (f : FuncId) (args : Array Value) (H : Heap) (R : Value → Heap → Prop) : Prop :=
  ∀ w : World, w.heap = H → Calls P f args w fun e w' => ∃ v, e = .returned v ∧ R v w'.heap ∧ w'.os = w.os ∧ w'.output = w.output ∧ w'.tape = w.tape


def tupOf (t : Nat) : List Nat :=
  match t with
  | 25 => [3, 3] | 55 => [9, 4] | 132 => [131, 4] | 140 => [71, 67] | 156 => [9, 67] | 163 => [94, 67] | 168 => [3, 3, 4] | 180 => [71, 4] | 184 => [151, 4] | 244 => [3, 4]
  | _ => []

/-- Of a result of type t. -/
def resx (t : Nat) (v : Value) (K : Value → Prop) : Prop :=
  match t, tupOf t with
  | 0, _ => K v
  | _, [s, t] => valOf s fun a => valOf t fun b => v = .tuple #[a, b] ∧ K (.tuple #[a, b])
  | _, [s, t, r] => valOf s fun a => valOf t fun b => valOf r fun c => v = .tuple #[a, b, c] ∧ K (.tuple #[a, b, c])
  | t, _ => valOf t fun u => v = u ∧ K u

def allStruct (t : Nat) (p : List Value → Prop) : Prop :=
  match t with
  | 151 => ∀ x : RefT, p (encRef x)
  | 153 => ∀ x : NodeT, p (encNode x)
  | 94 => ∀ x : ValT, p (encVal x)
  | 131 => ∀ x : TreeT, p (encTree x)
  | 194 => ∀ x : TokT, p (encTok x)
  | 202 => ∀ x : MarkT, p (encMark x)
  | 206 => ∀ x : NoteT, p (encNote x)
  | 218 => ∀ x : InstrT, p (encInstr x)
  | 233 => ∀ x : TallyT, p (encTally x)
  | 237 => ∀ x : FoldT, p (encFold x)
  | 128 => ∀ x : GapT, p (encGap x)
  | 38 => ∀ x : OpT, p (encOp x)
  | _ => False
def allPlain (g : Nat) (p : Value → Prop) : Prop :=
  match g with
  | 1 => ∀ n : Int, p (.int .i64 n)
  | 2 => ∀ c : Bool, p (.bool c)
  | 3 => ∀ n : Int, p (.int .u8 n)
  | 4 => ∀ s : BitVec 32, p (.int .u32 s.toNat)
  | 5 => ∀ s : List UInt8, p (.string ⟨⟨s⟩⟩)
  | 6 => ∀ q : Nat, p (.pointer (some ⟨q, 0, none⟩))
  | 7 => ∀ (a : Option Addr) (l c : Nat), p (.slice a l c)
  | 8 => ∀ q o : Nat, p (.pointer (some ⟨q, o, none⟩))
  | _ => False
def allOf (t : Nat) (p : Value → Prop) : Prop :=
  match tag t with
  | 0 => allStruct t fun l => p (.agg ⟨l⟩)
  | g => allPlain g p

def lenS (t : Nat) : Nat :=
  match t with
  | 151 => 4 | 153 => 13 | 94 => 3 | 131 => 4 | 194 => 9 | 202 => 5 | 206 => 2 | 218 => 6 | 233 => 5 | 237 => 9 | 128 => 4 | 38 => 6
  | _ => 0
def szOf (P : Program) (t : Nat) : Nat := match P.info? t with | some i => i.size | none => 0
def aggB (P : Program) (t : Nat) : Bool := match P.underlying t with | some (.struct _) => true | some (.array _ _) => true | _ => false
def knownB (P : Program) (t : Nat) : Bool := (P.underlying t).isSome && (P.info? t).isSome
/-- Does the table of tags fit the program at type t? -/
def tyB (P : Program) (t : Nat) : Bool :=
  knownB P t && match tag t with
  | 0 => aggB P t && szOf P t == lenS t
  | 9 => false
  | _ => !aggB P t

def kok (k : IntKind) (n : Int) : Prop :=
  match k with
  | .i64 => i64ok n
  | .u8 => 0 ≤ n ∧ n ≤ 255
  | .u64 => 0 ≤ n ∧ n ≤ 18446744073709551615
  | _ => False

def zrow (P : Program) (e n : Nat) : Array Value :=
  match (P.info? e).bind (·.zero) with
  | some z => (Array.range (n * szOf P e)).map (z.cells[· % z.cells.size]!)
  | none => #[]

/-- The element type of a slice that is made: its zero value has its size, and it is no great one. -/
def elemB (P : Program) (e : Nat) : Bool :=
  knownB P e && match P.info? e with
  | some i => Nat.ble i.bytes 1000 && match i.zero with
    | some z => z.cells.size == i.size
    | none => false
  | none => false

def RowO (H : Heap) (a : Option Addr) (l : List Value) : Prop := (a = none ∧ l = []) ∨ ∃ b o, a = some ⟨b, o, none⟩ ∧ RowAt H b o l

def okCell : Value → Bool
  | .agg _ => false
  | .tuple _ => false
  | _ => true

/-- Equality of two rows of cells (a struct's). -/
def eqCells : List Value → List Value → Bool
  | .int _ m :: xs, .int _ n :: ys => decide (m = n) && eqCells xs ys
  | .bool m :: xs, .bool n :: ys => (m == n) && eqCells xs ys
  | .string ⟨⟨m⟩⟩ :: xs, .string ⟨⟨n⟩⟩ :: ys => (m == n) && eqCells xs ys
  | [], [] => true
  | _, _ => false

def shapeOK (t : Nat) (l : List Value) : Bool :=
  match t, l with
  | 94, [.int .i64 _, .int .i64 _, .string ⟨⟨_⟩⟩] => true
  | 153, [.int .i64 _, .int .i64 _, .int .i64 _, .int .i64 _, .int .i64 _, .int .i64 _, .int .i64 _, .bool _, .bool _, .int .i64 _, .int .i64 _, .bool _, .bool _] => true
  | _, _ => false

def binx (op : BinOp) (t : Nat) (x y : Value) (K : Value → Prop) : Prop :=
  match op, x, y with
  | .add, .int .i64 m, .int .i64 n => ∃ r : Int, ((i64ok (m + n) ∧ r = m + n) ∨ r = IntKind.wrap .i64 (m + n)) ∧ K (.int .i64 r)
  | .sub, .int .i64 m, .int .i64 n => i64ok (m - n) ∧ K (.int .i64 (m - n))
  | .mul, .int .i64 m, .int .i64 n => i64ok (m * n) ∧ K (.int .i64 (m * n))
  | .quo, .int .i64 m, .int .i64 n => n ≠ 0 ∧ i64ok (m.tdiv n) ∧ K (.int .i64 (m.tdiv n))
  | .rem, .int .i64 m, .int .i64 n => n ≠ 0 ∧ K (.int .i64 (m.tmod n))
  | .eql, .int .i64 m, .int .i64 n => K (.bool (decide (m = n)))
  | .neq, .int .i64 m, .int .i64 n => K (.bool (!decide (m = n)))
  | .lss, .int .i64 m, .int .i64 n => K (.bool (decide (m < n)))
  | .leq, .int .i64 m, .int .i64 n => K (.bool (decide (m ≤ n)))
  | .gtr, .int .i64 m, .int .i64 n => K (.bool (decide (n < m)))
  | .geq, .int .i64 m, .int .i64 n => K (.bool (decide (n ≤ m)))
  | .sub, .int .u8 m, .int .u8 n => (0 ≤ m - n ∧ m - n ≤ 255) ∧ K (.int .u8 (m - n))
  | .eql, .int .u8 m, .int .u8 n => K (.bool (decide (m = n)))
  | .neq, .int .u8 m, .int .u8 n => K (.bool (!decide (m = n)))
  | .lss, .int .u8 m, .int .u8 n => K (.bool (decide (m < n)))
  | .leq, .int .u8 m, .int .u8 n => K (.bool (decide (m ≤ n)))
  | .gtr, .int .u8 m, .int .u8 n => K (.bool (decide (n < m)))
  | .geq, .int .u8 m, .int .u8 n => K (.bool (decide (n ≤ m)))
  | .eql, .int .u32 m, .int .u32 n => K (.bool (decide (m = n)))
  | .neq, .int .u32 m, .int .u32 n => K (.bool (!decide (m = n)))
  | .and, .int .u32 m, .int .u32 n => ∃ a b : BitVec 32, m = a.toNat ∧ n = b.toNat ∧ K (.int .u32 (a &&& b).toNat)
  | .or, .int .u32 m, .int .u32 n => ∃ a b : BitVec 32, m = a.toNat ∧ n = b.toNat ∧ K (.int .u32 (a ||| b).toNat)
  | .andNot, .int .u32 m, .int .u32 n => ∃ a b : BitVec 32, m = a.toNat ∧ n = b.toNat ∧ K (.int .u32 (a &&& ~~~b).toNat)
  | .sub, .int .u32 m, .int .u32 n => ∃ a b : BitVec 32, m = a.toNat ∧ n = b.toNat ∧ K (.int .u32 (a - b).toNat)
  | .shl, .int .u32 m, .int _ n => ∃ a : BitVec 32, m = a.toNat ∧ 0 ≤ n ∧ K (.int .u32 (a <<< n.toNat).toNat)
  | .shr, .int .u32 m, .int _ n => ∃ a : BitVec 32, m = a.toNat ∧ 0 ≤ n ∧ K (.int .u32 (a >>> n.toNat).toNat)
  | .eql, .bool a, .bool b => bif t == 4 then K (.bool (a == b)) else False
  | .add, .string ⟨⟨a⟩⟩, .string ⟨⟨b⟩⟩ => a.length + b.length ≤ 9223372036854775807 ∧ K (.string ⟨⟨a ++ b⟩⟩)
  | .eql, .string ⟨⟨a⟩⟩, .string ⟨⟨b⟩⟩ => K (.bool (a == b))
  | .neq, .string ⟨⟨a⟩⟩, .string ⟨⟨b⟩⟩ => K (.bool (!(a == b)))
  | .lss, .string ⟨⟨a⟩⟩, .string ⟨⟨b⟩⟩ => K (.bool (Op.bytesLess a b))
  | .gtr, .string ⟨⟨a⟩⟩, .string ⟨⟨b⟩⟩ => K (.bool (!(Op.bytesLess a b || a == b)))
  | .eql, .agg ⟨a⟩, .agg ⟨b⟩ => bif shapeOK t a && shapeOK t b then K (.bool (eqCells a b)) else False
  | .neq, .agg ⟨a⟩, .agg ⟨b⟩ => bif shapeOK t a && shapeOK t b then K (.bool (!eqCells a b)) else False
  | _, _, _ => False

def slicex (P : Program) (t : Nat) (x : Value) (lo hi : Option Value) (K : Value → Prop) : Prop :=
  match P.underlying t, x, lo, hi with
  | some .string, .string ⟨⟨l⟩⟩, some (.int _ m), none => 0 ≤ m ∧ m ≤ l.length ∧ K (.string ⟨⟨l.drop m.toNat⟩⟩)
  | some .string, .string ⟨⟨l⟩⟩, none, some (.int _ n) => 0 ≤ n ∧ n ≤ l.length ∧ K (.string ⟨⟨l.take n.toNat⟩⟩)
  | some .string, .string ⟨⟨l⟩⟩, some (.int _ m), some (.int _ n) => 0 ≤ m ∧ m ≤ n ∧ n ≤ l.length ∧ K (.string ⟨⟨(l.take n.toNat).drop m.toNat⟩⟩)
  | some (.slice _), .slice a _ c, none, some (.int _ n) => 0 ≤ n ∧ n ≤ c ∧ K (.slice a n.toNat c)
  | some (.slice e), .slice a l c, some (.int _ m), none => ∃ b o, a = some ⟨b, o, none⟩ ∧ 0 ≤ m ∧ m ≤ l ∧ m < c ∧ K (.slice (some ⟨b, o + m.toNat * szOf P e, none⟩) (l - m.toNat) (c - m.toNat))
  | some (.array n e), .pointer (some ⟨b, o, none⟩), some (.int _ m), none => 0 ≤ m ∧ m < n ∧ K (.slice (some ⟨b, o + m.toNat * szOf P e, none⟩) (n - m.toNat) (n - m.toNat))
  | _, _, _, _ => False

def sliceB (P : Program) (t : Nat) : Bool := match P.underlying t with | some .string => true | some (.slice e) => knownB P e | some (.array _ e) => knownB P e | _ => false
def u8B (P : Program) (e : Nat) : Bool := match P.underlying e with | some (.int .u8) => true | _ => false

/-- The cells of a slice literal: the model's own reckoning. -/
def bslice (P : Program) (t len : Nat) (parts : Array (Nat × Value)) : Option (Nat × Array Value) :=
  match P.underlying t with
  | some (.slice e) =>
    if len * szOf P e > 2 ^ 24 ∨ len * szOf P e = 0 then none else
    match (P.info? e).bind (·.zero) with
    | some z => (Instr.fill (fun i => some (i * szOf P e, szOf P e)) ((Array.range (len * szOf P e)).map (z.cells[· % z.cells.size]!)) parts.toList).map fun c => (e, c)
    | none => none
  | _ => none

def pureB : Op → Bool
  | .build .. | .fieldAddr .. | .extract .. => true
  | _ => false

/-- Function f has a body. -/
def callB (P : Program) (f : Nat) : Bool := match P.funcs[f]? with | some fn => fn.body.isSome && !(fn.name == "runtime.NumGoroutine") | none => false

def callx (P : Program) (c : Call) (t : Nat) (S : St) (H : Heap) (K : Value → Heap → Prop) : Prop :=
  match c.callee with
  | .value (.func f) => bif callB P f then HCalls P f ⟨c.args.toList.map (ev S)⟩ H (fun v H' => resx t v fun u => K u H') else False
  | .builtin .len =>
    match c.args.toList.map (ev S), c.argTypes.toList.map P.underlying with
    | [.string ⟨⟨l⟩⟩], [some .string] => K (.int .i64 l.length) H
    | [.slice _ n _], [some (.slice _)] => K (.int .i64 n) H
    | _, _ => False
  | .builtin .append =>
    match c.args.toList.map (ev S), c.argTypes.toList.map P.underlying with
    | [.slice a sl sc, .slice xa n _], [some (.slice e), some (.slice _)] =>
      ∃ old new : List Value, old.length = sl * szOf P e ∧ new.length = n * szOf P e ∧ RowO H a old ∧ RowO H xa new ∧ sl + n ≤ 1000 ∧ elemB P e = true ∧
      (sl + n ≤ sc → ∃ b o, a = some ⟨b, o, none⟩ ∧ Wr H b (o + sl * szOf P e) (n * szOf P e) ∧ new.all okCell = true ∧ ∀ H', H' = hsets H b (o + sl * szOf P e) new → K (.slice (some ⟨b, o, none⟩) (sl + n) sc) H') ∧
      (sc < sl + n → ∀ (cap : Nat) (H' : Heap), sl + n ≤ cap → H' = H.push (.cells (⟨old ++ new⟩ ++ zrow P e (cap - (sl + n))) e) → K (.slice (some ⟨H.size, 0, none⟩) (sl + n) cap) H')
    | _, _ => False
  | .builtin .copy =>
    match c.args.toList.map (ev S), c.argTypes.toList.map P.underlying with
    | [.slice a dl _, .slice xa sl _], [some (.slice e), some (.slice _)] =>
      knownB P e = true ∧ ∃ cs : List Value, cs.length = (Nat.min sl dl) * szOf P e ∧ RowO H xa cs ∧ ∃ b o, a = some ⟨b, o, none⟩ ∧ Wr H b o cs.length ∧ cs.all okCell = true ∧ ∀ H', H' = hsets H b o cs → K (.int .i64 (Nat.min sl dl)) H'
    | [.slice a dl _, .string ⟨⟨l⟩⟩], [some (.slice e), some .string] =>
      (knownB P e = true) ∧ szOf P e = 1 ∧ ∃ b o, a = some ⟨b, o, none⟩ ∧ Wr H b o (Nat.min l.length dl) ∧ ∀ H', H' = hsets H b o ((l.take (Nat.min l.length dl)).map fun c => .int .u8 c.toNat) → K (.int .i64 (Nat.min l.length dl)) H'
    | _, _ => False
  | _ => False

/-- One operation. -/
def opx (P : Program) (o : Oper) (S : St) (H : Heap) (K : St → Heap → Prop) : Prop :=
  match o.op with
  | .move x => K (S.put o.dst (ev S x) (kbo S x)) H
  | .assign x => K (S.put o.dst (ev S x) (kbo S x)) H
  | .pick c a b =>
    match kbo S c, c, ev S c with
    | some true, _, .bool _ => K (S.put o.dst (ev S a) (kbo S a)) H
    | some false, _, .bool _ => K (S.put o.dst (ev S b) (kbo S b)) H
    | none, .tmp t, .bool q => (q = true → K ((S.know t true).put o.dst (ev S a) (kbo S a)) H) ∧ (q = false → K ((S.know t false).put o.dst (ev S b) (kbo S b)) H)
    | _, _, _ => False
  | .unOp .not _ x =>
    match ev S x with
    | .bool q => K (S.put o.dst (.bool (!q)) ((kbo S x).map (!·))) H
    | _ => False
  | .unOp .neg _ x =>
    match ev S x with
    | .int .i64 n => i64ok (-n) ∧ K (S.put o.dst (.int .i64 (-n)) none) H
    | _ => False
  | .binOp op t x y _ => binx op t (ev S x) (ev S y) fun v => K (S.put o.dst v none) H
  | .alloc t =>
    match (P.info? t).bind (·.zero) with
    | some z => ∀ H', H' = H.push (.cells z.cells t) → K (S.put o.dst (.pointer (some ⟨H.size, 0, none⟩)) none) H'
    | none => False
  | .box t x => ∀ H', H' = H.push (.cells (ev S x).cells t) → K (S.put o.dst (.pointer (some ⟨H.size, 0, none⟩)) none) H'
  | .load t x =>
    match ev S x with
    | .pointer (some ⟨b, p, none⟩) => bif tyB P t then loadx t H b p fun v => K (S.put o.dst v none) H else False
    | _ => False
  | .store t x v =>
    match ev S x with
    | .pointer (some ⟨b, p, none⟩) =>
      bif knownB P t && (ev S v).cells.toList.length == szOf P t && (ev S v).cells.toList.all okCell then
        Wr H b p (ev S v).cells.toList.length ∧ ∀ H', H' = hsets H b p (ev S v).cells.toList → K (S.put o.dst undef none) H'
      else False
    | _ => False
  | .nilCheck x =>
    match ev S x with
    | .pointer (some q) => K (S.put o.dst (.pointer (some q)) none) H
    | _ => False
  | .indexAddr t x i =>
    match P.underlying t, ev S x, ev S i with
    | some (.slice e), .slice a l _, .int _ n => ∃ b p, a = some ⟨b, p, none⟩ ∧ 0 ≤ n ∧ n < l ∧ (knownB P e = true) ∧ K (S.put o.dst (.pointer (some ⟨b, p + n.toNat * szOf P e, none⟩)) none) H
    | some (.array m e), .pointer (some ⟨b, p, none⟩), .int _ n => 0 ≤ n ∧ n < m ∧ (knownB P e = true) ∧ K (S.put o.dst (.pointer (some ⟨b, p + n.toNat * szOf P e, none⟩)) none) H
    | _, _, _ => False
  | .index t x i =>
    match P.underlying t, ev S x, ev S i with
    | some .string, .string ⟨⟨l⟩⟩, .int _ n => 0 ≤ n ∧ n < l.length ∧ K (S.put o.dst (.int .u8 (l.getD n.toNat 0).toNat) none) H
    | _, _, _ => False
  | .slice t x lo hi none => bif sliceB P t then slicex P t (ev S x) (lo.map (ev S)) (hi.map (ev S)) (fun v => K (S.put o.dst v none) H) else False
  | .convert s d x =>
    match P.underlying s, P.underlying d, ev S x with
    | some (.int _), some (.int k), .int _ n => kok k n ∧ K (S.put o.dst (.int k n) none) H
    | some (.slice e), some .string, .slice a l _ =>
      u8B P e = true ∧ ∃ b p, a = some ⟨b, p, none⟩ ∧ ∃ s : List UInt8, s.length = l ∧ RowAt H b p (s.map fun c => .int .u8 c.toNat) ∧ K (S.put o.dst (.string ⟨⟨s⟩⟩) none) H
    | _, _, _ => False
  | .makeSlice t l c =>
    match P.underlying t, ev S l, ev S c with
    | some (.slice e), .int .i64 n, .int .i64 m => n = m ∧ 0 ≤ n ∧ n ≤ 1048576 ∧ elemB P e = true ∧
        ∀ H', H' = H.push (.cells (zrow P e n.toNat) e) → K (S.put o.dst (.slice (some ⟨H.size, 0, none⟩) n.toNat n.toNat) none) H'
    | _, _, _ => False
  | .buildSlice t len parts =>
    match bslice P t len ⟨parts.toList.map fun p => (p.1, ev S p.2)⟩ with
    | some (e, cs) => ∀ H', H' = H.push (.cells cs e) → K (S.put o.dst (.slice (some ⟨H.size, 0, none⟩) len len) none) H'
    | none => False
  | .call c => callx P c o.type S H fun v H' => K (S.put o.dst v none) H'
  | .build t parts =>
    match sval P (Instr.build t ⟨parts.toList.map fun p => (p.1, ev S p.2)⟩) with
    | some v => K (S.put o.dst v none) H
    | none => False
  | .fieldAddr s x f =>
    match sval P (Instr.fieldAt s (ev S x) f) with
    | some v => K (S.put o.dst v none) H
    | none => False
  | .extract t i =>
    match sval P (Instr.extract (ev S t) i) with
    | some v => K (S.put o.dst v none) H
    | none => False
  | _ => False

/-- One operation behind its guard. -/
def opg (P : Program) (ops : Array Oper) (o : Oper) (S : St) (H : Heap) (K : St → Heap → Prop) : Prop :=
  match o.guard with
  | none => opx P o S H K
  | some (j, want) =>
    match (ops.toList[j]?).bind (·.dst) with
    | none => False
    | some d =>
      match S.B.lookup d, S.R.getD d undef with
      | some c, .bool _ => bif c == want then opx P o S H K else K (S.put o.dst undef none) H
      | none, .bool c => (c = want → opx P o (S.know d want) H K) ∧ (c = !want → K ((S.know d !want).put o.dst undef none) H)
      | _, _ => K (S.put o.dst undef none) H

def regx (P : Program) (ops : Array Oper) : List Oper → St → Heap → (St → Heap → Prop) → Prop
  | [], S, H, K => K S H
  | o :: rest, S, H, K => opg P ops o S H fun S' H' => regx P ops rest S' H' K

/-! ### Code -/
structure Ann where
  loops : List (Nat × List (Nat × Nat))
  cuts : List (Nat × List (Nat × Nat))
  raws : List (Nat × List (Nat × Nat))

def dstsOps (ops : List Oper) : List Nat := ops.filterMap (·.dst)
def dsts : Code → List Nat
  | .region _ ops _ => dstsOps ops.toList
  | .seq a b => dsts a ++ dsts b
  | .cond _ a b => dsts a ++ dsts b
  | .block _ a => dsts a
  | .loop a => dsts a
  | .scope a => dsts a
  | _ => []
def firstReg : Code → Option Nat
  | .region id _ _ => some id
  | .seq a b => match firstReg a with | some i => some i | none => firstReg b
  | .block _ a => firstReg a
  | .loop a => firstReg a
  | _ => none

def havoc (u : Nat → Value) (mods : List Nat) (R : List Value) : List Value := mods.foldl (fun R s => R.set s (u s)) R
def setLive : List (Nat × Nat) → List Value → (List Value → Prop) → Prop
  | [], R, k => k R
  | (s, t) :: ls, R, k => allOf t fun v => setLive ls (R.set s v) k
def live (ls : List (Nat × Nat)) (R : List Value) : List Value := ls.map fun p => R.getD p.1 undef
def keepB (mods : List Nat) (B : List (Nat × Bool)) : List (Nat × Bool) := B.filter fun p => !mods.contains p.1

/-- Which regions that draw are walked in the order of the text: the operations ahead of place n read, the others are forced. -/
def actB : Op → Bool
  | .alloc _ | .box .. | .buildSlice .. | .store .. | .makeSlice .. => true
  | .call c => match c.callee with | .builtin .len => false | _ => true
  | _ => false
def actIdx (ops : List Oper) : Nat := (ops.findIdx fun o => actB o.op)
def drawB (ops : Array Oper) : Bool :=
  if actIdx ops.toList < ops.toList.length then Region.lexTailB .any ops (actIdx ops.toList) else Region.lexB .any ops

/-- An operation that only reads, or only makes new memory. -/
def softB : Op → Bool
  | .alloc _ | .box .. | .buildSlice .. | .makeSlice .. => true
  | o => !actB o
/-- An operation that does not look at the heap. -/
def blindB : Op → Bool
  | .load .. | .convert .. => false
  | o => !actB o
/-- Operation i may be taken first: it reads; whatever else may come ahead of it leaves what it reads alone. -/
def firstB (ops : Array Oper) (listed : Array Bool) (i : Nat) : Bool :=
  match ops.toList[i]? with
  | some oi => !actB oi.op && Region.free .any ops listed i && (blindB oi.op || (List.range ops.toList.length).all fun j => j == i || listed.getD j true || match ops.toList[j]? with
      | some oj => oj.after.any (fun e => Region.binds .any e && e.on == i) || softB oj.op
      | none => true)
  | none => false
def allx (p : Nat → Prop) : List Nat → Prop
  | [] => True
  | [i] => p i
  | i :: l => p i ∧ allx p l
/-- A region that draws: what reads is taken first; else every operation that may come up. -/
def anyx (P : Program) (ops : Array Oper) : Nat → Array Bool → St → Heap → (St → Heap → Prop) → Prop
  | 0, listed, S, H, K => bif (Region.ready .any ops listed).isEmpty then K S H else False
  | n + 1, listed, S, H, K =>
    match Region.ready .any ops listed with
    | [] => K S H
    | rs =>
      match rs.find? (firstB ops listed) with
      | some i => match ops.toList[i]? with
        | some o => opg P ops o S H fun S' H' => anyx P ops n (listed.setIfInBounds i true) S' H' K
        | none => False
      | none => allx (fun i => match ops.toList[i]? with
        | some o => opg P ops o S H fun S' H' => anyx P ops n (listed.setIfInBounds i true) S' H' K
        | none => False) rs

/-- The value of a live slot has the form of its type. -/
def tyV (g : Nat) (v : Value) : Bool :=
  match g, v with
  | 1, .int .i64 _ => true
  | 2, .bool _ => true
  | 3, .int .u8 _ => true
  | 5, .string ⟨⟨_⟩⟩ => true
  | 6, .pointer (some ⟨_, 0, none⟩) => true
  | 7, .slice _ _ _ => true
  | 8, .pointer (some ⟨_, _, none⟩) => true
  | _, _ => false
def tyLive : List (Nat × Nat) → List Value → Prop → Prop
  | [], _, k => k
  | (s, t) :: ls, R, k =>
    match tag t with
    | 4 => (∃ b : BitVec 32, R.getD s undef = .int .u32 b.toNat) ∧ tyLive ls R k
    | g => bif tyV g (R.getD s undef) then tyLive ls R k else False

/-- A region that draws, in whatever order. -/
def RawOK (P : Program) (id : Nat) (ops : Array Oper) (ls : List (Nat × Nat)) (R : List Value) (H : Heap) (M : List Value → Heap → Prop) : Prop :=
  ∀ w : World, w.heap = H → (Code.region id ops true).wp P (fun e a w' => e = .normal ∧ a.defers = [] ∧ w'.os = w.os ∧ w'.output = w.output ∧ w'.tape = w.tape ∧
    a.tmps.size = R.length ∧ (∀ s, s ∉ dstsOps ops.toList → a.tmps.toList[s]? = R[s]?) ∧ tyLive ls a.tmps.toList (M (live ls a.tmps.toList) w'.heap)) ⟨⟨R⟩, []⟩ w

def wpx (P : Program) (A : Ann) : Nat → Code → (Exit → St → Heap → Prop) → St → Heap → Prop
  | _, .skip, Q, S, H => Q .normal S H
  | _, .region id ops draw, Q, S, H =>
    match A.raws.lookup id with
    | none =>
      bif draw && !drawB ops then anyx P ops ops.toList.length (Array.replicate ops.toList.length false) S H fun S' H' => Q .normal S' H'
      else regx P ops ops.toList S H fun S' H' => Q .normal S' H'
    | some ls => ∃ M : List Value → Heap → Prop, RawOK P id ops ls S.R H M ∧
        ∀ (H1 : Heap) (u : Nat → Value), setLive ls (havoc u (dstsOps ops.toList) S.R) fun R1 => M (live ls R1) H1 → Q .normal ⟨R1, keepB (dstsOps ops.toList) S.B⟩ H1
  | cur, .seq a b, Q, S, H =>
    match (firstReg b).bind (A.cuts.lookup ·) with
    | none => wpx P A cur a (fun e S' H' => match e with | .normal => wpx P A cur b Q S' H' | e => Q e S' H') S H
    | some ls => ∃ M : List Value → Heap → Prop, wpx P A cur a (fun e S' H' => match e with | .normal => tyLive ls S'.R (M (live ls S'.R) H') | e => Q e S' H') S H ∧
        ∀ (H1 : Heap) (u : Nat → Value), setLive ls (havoc u (dsts a) S.R) fun R1 => M (live ls R1) H1 → wpx P A cur b Q ⟨R1, keepB (dsts a) S.B⟩ H1
  | cur, .cond c a b, Q, S, H =>
    match kbo S c, c, ev S c with
    | some true, _, .bool _ => wpx P A cur a Q S H
    | some false, _, .bool _ => wpx P A cur b Q S H
    | none, .tmp t, .bool q => (q = true → wpx P A cur a Q (S.know t true) H) ∧ (q = false → wpx P A cur b Q (S.know t false) H)
    | _, _, _ => False
  | _, .block id a, Q, S, H => wpx P A id a (fun e S' H' => match e with | .exit j => bif j == id then Q .normal S' H' else Q (.exit j) S' H' | e => Q e S' H') S H
  | cur, .loop a, Q, S, H =>
    match A.loops.lookup cur with
    | none => False
    | some ls => ∃ (J : List Value → Heap → Prop) (μ : List Value → Heap → Nat), tyLive ls S.R (J (live ls S.R) H) ∧
        ∀ (H1 : Heap) (u : Nat → Value), setLive ls (havoc u (dsts a) S.R) fun R1 => J (live ls R1) H1 →
          wpx P A cur a (fun e S' H' => match e with | .normal => tyLive ls S'.R (J (live ls S'.R) H') ∧ μ (live ls S'.R) H' < μ (live ls R1) H1 | e => Q e S' H') ⟨R1, keepB (dsts a) S.B⟩ H1
  | _, .exit id, Q, S, H => Q (.exit id) S H
  | _, .ret, Q, S, H => Q .ret S H
  | _, _, _, _, _ => False

def resv (P : Program) (r : ResultVar) (S : St) (H : Heap) (K : Value → Prop) : Prop :=
  match r with
  | .tmp t => K (S.R.getD t undef)
  | .cell a t =>
    match S.R.getD a undef with
    | .pointer (some ⟨b, p, none⟩) => bif tyB P t then loadx t H b p K else False
    | _ => False

def postx (P : Program) (fn : Func) (R : Value → Heap → Prop) (e : Exit) (S : St) (H : Heap) : Prop :=
  match e with
  | .normal | .ret =>
    match fn.results.toList with
    | [] => R (.tuple #[]) H
    | [r] => resv P r S H fun v => R v H
    | [r, s] => resv P r S H fun v => resv P s S H fun u => R (.tuple #[v, u]) H
    | [r, s, t] => resv P r S H fun v => resv P s S H fun u => resv P t S H fun x => R (.tuple #[v, u, x]) H
    | _ => False
  | _ => False

/-- Each region that draws is walked in the order of the text, or raw. -/
def drawsB (A : Ann) : Code → Bool
  | .region id ops draw => match A.raws.lookup id with | some _ => draw | none => !draw || Region.noSelect ops
  | .seq a b => drawsB A a && drawsB A b
  | .cond _ a b => drawsB A a && drawsB A b
  | .block _ a => drawsB A a
  | .loop a => drawsB A a
  | _ => true
def bodyOf (fn : Func) : Code := fn.body.getD .skip
/-- What the kernel looks at once a function. -/
def goodB (P : Program) (A : Ann) (fn : Func) : Bool := fn.body.isSome && P.follows .mixedOrders && drawsB A (bodyOf fn)

def initR (args : List Value) (n : Nat) : List Value := args ++ List.replicate (n - args.length) undef

end Go.Proofs.Qxb6500272aGreat
