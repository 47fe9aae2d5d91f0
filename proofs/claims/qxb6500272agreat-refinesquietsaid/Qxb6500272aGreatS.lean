import Derived.Test.Qxb6500272aGreatW
/- The state of each object; what each function computes. Printed by tools/mkall.py. -/
namespace Go.Proofs.Qxb6500272aGreat
open Go
set_option linter.unusedVariables false
set_option linter.unusedSimpArgs false
set_option maxHeartbeats 4000000

structure FoS where
  toks : List TokT
  nt : Int
  k : Int
  pos : Int
  arena : List NodeT
  nn : Int
  opnd : List Int
  nv : Int
  ops : List MarkT
  no : Int
  have_ : Bool
  done : Bool
  err : Int
  bad : Int
  notes : List NoteT
  out : List Int
  w : Int
structure FL where
  toks : Nat
  arena : Nat
  opnd : Nat
  ops : Nat
  notes : Nat
  out : Nat
def oF (z : Nat) (L : FL) (S : FoS) : List Ent := List.flatten [cellE 69 z [Value.slice (some ⟨L.toks, 0, none⟩) 41 41, I S.nt, I S.k, I S.pos, Value.slice (some ⟨L.arena, 0, none⟩) 24 24, I S.nn, Value.slice (some ⟨L.opnd, 0, none⟩) 41 41, I S.nv, Value.slice (some ⟨L.ops, 0, none⟩) 41 41, I S.no, Value.bool S.have_, Value.bool S.done, I S.err, I S.bad, Value.slice (some ⟨L.notes, 0, none⟩) 24 24, Value.slice (some ⟨L.out, 0, none⟩) 288 288, I S.w], cellE 194 L.toks (List.flatMap encTok S.toks), cellE 153 L.arena (List.flatMap encNode S.arena), cellE 3 L.opnd (List.flatMap encI S.opnd), cellE 202 L.ops (List.flatMap encMark S.ops), cellE 206 L.notes (List.flatMap encNote S.notes), cellE 5 L.out (List.flatMap encC S.out)]
theorem open_F {H : Heap} {cs : List (List Ent)} {F : List Ent} {z : Nat} {L : FL} {S : FoS} (h : Own H (oF z L S :: cs) F) : Own H (cellE 69 z [Value.slice (some ⟨L.toks, 0, none⟩) 41 41, I S.nt, I S.k, I S.pos, Value.slice (some ⟨L.arena, 0, none⟩) 24 24, I S.nn, Value.slice (some ⟨L.opnd, 0, none⟩) 41 41, I S.nv, Value.slice (some ⟨L.ops, 0, none⟩) 41 41, I S.no, Value.bool S.have_, Value.bool S.done, I S.err, I S.bad, Value.slice (some ⟨L.notes, 0, none⟩) 24 24, Value.slice (some ⟨L.out, 0, none⟩) 288 288, I S.w] :: cellE 194 L.toks (List.flatMap encTok S.toks) :: cellE 153 L.arena (List.flatMap encNode S.arena) :: cellE 3 L.opnd (List.flatMap encI S.opnd) :: cellE 202 L.ops (List.flatMap encMark S.ops) :: cellE 206 L.notes (List.flatMap encNote S.notes) :: cellE 5 L.out (List.flatMap encC S.out) :: cs) F := h.cast (by simp [oF])
theorem close_F {H : Heap} {cs : List (List Ent)} {F : List Ent} {z : Nat} (L : FL) (S : FoS) (h : Own H (cellE 69 z [Value.slice (some ⟨L.toks, 0, none⟩) 41 41, I S.nt, I S.k, I S.pos, Value.slice (some ⟨L.arena, 0, none⟩) 24 24, I S.nn, Value.slice (some ⟨L.opnd, 0, none⟩) 41 41, I S.nv, Value.slice (some ⟨L.ops, 0, none⟩) 41 41, I S.no, Value.bool S.have_, Value.bool S.done, I S.err, I S.bad, Value.slice (some ⟨L.notes, 0, none⟩) 24 24, Value.slice (some ⟨L.out, 0, none⟩) 288 288, I S.w] :: cellE 194 L.toks (List.flatMap encTok S.toks) :: cellE 153 L.arena (List.flatMap encNode S.arena) :: cellE 3 L.opnd (List.flatMap encI S.opnd) :: cellE 202 L.ops (List.flatMap encMark S.ops) :: cellE 206 L.notes (List.flatMap encNote S.notes) :: cellE 5 L.out (List.flatMap encC S.out) :: cs) F) : Own H (oF z L S :: cs) F := h.cast (by simp [oF])

structure VS where
  f : FoS
  code : List InstrT
  start : Int
  cells : BitVec 32
  owner : List Int
  stack : List ValT
  top : Int
  folds : List TallyT
  deep : Int
structure VL where
  f : Nat
  fl : FL
  code : Nat
  owner : Nat
  stack : Nat
  folds : Nat
def oV (z : Nat) (L : VL) (S : VS) : List Ent := List.flatten [cellE 75 z [Value.pointer (some ⟨L.f, 0, none⟩), Value.slice (some ⟨L.code, 0, none⟩) 48 48, I S.start, Value.int .u32 (S.cells.toNat : Int), Value.slice (some ⟨L.owner, 0, none⟩) 24 24, Value.slice (some ⟨L.stack, 0, none⟩) 24 24, I S.top, Value.slice (some ⟨L.folds, 0, none⟩) 24 24, I S.deep], oF L.f L.fl S.f, cellE 218 L.code (List.flatMap encInstr S.code), cellE 3 L.owner (List.flatMap encI S.owner), cellE 94 L.stack (List.flatMap encVal S.stack), cellE 233 L.folds (List.flatMap encTally S.folds)]
theorem open_V {H : Heap} {cs : List (List Ent)} {F : List Ent} {z : Nat} {L : VL} {S : VS} (h : Own H (oV z L S :: cs) F) : Own H (cellE 75 z [Value.pointer (some ⟨L.f, 0, none⟩), Value.slice (some ⟨L.code, 0, none⟩) 48 48, I S.start, Value.int .u32 (S.cells.toNat : Int), Value.slice (some ⟨L.owner, 0, none⟩) 24 24, Value.slice (some ⟨L.stack, 0, none⟩) 24 24, I S.top, Value.slice (some ⟨L.folds, 0, none⟩) 24 24, I S.deep] :: oF L.f L.fl S.f :: cellE 218 L.code (List.flatMap encInstr S.code) :: cellE 3 L.owner (List.flatMap encI S.owner) :: cellE 94 L.stack (List.flatMap encVal S.stack) :: cellE 233 L.folds (List.flatMap encTally S.folds) :: cs) F := h.cast (by simp [oV])
theorem close_V {H : Heap} {cs : List (List Ent)} {F : List Ent} {z : Nat} (L : VL) (S : VS) (h : Own H (cellE 75 z [Value.pointer (some ⟨L.f, 0, none⟩), Value.slice (some ⟨L.code, 0, none⟩) 48 48, I S.start, Value.int .u32 (S.cells.toNat : Int), Value.slice (some ⟨L.owner, 0, none⟩) 24 24, Value.slice (some ⟨L.stack, 0, none⟩) 24 24, I S.top, Value.slice (some ⟨L.folds, 0, none⟩) 24 24, I S.deep] :: oF L.f L.fl S.f :: cellE 218 L.code (List.flatMap encInstr S.code) :: cellE 3 L.owner (List.flatMap encI S.owner) :: cellE 94 L.stack (List.flatMap encVal S.stack) :: cellE 233 L.folds (List.flatMap encTally S.folds) :: cs) F) : Own H (oV z L S :: cs) F := h.cast (by simp [oV])

structure GS where
  reads : List (BitVec 32)
  readBy : List (BitVec 32)
  level : List Int
  cyclic : BitVec 32
  need : List Int
  touched : Int
structure GL where
  reads : Nat
  readBy : Nat
  level : Nat
  need : Nat
def oG (z : Nat) (L : GL) (S : GS) : List Ent := List.flatten [cellE 78 z [Value.slice (some ⟨L.reads, 0, none⟩) 24 24, Value.slice (some ⟨L.readBy, 0, none⟩) 24 24, Value.slice (some ⟨L.level, 0, none⟩) 24 24, Value.int .u32 (S.cyclic.toNat : Int), Value.slice (some ⟨L.need, 0, none⟩) 24 24, I S.touched], cellE 71 L.reads (List.flatMap encU S.reads), cellE 71 L.readBy (List.flatMap encU S.readBy), cellE 3 L.level (List.flatMap encI S.level), cellE 3 L.need (List.flatMap encI S.need)]
theorem open_G {H : Heap} {cs : List (List Ent)} {F : List Ent} {z : Nat} {L : GL} {S : GS} (h : Own H (oG z L S :: cs) F) : Own H (cellE 78 z [Value.slice (some ⟨L.reads, 0, none⟩) 24 24, Value.slice (some ⟨L.readBy, 0, none⟩) 24 24, Value.slice (some ⟨L.level, 0, none⟩) 24 24, Value.int .u32 (S.cyclic.toNat : Int), Value.slice (some ⟨L.need, 0, none⟩) 24 24, I S.touched] :: cellE 71 L.reads (List.flatMap encU S.reads) :: cellE 71 L.readBy (List.flatMap encU S.readBy) :: cellE 3 L.level (List.flatMap encI S.level) :: cellE 3 L.need (List.flatMap encI S.need) :: cs) F := h.cast (by simp [oG])
theorem close_G {H : Heap} {cs : List (List Ent)} {F : List Ent} {z : Nat} (L : GL) (S : GS) (h : Own H (cellE 78 z [Value.slice (some ⟨L.reads, 0, none⟩) 24 24, Value.slice (some ⟨L.readBy, 0, none⟩) 24 24, Value.slice (some ⟨L.level, 0, none⟩) 24 24, Value.int .u32 (S.cyclic.toNat : Int), Value.slice (some ⟨L.need, 0, none⟩) 24 24, I S.touched] :: cellE 71 L.reads (List.flatMap encU S.reads) :: cellE 71 L.readBy (List.flatMap encU S.readBy) :: cellE 3 L.level (List.flatMap encI S.level) :: cellE 3 L.need (List.flatMap encI S.need) :: cs) F) : Own H (oG z L S :: cs) F := h.cast (by simp [oG])

structure KS where
  ev : VS
  net : GS
  raw : List (List UInt8)
  shown : List ValT
structure KL where
  ev : Nat
  evl : VL
  net : Nat
  netl : GL
  raw : Nat
  shown : Nat
def oK (z : Nat) (L : KL) (S : KS) : List Ent := List.flatten [cellE 81 z [Value.pointer (some ⟨L.ev, 0, none⟩), Value.pointer (some ⟨L.net, 0, none⟩), Value.slice (some ⟨L.raw, 0, none⟩) 24 24, Value.slice (some ⟨L.shown, 0, none⟩) 24 24], oV L.ev L.evl S.ev, oG L.net L.netl S.net, cellE 9 L.raw (List.flatMap encS S.raw), cellE 94 L.shown (List.flatMap encVal S.shown)]
theorem open_K {H : Heap} {cs : List (List Ent)} {F : List Ent} {z : Nat} {L : KL} {S : KS} (h : Own H (oK z L S :: cs) F) : Own H (cellE 81 z [Value.pointer (some ⟨L.ev, 0, none⟩), Value.pointer (some ⟨L.net, 0, none⟩), Value.slice (some ⟨L.raw, 0, none⟩) 24 24, Value.slice (some ⟨L.shown, 0, none⟩) 24 24] :: oV L.ev L.evl S.ev :: oG L.net L.netl S.net :: cellE 9 L.raw (List.flatMap encS S.raw) :: cellE 94 L.shown (List.flatMap encVal S.shown) :: cs) F := h.cast (by simp [oK])
theorem close_K {H : Heap} {cs : List (List Ent)} {F : List Ent} {z : Nat} (L : KL) (S : KS) (h : Own H (cellE 81 z [Value.pointer (some ⟨L.ev, 0, none⟩), Value.pointer (some ⟨L.net, 0, none⟩), Value.slice (some ⟨L.raw, 0, none⟩) 24 24, Value.slice (some ⟨L.shown, 0, none⟩) 24 24] :: oV L.ev L.evl S.ev :: oG L.net L.netl S.net :: cellE 9 L.raw (List.flatMap encS S.raw) :: cellE 94 L.shown (List.flatMap encVal S.shown) :: cs) F) : Own H (oK z L S :: cs) F := h.cast (by simp [oK])

structure ES where
  f : FoS
  k : KS
  buf : List (List UInt8)
structure EL where
  f : Nat
  fl : FL
  k : Nat
  kl : KL
  buf : Nat
def oE (z : Nat) (L : EL) (S : ES) : List Ent := List.flatten [cellE 83 z [Value.pointer (some ⟨L.f, 0, none⟩), Value.pointer (some ⟨L.k, 0, none⟩), Value.slice (some ⟨L.buf, 0, none⟩) 24 24], oF L.f L.fl S.f, oK L.k L.kl S.k, cellE 9 L.buf (List.flatMap encS S.buf)]
theorem open_E {H : Heap} {cs : List (List Ent)} {F : List Ent} {z : Nat} {L : EL} {S : ES} (h : Own H (oE z L S :: cs) F) : Own H (cellE 83 z [Value.pointer (some ⟨L.f, 0, none⟩), Value.pointer (some ⟨L.k, 0, none⟩), Value.slice (some ⟨L.buf, 0, none⟩) 24 24] :: oF L.f L.fl S.f :: oK L.k L.kl S.k :: cellE 9 L.buf (List.flatMap encS S.buf) :: cs) F := h.cast (by simp [oE])
theorem close_E {H : Heap} {cs : List (List Ent)} {F : List Ent} {z : Nat} (L : EL) (S : ES) (h : Own H (cellE 83 z [Value.pointer (some ⟨L.f, 0, none⟩), Value.pointer (some ⟨L.k, 0, none⟩), Value.slice (some ⟨L.buf, 0, none⟩) 24 24] :: oF L.f L.fl S.f :: oK L.k L.kl S.k :: cellE 9 L.buf (List.flatMap encS S.buf) :: cs) F) : Own H (oE z L S :: cs) F := h.cast (by simp [oE])

structure BS where
  e : ES
  pool : List (List UInt8)
  turned : List (BitVec 32)
  base : Int
  undos : Int
  redos : Int
  was : List (List UInt8)
  out : List Int
structure BL where
  e : Nat
  el : EL
  pool : Nat
  turned : Nat
  was : Nat
  out : Nat
def oB (z : Nat) (L : BL) (S : BS) : List Ent := List.flatten [cellE 85 z [Value.pointer (some ⟨L.e, 0, none⟩), Value.slice (some ⟨L.pool, 0, none⟩) 288 288, Value.slice (some ⟨L.turned, 0, none⟩) 6 6, I S.base, I S.undos, I S.redos, Value.slice (some ⟨L.was, 0, none⟩) 24 24, Value.slice (some ⟨L.out, 0, none⟩) 1056 1056], oE L.e L.el S.e, cellE 9 L.pool (List.flatMap encS S.pool), cellE 71 L.turned (List.flatMap encU S.turned), cellE 9 L.was (List.flatMap encS S.was), cellE 5 L.out (List.flatMap encC S.out)]
theorem open_B {H : Heap} {cs : List (List Ent)} {F : List Ent} {z : Nat} {L : BL} {S : BS} (h : Own H (oB z L S :: cs) F) : Own H (cellE 85 z [Value.pointer (some ⟨L.e, 0, none⟩), Value.slice (some ⟨L.pool, 0, none⟩) 288 288, Value.slice (some ⟨L.turned, 0, none⟩) 6 6, I S.base, I S.undos, I S.redos, Value.slice (some ⟨L.was, 0, none⟩) 24 24, Value.slice (some ⟨L.out, 0, none⟩) 1056 1056] :: oE L.e L.el S.e :: cellE 9 L.pool (List.flatMap encS S.pool) :: cellE 71 L.turned (List.flatMap encU S.turned) :: cellE 9 L.was (List.flatMap encS S.was) :: cellE 5 L.out (List.flatMap encC S.out) :: cs) F := h.cast (by simp [oB])
theorem close_B {H : Heap} {cs : List (List Ent)} {F : List Ent} {z : Nat} (L : BL) (S : BS) (h : Own H (cellE 85 z [Value.pointer (some ⟨L.e, 0, none⟩), Value.slice (some ⟨L.pool, 0, none⟩) 288 288, Value.slice (some ⟨L.turned, 0, none⟩) 6 6, I S.base, I S.undos, I S.redos, Value.slice (some ⟨L.was, 0, none⟩) 24 24, Value.slice (some ⟨L.out, 0, none⟩) 1056 1056] :: oE L.e L.el S.e :: cellE 9 L.pool (List.flatMap encS S.pool) :: cellE 71 L.turned (List.flatMap encU S.turned) :: cellE 9 L.was (List.flatMap encS S.was) :: cellE 5 L.out (List.flatMap encC S.out) :: cs) F) : Own H (oB z L S :: cs) F := h.cast (by simp [oB])

structure FMS where
  parses : Int
  prints : Int
  last : List UInt8
structure FML where
  dummy : Unit
def oFM (z : Nat) (L : FML) (S : FMS) : List Ent := List.flatten [cellE 111 z [I S.parses, I S.prints, str S.last]]
theorem open_FM {H : Heap} {cs : List (List Ent)} {F : List Ent} {z : Nat} {L : FML} {S : FMS} (h : Own H (oFM z L S :: cs) F) : Own H (cellE 111 z [I S.parses, I S.prints, str S.last] :: cs) F := h.cast (by simp [oFM])
theorem close_FM {H : Heap} {cs : List (List Ent)} {F : List Ent} {z : Nat} (L : FML) (S : FMS) (h : Own H (cellE 111 z [I S.parses, I S.prints, str S.last] :: cs) F) : Own H (oFM z L S :: cs) F := h.cast (by simp [oFM])

structure VMS where
  f : FMS
  cells : Int
  reads : Int
structure VML where
  f : Nat
  fl : FML
def oVM (z : Nat) (L : VML) (S : VMS) : List Ent := List.flatten [cellE 123 z [Value.pointer (some ⟨L.f, 0, none⟩), I S.cells, I S.reads], oFM L.f L.fl S.f]
theorem open_VM {H : Heap} {cs : List (List Ent)} {F : List Ent} {z : Nat} {L : VML} {S : VMS} (h : Own H (oVM z L S :: cs) F) : Own H (cellE 123 z [Value.pointer (some ⟨L.f, 0, none⟩), I S.cells, I S.reads] :: oFM L.f L.fl S.f :: cs) F := h.cast (by simp [oVM])
theorem close_VM {H : Heap} {cs : List (List Ent)} {F : List Ent} {z : Nat} (L : VML) (S : VMS) (h : Own H (cellE 123 z [Value.pointer (some ⟨L.f, 0, none⟩), I S.cells, I S.reads] :: oFM L.f L.fl S.f :: cs) F) : Own H (oVM z L S :: cs) F := h.cast (by simp [oVM])

structure GMS where
  reads : List (BitVec 32)
  sets : Int
  asks : Int
structure GML where
  reads : Nat
def oGM (z : Nat) (L : GML) (S : GMS) : List Ent := List.flatten [cellE 190 z [Value.slice (some ⟨L.reads, 0, none⟩) 24 24, I S.sets, I S.asks], cellE 71 L.reads (List.flatMap encU S.reads)]
theorem open_GM {H : Heap} {cs : List (List Ent)} {F : List Ent} {z : Nat} {L : GML} {S : GMS} (h : Own H (oGM z L S :: cs) F) : Own H (cellE 190 z [Value.slice (some ⟨L.reads, 0, none⟩) 24 24, I S.sets, I S.asks] :: cellE 71 L.reads (List.flatMap encU S.reads) :: cs) F := h.cast (by simp [oGM])
theorem close_GM {H : Heap} {cs : List (List Ent)} {F : List Ent} {z : Nat} (L : GML) (S : GMS) (h : Own H (cellE 190 z [Value.slice (some ⟨L.reads, 0, none⟩) 24 24, I S.sets, I S.asks] :: cellE 71 L.reads (List.flatMap encU S.reads) :: cs) F) : Own H (oGM z L S :: cs) F := h.cast (by simp [oGM])

structure KMS where
  v : VMS
  raw : List (List UInt8)
  shown : List ValT
  sets : Int
structure KML where
  v : Nat
  vl : VML
  raw : Nat
  shown : Nat
def oKM (z : Nat) (L : KML) (S : KMS) : List Ent := List.flatten [cellE 115 z [Value.pointer (some ⟨L.v, 0, none⟩), Value.slice (some ⟨L.raw, 0, none⟩) 24 24, Value.slice (some ⟨L.shown, 0, none⟩) 24 24, I S.sets], oVM L.v L.vl S.v, cellE 9 L.raw (List.flatMap encS S.raw), cellE 94 L.shown (List.flatMap encVal S.shown)]
theorem open_KM {H : Heap} {cs : List (List Ent)} {F : List Ent} {z : Nat} {L : KML} {S : KMS} (h : Own H (oKM z L S :: cs) F) : Own H (cellE 115 z [Value.pointer (some ⟨L.v, 0, none⟩), Value.slice (some ⟨L.raw, 0, none⟩) 24 24, Value.slice (some ⟨L.shown, 0, none⟩) 24 24, I S.sets] :: oVM L.v L.vl S.v :: cellE 9 L.raw (List.flatMap encS S.raw) :: cellE 94 L.shown (List.flatMap encVal S.shown) :: cs) F := h.cast (by simp [oKM])
theorem close_KM {H : Heap} {cs : List (List Ent)} {F : List Ent} {z : Nat} (L : KML) (S : KMS) (h : Own H (cellE 115 z [Value.pointer (some ⟨L.v, 0, none⟩), Value.slice (some ⟨L.raw, 0, none⟩) 24 24, Value.slice (some ⟨L.shown, 0, none⟩) 24 24, I S.sets] :: oVM L.v L.vl S.v :: cellE 9 L.raw (List.flatMap encS S.raw) :: cellE 94 L.shown (List.flatMap encVal S.shown) :: cs) F) : Own H (oKM z L S :: cs) F := h.cast (by simp [oKM])

structure EMS where
  f : FMS
  k : KMS
  sets : Int
structure EML where
  f : Nat
  fl : FML
  k : Nat
  kl : KML
def oEM (z : Nat) (L : EML) (S : EMS) : List Ent := List.flatten [cellE 91 z [Value.pointer (some ⟨L.f, 0, none⟩), Value.pointer (some ⟨L.k, 0, none⟩), I S.sets], oFM L.f L.fl S.f, oKM L.k L.kl S.k]
theorem open_EM {H : Heap} {cs : List (List Ent)} {F : List Ent} {z : Nat} {L : EML} {S : EMS} (h : Own H (oEM z L S :: cs) F) : Own H (cellE 91 z [Value.pointer (some ⟨L.f, 0, none⟩), Value.pointer (some ⟨L.k, 0, none⟩), I S.sets] :: oFM L.f L.fl S.f :: oKM L.k L.kl S.k :: cs) F := h.cast (by simp [oEM])
theorem close_EM {H : Heap} {cs : List (List Ent)} {F : List Ent} {z : Nat} (L : EML) (S : EMS) (h : Own H (cellE 91 z [Value.pointer (some ⟨L.f, 0, none⟩), Value.pointer (some ⟨L.k, 0, none⟩), I S.sets] :: oFM L.f L.fl S.f :: oKM L.k L.kl S.k :: cs) F) : Own H (oEM z L S :: cs) F := h.cast (by simp [oEM])

structure RDS where
  s : List UInt8
  i : Int
  n : List NodeT
  err : Int
  pos : Int
structure RDL where
  n : Nat
  n_x : List NodeT
def oRD (z : Nat) (L : RDL) (S : RDS) : List Ent := List.flatten [cellE 174 z [str S.s, I S.i, (gsl L.n L.n_x S.n), I S.err, I S.pos], (gch 153 encNode L.n L.n_x S.n)]
theorem open_RD {H : Heap} {cs : List (List Ent)} {F : List Ent} {z : Nat} {L : RDL} {S : RDS} (h : Own H (oRD z L S :: cs) F) : Own H (cellE 174 z [str S.s, I S.i, (gsl L.n L.n_x S.n), I S.err, I S.pos] :: (gch 153 encNode L.n L.n_x S.n) :: cs) F := h.cast (by simp [oRD])
theorem close_RD {H : Heap} {cs : List (List Ent)} {F : List Ent} {z : Nat} (L : RDL) (S : RDS) (h : Own H (cellE 174 z [str S.s, I S.i, (gsl L.n L.n_x S.n), I S.err, I S.pos] :: (gch 153 encNode L.n L.n_x S.n) :: cs) F) : Own H (oRD z L S :: cs) F := h.cast (by simp [oRD])

structure BMS where
  e : EMS
  past : List (List (List UInt8))
  next : List (List (List UInt8))
structure BML where
  e : Nat
  el : EML
  past : SnL
  next : SnL
def oBM (z : Nat) (L : BML) (S : BMS) : List Ent := List.flatten [cellE 53 z [Value.pointer (some ⟨L.e, 0, none⟩), (Gsl L.past S.past), (Gsl L.next S.next)], oEM L.e L.el S.e, (Gch L.past S.past), (Gch L.next S.next)]
theorem open_BM {H : Heap} {cs : List (List Ent)} {F : List Ent} {z : Nat} {L : BML} {S : BMS} (h : Own H (oBM z L S :: cs) F) : Own H (cellE 53 z [Value.pointer (some ⟨L.e, 0, none⟩), (Gsl L.past S.past), (Gsl L.next S.next)] :: oEM L.e L.el S.e :: (Gch L.past S.past) :: (Gch L.next S.next) :: cs) F := h.cast (by simp [oBM])
theorem close_BM {H : Heap} {cs : List (List Ent)} {F : List Ent} {z : Nat} (L : BML) (S : BMS) (h : Own H (cellE 53 z [Value.pointer (some ⟨L.e, 0, none⟩), (Gsl L.past S.past), (Gsl L.next S.next)] :: oEM L.e L.el S.e :: (Gch L.past S.past) :: (Gch L.next S.next) :: cs) F) : Own H (oBM z L S :: cs) F := h.cast (by simp [oBM])

structure BXS where
  e : EMS
  past : Value
  next : Value
structure BXL where
  e : Nat
  el : EML
def oBX (z : Nat) (L : BXL) (S : BXS) : List Ent := List.flatten [cellE 53 z [Value.pointer (some ⟨L.e, 0, none⟩), S.past, S.next], oEM L.e L.el S.e]
theorem open_BX {H : Heap} {cs : List (List Ent)} {F : List Ent} {z : Nat} {L : BXL} {S : BXS} (h : Own H (oBX z L S :: cs) F) : Own H (cellE 53 z [Value.pointer (some ⟨L.e, 0, none⟩), S.past, S.next] :: oEM L.e L.el S.e :: cs) F := h.cast (by simp [oBX])
theorem close_BX {H : Heap} {cs : List (List Ent)} {F : List Ent} {z : Nat} (L : BXL) (S : BXS) (h : Own H (cellE 53 z [Value.pointer (some ⟨L.e, 0, none⟩), S.past, S.next] :: oEM L.e L.el S.e :: cs) F) : Own H (oBX z L S :: cs) F := h.cast (by simp [oBX])

structure DS where
  text : List UInt8
  saved : List UInt8
  fresh : Bool
  past : List (List (List UInt8))
  next : List (List (List UInt8))
  quiet : Bool
structure DL where
  past : SnL
  next : SnL
def oD (z : Nat) (L : DL) (S : DS) : List Ent := List.flatten [cellE 34 z [str S.text, str S.saved, Value.bool S.fresh, (Gsl L.past S.past), (Gsl L.next S.next), Value.bool S.quiet], (Gch L.past S.past), (Gch L.next S.next)]
theorem open_D {H : Heap} {cs : List (List Ent)} {F : List Ent} {z : Nat} {L : DL} {S : DS} (h : Own H (oD z L S :: cs) F) : Own H (cellE 34 z [str S.text, str S.saved, Value.bool S.fresh, (Gsl L.past S.past), (Gsl L.next S.next), Value.bool S.quiet] :: (Gch L.past S.past) :: (Gch L.next S.next) :: cs) F := h.cast (by simp [oD])
theorem close_D {H : Heap} {cs : List (List Ent)} {F : List Ent} {z : Nat} (L : DL) (S : DS) (h : Own H (cellE 34 z [str S.text, str S.saved, Value.bool S.fresh, (Gsl L.past S.past), (Gsl L.next S.next), Value.bool S.quiet] :: (Gch L.past S.past) :: (Gch L.next S.next) :: cs) F) : Own H (oD z L S :: cs) F := h.cast (by simp [oD])

/-! ### by hand: form.New -/
def s12 : FoS := ⟨List.replicate 41 dTok, 0, 0, 0, List.replicate 24 dNode, 0, List.replicate 41 0, 0, List.replicate 41 dMark, 0, false, false, 0, 0, List.replicate 24 dNote, List.replicate 288 0, 0⟩
/-- e2e/val.New -/
def s13 (S0 : FoS) : VS :=
  (⟨S0, (List.replicate 48 dInstr), (48 : Int), (0 : BitVec 32), (List.replicate 24 (0 : Int)), (List.replicate 24 dVal), (0 : Int), (List.replicate 24 dTally), (0 : Int)⟩ : VS)
/-- e2e/graph.New -/
def s14  : GS :=
  (⟨(List.replicate 24 (0 : BitVec 32)), (List.replicate 24 (0 : BitVec 32)), (List.replicate 24 (0 : Int)), (0 : BitVec 32), (List.replicate 24 (0 : Int)), (0 : Int)⟩ : GS)
/-- e2e/calc.New -/
def s15 (S0 : VS) (S1 : GS) : KS :=
  (⟨S0, S1, (List.replicate 24 ([] : List UInt8)), (List.replicate 24 dVal)⟩ : KS)
/-- e2e/edit.New -/
def s16 (S0 : FoS) (S1 : KS) : ES :=
  (⟨S0, S1, (List.replicate 24 ([] : List UInt8))⟩ : ES)
/-- e2e/book.New -/
def s17 (S0 : ES) : BS :=
  (⟨S0, (List.replicate 288 ([] : List UInt8)), (List.replicate 6 (0 : BitVec 32)), (0 : Int), (0 : Int), (0 : Int), (List.replicate 24 ([] : List UInt8)), (List.replicate 1056 (0 : Int))⟩ : BS)
/-- e2e/tower.New -/
def s8  : BS :=
  (s17 (s16 s12 (s15 (s13 s12) s14)))
/-- e2e/formm.New -/
def s31  : FMS :=
  (⟨(0 : Int), (0 : Int), ([] : List UInt8)⟩ : FMS)
/-- e2e/valm.New -/
def s63  : VMS :=
  (⟨s31, (0 : Int), (0 : Int)⟩ : VMS)
/-- e2e/calcm.New -/
def s32  : KMS :=
  (⟨s63, (List.replicate 24 ([] : List UInt8)), (List.replicate 24 dVal), (0 : Int)⟩ : KMS)
/-- e2e/editm.New -/
def s18  : EMS :=
  (⟨s31, s32, (0 : Int)⟩ : EMS)
/-- e2e/bookm.New -/
def s9  : BMS :=
  (⟨s18, [], []⟩ : BMS)
/-- (*e2e/calc.Calc).Raw -/
def s86 (S0 : KS) (z1 : Int) : Option (List UInt8) :=
  (if z1 < (0 : Int) then
    some ([] : List UInt8)
  else
    (if (24 : Int) ≤ z1 then
      some ([] : List UInt8)
    else
      (getN S0.raw 24 z1).bind fun x25 =>
        some x25))
/-- (*e2e/edit.Editor).Raw -/
def s64 (S0 : ES) (z1 : Int) : Option (List UInt8) :=
  (s86 S0.k z1).bind fun r21 =>
    some r21
/-- (*e2e/book.Book).Raw -/
def s33 (S0 : BS) (z1 : Int) : Option (List UInt8) :=
  (s64 S0.e z1).bind fun r21 =>
    some r21
/-- (*e2e/calcm.Calc).Raw -/
def s87 (S0 : KMS) (z1 : Int) : Option (List UInt8) :=
  (if z1 < (0 : Int) then
    some ([] : List UInt8)
  else
    (if (24 : Int) ≤ z1 then
      some ([] : List UInt8)
    else
      (getN S0.raw 24 z1).bind fun x25 =>
        some x25))
/-- (*e2e/editm.Editor).Raw -/
def s65 (S0 : EMS) (z1 : Int) : Option (List UInt8) :=
  (s87 S0.k z1).bind fun r21 =>
    some r21
/-- (*e2e/bookm.Book).Raw -/
def s34 (S0 : BMS) (z1 : Int) : Option (List UInt8) :=
  (s65 S0.e z1).bind fun r21 =>
    some r21
/-- e2e/towerlaw.SameRaw -/
def s19 (S0 : BS) (S1 : BMS) (z2 : Int) : Option Bool :=
  (s33 S0 z2).bind fun r21 =>
    (s34 S1 z2).bind fun r24 =>
    some (r21 == r24)
/-- (*e2e/calc.Calc).Value -/
def s88 (S0 : KS) (z1 : Int) : Option ValT :=
  (if z1 < (0 : Int) then
    some (⟨(0 : Int), (0 : Int), ([] : List UInt8)⟩ : ValT)
  else
    (if (24 : Int) ≤ z1 then
      some (⟨(0 : Int), (0 : Int), ([] : List UInt8)⟩ : ValT)
    else
      (getN S0.shown 24 z1).bind fun x27 =>
        some x27))
/-- (*e2e/edit.Editor).Value -/
def s66 (S0 : ES) (z1 : Int) : Option ValT :=
  (s88 S0.k z1).bind fun r22 =>
    some r22
/-- (*e2e/book.Book).Value -/
def s35 (S0 : BS) (z1 : Int) : Option ValT :=
  (s66 S0.e z1).bind fun r22 =>
    some r22
/-- (*e2e/calcm.Calc).Value -/
def s89 (S0 : KMS) (z1 : Int) : Option ValT :=
  (if z1 < (0 : Int) then
    some (⟨(0 : Int), (0 : Int), ([] : List UInt8)⟩ : ValT)
  else
    (if (24 : Int) ≤ z1 then
      some (⟨(0 : Int), (0 : Int), ([] : List UInt8)⟩ : ValT)
    else
      (getN S0.shown 24 z1).bind fun x27 =>
        some x27))
/-- (*e2e/editm.Editor).Value -/
def s67 (S0 : EMS) (z1 : Int) : Option ValT :=
  (s89 S0.k z1).bind fun r22 =>
    some r22
/-- (*e2e/bookm.Book).Value -/
def s36 (S0 : BMS) (z1 : Int) : Option ValT :=
  (s67 S0.e z1).bind fun r22 =>
    some r22
/-- e2e/towerlaw.SameValue -/
def s20 (S0 : BS) (S1 : BMS) (z2 : Int) : Option Bool :=
  (s35 S0 z2).bind fun r21 =>
    (s36 S1 z2).bind fun r26 =>
    some (eqCells (encVal r21) (encVal r26))
/-- (*e2e/book.Book).Undos -/
def s37 (S0 : BS) : Int :=
  S0.undos
/-- (*e2e/bookm.Book).Undos -/
def s38 (S0 : BMS) : Int :=
  ((S0.past.length : Nat) : Int)
/-- e2e/towerlaw.SameUndos -/
def s21 (S0 : BS) (S1 : BMS) (S2 : DS) : Bool :=
  (if (s37 S0) = (s38 S1) then
    decide ((s37 S0) = ((S2.past.length : Nat) : Int))
  else
    false)
/-- (*e2e/book.Book).Redos -/
def s39 (S0 : BS) : Int :=
  S0.redos
/-- (*e2e/bookm.Book).Redos -/
def s40 (S0 : BMS) : Int :=
  ((S0.next.length : Nat) : Int)
/-- e2e/towerlaw.SameRedos -/
def s22 (S0 : BS) (S1 : BMS) (S2 : DS) : Bool :=
  (if (s39 S0) = (s40 S1) then
    decide ((s39 S0) = ((S2.next.length : Nat) : Int))
  else
    false)
/-- (*e2e/book.Book).Save -/
def k41_2 (x77 : Int) (rec78 : Int → Int → BS → Option (BS × List UInt8)) (x124 : Int) (S121 : BS) : Option (BS × List UInt8) :=
  ck (i64ok (x77 + (1 : Int))) <|
    (rec78 x124 (x77 + (1 : Int)) S121)

def l41_3_st (n_ : Nat) (rec78 : Int → Int → BS → Option (BS × List UInt8)) (x76 : Int) (x77 : Int) (S73 : BS) : Option (BS × List UInt8) :=
  (if x77 < (24 : Int) then
    (s64 S73.e x77).bind fun r126 =>
      (if (r126 == ([] : List UInt8)) = true then
      (k41_2 x77 rec78 x76 S73)
    else
      ck (i64ok (Int.tdiv x77 (10 : Int))) <|
        ck (i64ok ((48 : Int) + (Int.tdiv x77 (10 : Int)))) <|
        ck (0 ≤ ((48 : Int) + (Int.tdiv x77 (10 : Int))) ∧ ((48 : Int) + (Int.tdiv x77 (10 : Int))) ≤ 255) <|
        (getN S73.out 1056 x76).bind fun x134 =>
        ck (i64ok (x76 + (1 : Int))) <|
        ck (i64ok ((48 : Int) + (Int.tmod x77 (10 : Int)))) <|
        ck (0 ≤ ((48 : Int) + (Int.tmod x77 (10 : Int))) ∧ ((48 : Int) + (Int.tmod x77 (10 : Int))) ≤ 255) <|
        (getN (List.set S73.out (Int.toNat x76) ((48 : Int) + (Int.tdiv x77 (10 : Int)))) 1056 (x76 + (1 : Int))).bind fun x140 =>
        ck (i64ok (x76 + (2 : Int))) <|
        ck (i64ok (Int.tdiv (r126.length : Int) (10 : Int))) <|
        ck (i64ok ((48 : Int) + (Int.tdiv (r126.length : Int) (10 : Int)))) <|
        ck (0 ≤ ((48 : Int) + (Int.tdiv (r126.length : Int) (10 : Int))) ∧ ((48 : Int) + (Int.tdiv (r126.length : Int) (10 : Int))) ≤ 255) <|
        (getN (List.set (List.set S73.out (Int.toNat x76) ((48 : Int) + (Int.tdiv x77 (10 : Int)))) (Int.toNat (x76 + (1 : Int))) ((48 : Int) + (Int.tmod x77 (10 : Int)))) 1056 (x76 + (2 : Int))).bind fun x147 =>
        ck (i64ok (x76 + (3 : Int))) <|
        ck (i64ok ((48 : Int) + (Int.tmod (r126.length : Int) (10 : Int)))) <|
        ck (0 ≤ ((48 : Int) + (Int.tmod (r126.length : Int) (10 : Int))) ∧ ((48 : Int) + (Int.tmod (r126.length : Int) (10 : Int))) ≤ 255) <|
        (getN (List.set (List.set (List.set S73.out (Int.toNat x76) ((48 : Int) + (Int.tdiv x77 (10 : Int)))) (Int.toNat (x76 + (1 : Int))) ((48 : Int) + (Int.tmod x77 (10 : Int)))) (Int.toNat (x76 + (2 : Int))) ((48 : Int) + (Int.tdiv (r126.length : Int) (10 : Int)))) 1056 (x76 + (3 : Int))).bind fun x153 =>
        ck (i64ok (x76 + (4 : Int))) <|
        ck (0 ≤ (x76 + (4 : Int)) ∧ (x76 + (4 : Int)) ≤ ((1056 : Nat) : Int) ∧ (x76 + (4 : Int)) < ((1056 : Nat) : Int)) <|
        ck ((Int.toNat (x76 + (4 : Int))) + (Nat.min r126.length (1056 - Int.toNat (x76 + (4 : Int)))) ≤ (List.set (List.set (List.set (List.set S73.out (Int.toNat x76) ((48 : Int) + (Int.tdiv x77 (10 : Int)))) (Int.toNat (x76 + (1 : Int))) ((48 : Int) + (Int.tmod x77 (10 : Int)))) (Int.toNat (x76 + (2 : Int))) ((48 : Int) + (Int.tdiv (r126.length : Int) (10 : Int)))) (Int.toNat (x76 + (3 : Int))) ((48 : Int) + (Int.tmod (r126.length : Int) (10 : Int)))).length) <|
        ck (i64ok ((x76 + (4 : Int)) + (r126.length : Int))) <|
        (k41_2 x77 rec78 ((x76 + (4 : Int)) + (r126.length : Int)) ({ S73 with out := (putL (List.set (List.set (List.set (List.set S73.out (Int.toNat x76) ((48 : Int) + (Int.tdiv x77 (10 : Int)))) (Int.toNat (x76 + (1 : Int))) ((48 : Int) + (Int.tmod x77 (10 : Int)))) (Int.toNat (x76 + (2 : Int))) ((48 : Int) + (Int.tdiv (r126.length : Int) (10 : Int)))) (Int.toNat (x76 + (3 : Int))) ((48 : Int) + (Int.tmod (r126.length : Int) (10 : Int)))) (Int.toNat (x76 + (4 : Int))) (List.take (Nat.min r126.length (1056 - Int.toNat (x76 + (4 : Int)))) r126)) })))
  else
    ck (0 ≤ x76 ∧ x76 ≤ ((1056 : Nat) : Int)) <|
      (toS S73.out 0 (Int.toNat x76)).bind fun s162 =>
      some (S73, s162))
def l41_3 (n_ : Nat)  : Nat → Int → Int → BS → Option (BS × List UInt8)
  | 0 => fun _ _ _ => none
  | k + 1 => l41_3_st n_ (l41_3 n_ k)
def s41 (n_ : Nat) (S0 : BS) : Option (BS × List UInt8) :=
  (l41_3 n_ n_ (0 : Int) (0 : Int) S0)
/-- e2e/bookm.two -/
def s68 (z0 : Int) : Option (List UInt8) :=
  ck (i64ok (Int.tdiv z0 (10 : Int))) <|
    ck (i64ok ((48 : Int) + (Int.tdiv z0 (10 : Int)))) <|
    ck (0 ≤ ((48 : Int) + (Int.tdiv z0 (10 : Int))) ∧ ((48 : Int) + (Int.tdiv z0 (10 : Int))) ≤ 255) <|
    ck (i64ok ((48 : Int) + (Int.tmod z0 (10 : Int)))) <|
    ck (0 ≤ ((48 : Int) + (Int.tmod z0 (10 : Int))) ∧ ((48 : Int) + (Int.tmod z0 (10 : Int))) ≤ 255) <|
    some ([UInt8.ofNat (Int.toNat ((48 : Int) + (Int.tdiv z0 (10 : Int)))), UInt8.ofNat (Int.toNat ((48 : Int) + (Int.tmod z0 (10 : Int))))] : List UInt8)
/-- (*e2e/bookm.Book).Save -/
def k42_0 (x24 : Int) (rec25 : (List UInt8) → Int → Option (List UInt8)) (x31 : List UInt8) : Option (List UInt8) :=
  ck (i64ok (x24 + (1 : Int))) <|
    (rec25 x31 (x24 + (1 : Int)))

def l42_1_st (n_ : Nat) (S0 : BMS) (rec25 : (List UInt8) → Int → Option (List UInt8)) (x23 : List UInt8) (x24 : Int) : Option (List UInt8) :=
  (if x24 < (24 : Int) then
    (s65 S0.e x24).bind fun r33 =>
      (if (r33 == ([] : List UInt8)) = true then
      (k42_0 x24 rec25 x23)
    else
      (s68 x24).bind fun r38 =>
        ck (x23.length + r38.length ≤ 9223372036854775807) <|
        (s68 (r33.length : Int)).bind fun r42 =>
        ck ((x23 ++ r38).length + r42.length ≤ 9223372036854775807) <|
        ck (((x23 ++ r38) ++ r42).length + r33.length ≤ 9223372036854775807) <|
        (k42_0 x24 rec25 (((x23 ++ r38) ++ r42) ++ r33)))
  else
    some x23)
def l42_1 (n_ : Nat) (S0 : BMS) : Nat → (List UInt8) → Int → Option (List UInt8)
  | 0 => fun _ _ => none
  | k + 1 => l42_1_st n_ S0 (l42_1 n_ S0 k)
def s42 (n_ : Nat) (S0 : BMS) : Option (List UInt8) :=
  (l42_1 n_ S0 n_ ([] : List UInt8) (0 : Int))
/-- e2e/towerlaw.SameSave -/
def s23 (n_ : Nat) (S0 : BS) (S1 : BMS) : Option (BS × List UInt8 × Bool) :=
  (s41 n_ S0).bind fun r21 =>
    (s42 n_ S1).bind fun r24 =>
    some (r21.1, r24, r21.2 == r24)
/-- (*e2e/book.Book).slot -/
def s43 (S0 : BS) (z1 : Int) : Option Int :=
  ck (i64ok (S0.base + z1)) <|
    some (Int.tmod (S0.base + z1) (6 : Int))
/-- e2e/book.place -/
def s69 (z0 : Int) (z1 : Int) : Option Int :=
  ck (i64ok (z0 * (24 : Int))) <|
    ck (i64ok ((z0 * (24 : Int)) + z1)) <|
    ck (i64ok (((z0 * (24 : Int)) + z1) * (2 : Int))) <|
    some (((z0 * (24 : Int)) + z1) * (2 : Int))
/-- (*e2e/book.Book).checkSlot -/
def k44_0 (x31 : Int) (rec32 : Int → Option Bool) : Option Bool :=
  ck (i64ok (x31 + (1 : Int))) <|
    (rec32 (x31 + (1 : Int)))

def l44_1_st (n_ : Nat) (S0 : BS) (z1 : Int) (x21 : BitVec 32) (rec32 : Int → Option Bool) (x31 : Int) : Option Bool :=
  (if x31 < (24 : Int) then
    (s69 z1 x31).bind fun r39 =>
      ck (0 ≤ x31 ∧ x31 ≤ 18446744073709551615) <|
      ck (0 ≤ x31) <|
      (if (((x21 >>> Int.toNat x31) &&& (1 : BitVec 32)).toNat : Int) = (1 : Int) then
      (getN S0.pool 288 r39).bind fun x46 =>
        ck (i64ok (r39 + (1 : Int))) <|
        (getN S0.pool 288 (r39 + (1 : Int))).bind fun x49 =>
        (if (x46 == x49) = true then
        some false
      else
        (k44_0 x31 rec32))
    else
      (getN S0.pool 288 r39).bind fun x53 =>
        (if (x53 == ([] : List UInt8)) = true then
        ck (i64ok (r39 + (1 : Int))) <|
          (getN S0.pool 288 (r39 + (1 : Int))).bind fun x58 =>
          (if (x58 == ([] : List UInt8)) = true then
          (k44_0 x31 rec32)
        else
          some false)
      else
        some false))
  else
    some true)
def l44_1 (n_ : Nat) (S0 : BS) (z1 : Int) (x21 : BitVec 32) : Nat → Int → Option Bool
  | 0 => fun _ => none
  | k + 1 => l44_1_st n_ S0 z1 x21 (l44_1 n_ S0 z1 x21 k)
def s44 (n_ : Nat) (S0 : BS) (z1 : Int) (z2 : Bool) : Option Bool :=
  (getN S0.turned 6 z1).bind fun x21 =>
    (if ((x21 >>> Int.toNat (24 : Int)).toNat : Int) = (0 : Int) then
    (if z2 = true then
      (l44_1 n_ S0 z1 x21 n_ (0 : Int))
    else
      (if (x21.toNat : Int) = (0 : Int) then
        (l44_1 n_ S0 z1 x21 n_ (0 : Int))
      else
        some false))
  else
    some false)
/-- (*e2e/book.Book).texts -/
def l45_0_st (n_ : Nat) (S0 : BS) (m1 : Nat) (rec39 : Int → (List (List UInt8)) → Option (List (List UInt8))) (x38 : Int) (a35 : List (List UInt8)) : Option (List (List UInt8)) :=
  (if x38 < (24 : Int) then
    (s64 S0.e x38).bind fun r43 =>
      (getN a35 m1 x38).bind fun x46 =>
      ck (i64ok (x38 + (1 : Int))) <|
      (rec39 (x38 + (1 : Int)) (List.set a35 (Int.toNat x38) r43))
  else
    some a35)
def l45_0 (n_ : Nat) (S0 : BS) (m1 : Nat) : Nat → Int → (List (List UInt8)) → Option (List (List UInt8))
  | 0 => fun _ _ => none
  | k + 1 => l45_0_st n_ S0 m1 (l45_0 n_ S0 m1 k)
def s45 (n_ : Nat) (S0 : BS) (a1 : List (List UInt8)) (m1 : Nat) : Option (List (List UInt8)) :=
  (l45_0 n_ S0 m1 n_ (0 : Int) a1)
/-- (*e2e/book.Book).fits -/
def k46_2 (x59 : Int) (rec60 : Int → (List (List UInt8)) → Option (List (List UInt8) × Bool)) (a86 : List (List UInt8)) : Option (List (List UInt8) × Bool) :=
  ck (i64ok (x59 + (1 : Int))) <|
    (rec60 (x59 + (1 : Int)) a86)

def l46_3_st (n_ : Nat) (S0 : BS) (m1 : Nat) (z2 : Int) (z3 : Int) (x21 : BitVec 32) (rec60 : Int → (List (List UInt8)) → Option (List (List UInt8) × Bool)) (x59 : Int) (a56 : List (List UInt8)) : Option (List (List UInt8) × Bool) :=
  (if x59 < (24 : Int) then
    ck (0 ≤ x59 ∧ x59 ≤ 18446744073709551615) <|
      ck (0 ≤ x59) <|
      (if (((x21 >>> Int.toNat x59) &&& (1 : BitVec 32)).toNat : Int) = (1 : Int) then
      (s69 z2 x59).bind fun r94 =>
        (getN a56 m1 x59).bind fun x97 =>
        ck (i64ok (r94 + z3)) <|
        (getN S0.pool 288 (r94 + z3)).bind fun x100 =>
        (if (x97 == x100) = true then
        ck (i64ok (r94 + (1 : Int))) <|
          ck (i64ok ((r94 + (1 : Int)) - z3)) <|
          (getN S0.pool 288 ((r94 + (1 : Int)) - z3)).bind fun x106 =>
          (k46_2 x59 rec60 (List.set a56 (Int.toNat x59) x106))
      else
        some (a56, false))
    else
      (k46_2 x59 rec60 a56))
  else
    some (a56, true))
def l46_3 (n_ : Nat) (S0 : BS) (m1 : Nat) (z2 : Int) (z3 : Int) (x21 : BitVec 32) : Nat → Int → (List (List UInt8)) → Option (List (List UInt8) × Bool)
  | 0 => fun _ _ => none
  | k + 1 => l46_3_st n_ S0 m1 z2 z3 x21 (l46_3 n_ S0 m1 z2 z3 x21 k)
def s46 (n_ : Nat) (S0 : BS) (a1 : List (List UInt8)) (m1 : Nat) (z2 : Int) (z3 : Int) : Option (List (List UInt8) × Bool) :=
  (getN S0.turned 6 z2).bind fun x21 =>
    (l46_3 n_ S0 m1 z2 z3 x21 n_ (0 : Int) a1)
/-- (*e2e/book.Book).Check -/
def l24_0_st (n_ : Nat) (S0 : BS) (rec109 : Int → (List (List UInt8)) → Option Bool) (x108 : Int) (a105 : List (List UInt8)) : Option Bool :=
  (if x108 < (S0.undos + S0.redos) then
    (s43 S0 x108).bind fun r113 =>
      (s46 n_ S0 a105 24 r113 (0 : Int)).bind fun r116 =>
      (if r116.2 = true then
      ck (i64ok (x108 + (1 : Int))) <|
        (rec109 (x108 + (1 : Int)) r116.1)
    else
      some false)
  else
    some true)
def l24_0 (n_ : Nat) (S0 : BS) : Nat → Int → (List (List UInt8)) → Option Bool
  | 0 => fun _ _ => none
  | k + 1 => l24_0_st n_ S0 (l24_0 n_ S0 k)

def l24_1_st (n_ : Nat) (S0 : BS) (rec73 : Int → (List (List UInt8)) → Option Bool) (x72 : Int) (a69 : List (List UInt8)) : Option Bool :=
  (if (0 : Int) ≤ x72 then
    (s43 S0 x72).bind fun r77 =>
      (s46 n_ S0 a69 24 r77 (1 : Int)).bind fun r80 =>
      (if r80.2 = true then
      ck (i64ok (x72 - (1 : Int))) <|
        (rec73 (x72 - (1 : Int)) r80.1)
    else
      some false)
  else
    (s45 n_ S0 a69 24).bind fun r86 =>
      (l24_0 n_ S0 n_ S0.undos r86))
def l24_1 (n_ : Nat) (S0 : BS) : Nat → Int → (List (List UInt8)) → Option Bool
  | 0 => fun _ _ => none
  | k + 1 => l24_1_st n_ S0 (l24_1 n_ S0 k)

def l24_2_st (n_ : Nat) (S0 : BS) (rec35 : Int → Option Bool) (x34 : Int) : Option Bool :=
  (if x34 < (6 : Int) then
    (s43 S0 x34).bind fun r39 =>
      (s44 n_ S0 r39 (decide (x34 < (S0.undos + S0.redos)))).bind fun r42 =>
      (if r42 = true then
      ck (i64ok (x34 + (1 : Int))) <|
        (rec35 (x34 + (1 : Int)))
    else
      some false)
  else
    (s45 n_ S0 (List.replicate 24 ([] : List UInt8)) 24).bind fun r49 =>
      ck (i64ok (S0.undos - (1 : Int))) <|
      (l24_1 n_ S0 n_ (S0.undos - (1 : Int)) r49))
def l24_2 (n_ : Nat) (S0 : BS) : Nat → Int → Option Bool
  | 0 => fun _ => none
  | k + 1 => l24_2_st n_ S0 (l24_2 n_ S0 k)
def s24 (n_ : Nat) (S0 : BS) : Option Bool :=
  (if S0.base < (0 : Int) then
    some false
  else
    (if (6 : Int) ≤ S0.base then
      some false
    else
      (if S0.undos < (0 : Int) then
        some false
      else
        (if S0.redos < (0 : Int) then
          some false
        else
          ck (i64ok (S0.undos + S0.redos)) <|
            (if (6 : Int) < (S0.undos + S0.redos) then
            some false
          else
            (l24_2 n_ S0 n_ (0 : Int)))))))
/-- e2e/towerlaw.Alike -/
def l10_0_st (n_ : Nat) (S0 : BS) (S1 : BMS) (S2 : DS) (rec24 : Int → Option (BS × Bool)) (x23 : Int) : Option (BS × Bool) :=
  (if x23 ≤ (24 : Int) then
    (s19 S0 S1 x23).bind fun r28 =>
      (if r28 = true then
      (s20 S0 S1 x23).bind fun r33 =>
        (if r33 = true then
        ck (i64ok (x23 + (1 : Int))) <|
          (rec24 (x23 + (1 : Int)))
      else
        some (S0, false))
    else
      some (S0, false))
  else
    (if (s21 S0 S1 S2) = true then
      (if (s22 S0 S1 S2) = true then
        (s23 n_ S0 S1).bind fun r45 =>
          (if r45.2.2 = true then
          (s24 n_ r45.1).bind fun r50 =>
            some (r45.1, r50)
        else
          some (r45.1, false))
      else
        some (S0, false))
    else
      some (S0, false)))
def l10_0 (n_ : Nat) (S0 : BS) (S1 : BMS) (S2 : DS) : Nat → Int → Option (BS × Bool)
  | 0 => fun _ => none
  | k + 1 => l10_0_st n_ S0 S1 S2 (l10_0 n_ S0 S1 S2 k)
def s10 (n_ : Nat) (S0 : BS) (S1 : BMS) (S2 : DS) : Option (BS × Bool) :=
  (l10_0 n_ S0 S1 S2 n_ (-1 : Int))
/-- e2e/api.Lengthen -/
def k25_0 (z0 : List UInt8) (x27 : List UInt8) : Option (List UInt8) :=
  ck (z0.length + x27.length ≤ 9223372036854775807) <|
    some (z0 ++ x27)
def s25 (z0 : List UInt8) (z1 : List UInt8) (z2 : Int) : Option (List UInt8) :=
  ck (i64ok (z2 + (1 : Int))) <|
    ck (i64ok ((z2 + (1 : Int)) - (z0.length : Int))) <|
    (if ((z2 + (1 : Int)) - (z0.length : Int)) ≤ (0 : Int) then
    some z0
  else
    (if ((z2 + (1 : Int)) - (z0.length : Int)) < (z1.length : Int) then
      ck (0 ≤ ((z2 + (1 : Int)) - (z0.length : Int)) ∧ ((z2 + (1 : Int)) - (z0.length : Int)) ≤ (z1.length : Int)) <|
        (k25_0 z0 (List.take (Int.toNat ((z2 + (1 : Int)) - (z0.length : Int))) z1))
    else
      (k25_0 z0 z1)))
/-- e2e/api.Whole -/
def s26 (z0 : List UInt8) (z1 : List UInt8) (z2 : Int) : Option (List UInt8) :=
  (if (z0 == ([] : List UInt8)) = true then
    some z1
  else
    (s25 z0 z1 z2).bind fun r23 =>
      some r23)
/-- e2e/towerlaw.Texts -/
def l47_0_st (n_ : Nat) (S0 : BMS) (rec40 : Int → (List (List UInt8)) → Option (List (List UInt8))) (x39 : Int) (a36 : List (List UInt8)) : Option (List (List UInt8)) :=
  (if x39 < (24 : Int) then
    (s34 S0 x39).bind fun r44 =>
      (getN a36 24 x39).bind fun x47 =>
      ck (i64ok (x39 + (1 : Int))) <|
      (rec40 (x39 + (1 : Int)) (List.set a36 (Int.toNat x39) r44))
  else
    some a36)
def l47_0 (n_ : Nat) (S0 : BMS) : Nat → Int → (List (List UInt8)) → Option (List (List UInt8))
  | 0 => fun _ _ => none
  | k + 1 => l47_0_st n_ S0 (l47_0 n_ S0 k)
def s47 (n_ : Nat) (S0 : BMS) : Option (List (List UInt8)) :=
  (l47_0 n_ S0 n_ (0 : Int) (List.replicate 24 ([] : List UInt8)))
/-- (*e2e/book.Book).ahead -/
def l70_0_st (n_ : Nat) (rec41 : Int → BS → Option BS) (x40 : Int) (S37 : BS) : Option BS :=
  (if x40 < (24 : Int) then
    (s64 S37.e x40).bind fun r45 =>
      (getN S37.was 24 x40).bind fun x48 =>
      ck (i64ok (x40 + (1 : Int))) <|
      (rec41 (x40 + (1 : Int)) ({ S37 with was := (List.set S37.was (Int.toNat x40) r45) }))
  else
    some S37)
def l70_0 (n_ : Nat)  : Nat → Int → BS → Option BS
  | 0 => fun _ _ => none
  | k + 1 => l70_0_st n_ (l70_0 n_ k)
def s70 (n_ : Nat) (S0 : BS) : Option BS :=
  (l70_0 n_ n_ (0 : Int) S0)
/-- e2e/api.Bit -/
def s92 (z0 : Int) : BitVec 32 :=
  (if z0 < (0 : Int) then
    (0 : BitVec 32)
  else
    (if (24 : Int) ≤ z0 then
      (0 : BitVec 32)
    else
      ((1 : BitVec 32) <<< Int.toNat z0)))
/-! ### by hand: CopyNodes -/
def s121 (a0 : List NodeT) (m0 : Nat) : Option (List NodeT) :=
  if m0 = 0 then some [] else ck (m0 ≤ a0.length ∧ m0 ≤ 1048576) (some (a0.take m0))
/-- e2e/form.digit -/
def s163 (z0 : Int) : Bool :=
  (if (48 : Int) ≤ z0 then
    decide (z0 ≤ (57 : Int))
  else
    false)
/-- e2e/form.number -/
def k164_1 (rec41 : TokT → Option TokT) (t61 : TokT) : Option TokT :=
  ck (i64ok (t61.end_ + (1 : Int))) <|
    (rec41 ({ t61 with end_ := t61.end_ + (1 : Int) }))

def l164_2_st (n_ : Nat) (z0 : List UInt8) (z1 : Int) (rec41 : TokT → Option TokT) (t38 : TokT) : Option TokT :=
  (if t38.end_ < (z0.length : Int) then
    ck (0 ≤ t38.end_ ∧ t38.end_ < (z0.length : Int)) <|
      (if (s163 ((List.getD z0 (Int.toNat t38.end_) 0).toNat : Int)) = true then
      ck (i64ok (t38.end_ - z1)) <|
        (if (t38.end_ - z1) < (9 : Int) then
        ck (i64ok (t38.n * (10 : Int))) <|
          ck (0 ≤ ((List.getD z0 (Int.toNat t38.end_) 0).toNat : Int) - (48 : Int) ∧ ((List.getD z0 (Int.toNat t38.end_) 0).toNat : Int) - (48 : Int) ≤ 255) <|
          ck (i64ok (((List.getD z0 (Int.toNat t38.end_) 0).toNat : Int) - (48 : Int))) <|
          ck (i64ok ((t38.n * (10 : Int)) + (((List.getD z0 (Int.toNat t38.end_) 0).toNat : Int) - (48 : Int)))) <|
          (k164_1 rec41 ({ t38 with n := (t38.n * (10 : Int)) + (((List.getD z0 (Int.toNat t38.end_) 0).toNat : Int) - (48 : Int)) }))
      else
        (k164_1 rec41 t38))
    else
      ck (i64ok (t38.end_ - z1)) <|
        (if (9 : Int) < (t38.end_ - z1) then
        some ({ t38 with kind := (3 : Int), n := (4 : Int) })
      else
        some t38))
  else
    ck (i64ok (t38.end_ - z1)) <|
      (if (9 : Int) < (t38.end_ - z1) then
      some ({ t38 with kind := (3 : Int), n := (4 : Int) })
    else
      some t38))
def l164_2 (n_ : Nat) (z0 : List UInt8) (z1 : Int) : Nat → TokT → Option TokT
  | 0 => fun _ => none
  | k + 1 => l164_2_st n_ z0 z1 (l164_2 n_ z0 z1 k)
def s164 (n_ : Nat) (z0 : List UInt8) (z1 : Int) : Option TokT :=
  (l164_2 n_ z0 z1 n_ (⟨(2 : Int), z1, z1, (1 : Int), (0 : Int), (⟨(0 : Int), (0 : Int), false, false⟩ : RefT)⟩ : TokT))
/-- e2e/form.wordy -/
def s165 (z0 : Int) : Bool :=
  (if (65 : Int) ≤ z0 then
    (if z0 ≤ (90 : Int) then
      true
    else
      (if (48 : Int) ≤ z0 then
        (if z0 ≤ (57 : Int) then
          true
        else
          decide (z0 = (36 : Int)))
      else
        decide (z0 = (36 : Int))))
  else
    (if (48 : Int) ≤ z0 then
      (if z0 ≤ (57 : Int) then
        true
      else
        decide (z0 = (36 : Int)))
    else
      decide (z0 = (36 : Int))))
/-- e2e/api.FuncName -/
def s195 (z0 : Int) : List UInt8 :=
  (if z0 = (1 : Int) then
    ([83, 85, 77] : List UInt8)
  else
    (if z0 = (2 : Int) then
      ([77, 73, 78] : List UInt8)
    else
      (if z0 = (3 : Int) then
        ([77, 65, 88] : List UInt8)
      else
        (if z0 = (4 : Int) then
          ([67, 79, 85, 78, 84] : List UInt8)
        else
          (if z0 = (5 : Int) then
            ([73, 70] : List UInt8)
          else
            (if z0 = (6 : Int) then
              ([65, 78, 68] : List UInt8)
            else
              (if z0 = (7 : Int) then
                ([79, 82] : List UInt8)
              else
                (if z0 = (8 : Int) then
                  ([78, 79, 84] : List UInt8)
                else
                  (if z0 = (9 : Int) then
                    ([65, 66, 83] : List UInt8)
                  else
                    (if z0 = (10 : Int) then
                      ([76, 69, 78] : List UInt8)
                    else
                      ([] : List UInt8)))))))))))
/-- e2e/form.step -/
def s205 (z0 : Int) (z1 : Int) : Int :=
  (if z0 = (0 : Int) then
    (if z1 = (36 : Int) then
      (1 : Int)
    else
      (if (65 : Int) ≤ z1 then
        (if z1 ≤ (90 : Int) then
          (2 : Int)
        else
          (6 : Int))
      else
        (6 : Int)))
  else
    (if z0 = (1 : Int) then
      (if (65 : Int) ≤ z1 then
        (if z1 ≤ (90 : Int) then
          (2 : Int)
        else
          (6 : Int))
      else
        (6 : Int))
    else
      (if z0 = (2 : Int) then
        (if z1 = (36 : Int) then
          (3 : Int)
        else
          (if (49 : Int) ≤ z1 then
            (if z1 ≤ (57 : Int) then
              (4 : Int)
            else
              (6 : Int))
          else
            (6 : Int)))
      else
        (if z0 = (3 : Int) then
          (if (49 : Int) ≤ z1 then
            (if z1 ≤ (57 : Int) then
              (4 : Int)
            else
              (6 : Int))
          else
            (6 : Int))
        else
          (if z0 = (4 : Int) then
            (if (48 : Int) ≤ z1 then
              (if z1 ≤ (57 : Int) then
                (5 : Int)
              else
                (6 : Int))
            else
              (6 : Int))
          else
            (6 : Int))))))
/-- e2e/form.word -/
def k166_1 (z0 : List UInt8) (x43 : Int) (t40 : TokT) (rec44 : Int → TokT → Option TokT) (t60 : TokT) : Option TokT :=
  ck (i64ok (t60.end_ + (1 : Int))) <|
    (rec44 (s205 x43 ((List.getD z0 (Int.toNat t40.end_) 0).toNat : Int)) ({ t60 with end_ := t60.end_ + (1 : Int) }))

def k166_4 (x132 : Int) (rec133 : Int → TokT → Option TokT) (t145 : TokT) : Option TokT :=
  ck (i64ok (x132 + (1 : Int))) <|
    (rec133 (x132 + (1 : Int)) t145)

def l166_5_st (n_ : Nat) (z0 : List UInt8) (z1 : Int) (t40 : TokT) (rec133 : Int → TokT → Option TokT) (x132 : Int) (t129 : TokT) : Option TokT :=
  (if x132 ≤ (10 : Int) then
    (if ((s195 x132) == (List.drop (Int.toNat z1) (List.take (Int.toNat t40.end_) z0))) = true then
      (k166_4 x132 rec133 ({ t129 with kind := (5 : Int), n := x132 }))
    else
      (k166_4 x132 rec133 t129))
  else
    some t129)
def l166_5 (n_ : Nat) (z0 : List UInt8) (z1 : Int) (t40 : TokT) : Nat → Int → TokT → Option TokT
  | 0 => fun _ _ => none
  | k + 1 => l166_5_st n_ z0 z1 t40 (l166_5 n_ z0 z1 t40 k)

def l166_10_st (n_ : Nat) (z0 : List UInt8) (z1 : Int) (rec44 : Int → TokT → Option TokT) (x43 : Int) (t40 : TokT) : Option TokT :=
  (if t40.end_ < (z0.length : Int) then
    ck (0 ≤ t40.end_ ∧ t40.end_ < (z0.length : Int)) <|
      (if (s165 ((List.getD z0 (Int.toNat t40.end_) 0).toNat : Int)) = true then
      (if (s205 x43 ((List.getD z0 (Int.toNat t40.end_) 0).toNat : Int)) = (1 : Int) then
        (k166_1 z0 x43 t40 rec44 ({ t40 with r := { t40.r with ac := true } }))
      else
        (if (s205 x43 ((List.getD z0 (Int.toNat t40.end_) 0).toNat : Int)) = (2 : Int) then
          ck (0 ≤ ((List.getD z0 (Int.toNat t40.end_) 0).toNat : Int) - (65 : Int) ∧ ((List.getD z0 (Int.toNat t40.end_) 0).toNat : Int) - (65 : Int) ≤ 255) <|
            ck (i64ok (((List.getD z0 (Int.toNat t40.end_) 0).toNat : Int) - (65 : Int))) <|
            (k166_1 z0 x43 t40 rec44 ({ t40 with r := { t40.r with col := ((List.getD z0 (Int.toNat t40.end_) 0).toNat : Int) - (65 : Int) } }))
        else
          (if (s205 x43 ((List.getD z0 (Int.toNat t40.end_) 0).toNat : Int)) = (3 : Int) then
            (k166_1 z0 x43 t40 rec44 ({ t40 with r := { t40.r with ar := true } }))
          else
            (if (s205 x43 ((List.getD z0 (Int.toNat t40.end_) 0).toNat : Int)) = (4 : Int) then
              ck (i64ok (t40.r.row * (10 : Int))) <|
                ck (0 ≤ ((List.getD z0 (Int.toNat t40.end_) 0).toNat : Int) - (48 : Int) ∧ ((List.getD z0 (Int.toNat t40.end_) 0).toNat : Int) - (48 : Int) ≤ 255) <|
                ck (i64ok (((List.getD z0 (Int.toNat t40.end_) 0).toNat : Int) - (48 : Int))) <|
                ck (i64ok ((t40.r.row * (10 : Int)) + (((List.getD z0 (Int.toNat t40.end_) 0).toNat : Int) - (48 : Int)))) <|
                (k166_1 z0 x43 t40 rec44 ({ t40 with r := { t40.r with row := (t40.r.row * (10 : Int)) + (((List.getD z0 (Int.toNat t40.end_) 0).toNat : Int) - (48 : Int)) } }))
            else
              (if (s205 x43 ((List.getD z0 (Int.toNat t40.end_) 0).toNat : Int)) = (5 : Int) then
                ck (i64ok (t40.r.row * (10 : Int))) <|
                  ck (0 ≤ ((List.getD z0 (Int.toNat t40.end_) 0).toNat : Int) - (48 : Int) ∧ ((List.getD z0 (Int.toNat t40.end_) 0).toNat : Int) - (48 : Int) ≤ 255) <|
                  ck (i64ok (((List.getD z0 (Int.toNat t40.end_) 0).toNat : Int) - (48 : Int))) <|
                  ck (i64ok ((t40.r.row * (10 : Int)) + (((List.getD z0 (Int.toNat t40.end_) 0).toNat : Int) - (48 : Int)))) <|
                  (k166_1 z0 x43 t40 rec44 ({ t40 with r := { t40.r with row := (t40.r.row * (10 : Int)) + (((List.getD z0 (Int.toNat t40.end_) 0).toNat : Int) - (48 : Int)) } }))
              else
                (k166_1 z0 x43 t40 rec44 t40))))))
    else
      (if x43 = (4 : Int) then
        ck (i64ok (t40.r.row - (1 : Int))) <|
          some ({ t40 with r := { t40.r with row := t40.r.row - (1 : Int) } })
      else
        (if x43 = (5 : Int) then
          ck (i64ok (t40.r.row - (1 : Int))) <|
            some ({ t40 with r := { t40.r with row := t40.r.row - (1 : Int) } })
        else
          ck (0 ≤ z1 ∧ z1 ≤ t40.end_ ∧ t40.end_ ≤ (z0.length : Int)) <|
            (if ((List.drop (Int.toNat z1) (List.take (Int.toNat t40.end_) z0)) == ([84, 82, 85, 69] : List UInt8)) = true then
            ck (i64ok ((5 : Int) - ((List.drop (Int.toNat z1) (List.take (Int.toNat t40.end_) z0)).length : Int))) <|
              some (⟨(2 : Int), t40.at_, t40.end_, (2 : Int), ((5 : Int) - ((List.drop (Int.toNat z1) (List.take (Int.toNat t40.end_) z0)).length : Int)), (⟨(0 : Int), (0 : Int), false, false⟩ : RefT)⟩ : TokT)
          else
            (if ((List.drop (Int.toNat z1) (List.take (Int.toNat t40.end_) z0)) == ([70, 65, 76, 83, 69] : List UInt8)) = true then
              ck (i64ok ((5 : Int) - ((List.drop (Int.toNat z1) (List.take (Int.toNat t40.end_) z0)).length : Int))) <|
                some (⟨(2 : Int), t40.at_, t40.end_, (2 : Int), ((5 : Int) - ((List.drop (Int.toNat z1) (List.take (Int.toNat t40.end_) z0)).length : Int)), (⟨(0 : Int), (0 : Int), false, false⟩ : RefT)⟩ : TokT)
            else
              (l166_5 n_ z0 z1 t40 n_ (1 : Int) ({ t40 with kind := (3 : Int), n := (5 : Int), r := (⟨(0 : Int), (0 : Int), false, false⟩ : RefT) })))))))
  else
    (if x43 = (4 : Int) then
      ck (i64ok (t40.r.row - (1 : Int))) <|
        some ({ t40 with r := { t40.r with row := t40.r.row - (1 : Int) } })
    else
      (if x43 = (5 : Int) then
        ck (i64ok (t40.r.row - (1 : Int))) <|
          some ({ t40 with r := { t40.r with row := t40.r.row - (1 : Int) } })
      else
        ck (0 ≤ z1 ∧ z1 ≤ t40.end_ ∧ t40.end_ ≤ (z0.length : Int)) <|
          (if ((List.drop (Int.toNat z1) (List.take (Int.toNat t40.end_) z0)) == ([84, 82, 85, 69] : List UInt8)) = true then
          ck (i64ok ((5 : Int) - ((List.drop (Int.toNat z1) (List.take (Int.toNat t40.end_) z0)).length : Int))) <|
            some (⟨(2 : Int), t40.at_, t40.end_, (2 : Int), ((5 : Int) - ((List.drop (Int.toNat z1) (List.take (Int.toNat t40.end_) z0)).length : Int)), (⟨(0 : Int), (0 : Int), false, false⟩ : RefT)⟩ : TokT)
        else
          (if ((List.drop (Int.toNat z1) (List.take (Int.toNat t40.end_) z0)) == ([70, 65, 76, 83, 69] : List UInt8)) = true then
            ck (i64ok ((5 : Int) - ((List.drop (Int.toNat z1) (List.take (Int.toNat t40.end_) z0)).length : Int))) <|
              some (⟨(2 : Int), t40.at_, t40.end_, (2 : Int), ((5 : Int) - ((List.drop (Int.toNat z1) (List.take (Int.toNat t40.end_) z0)).length : Int)), (⟨(0 : Int), (0 : Int), false, false⟩ : RefT)⟩ : TokT)
          else
            (l166_5 n_ z0 z1 t40 n_ (1 : Int) ({ t40 with kind := (3 : Int), n := (5 : Int), r := (⟨(0 : Int), (0 : Int), false, false⟩ : RefT) })))))))
def l166_10 (n_ : Nat) (z0 : List UInt8) (z1 : Int) : Nat → Int → TokT → Option TokT
  | 0 => fun _ _ => none
  | k + 1 => l166_10_st n_ z0 z1 (l166_10 n_ z0 z1 k)
def s166 (n_ : Nat) (z0 : List UInt8) (z1 : Int) : Option TokT :=
  (l166_10 n_ z0 z1 n_ (0 : Int) (⟨(4 : Int), z1, z1, (0 : Int), (0 : Int), (⟨(0 : Int), (0 : Int), false, false⟩ : RefT)⟩ : TokT))
/-- e2e/form.sign -/
def k167_0 (z0 : List UInt8) (z1 : Int) (x27 : Int) : Option TokT :=
  ck (0 ≤ z1 ∧ z1 < (z0.length : Int)) <|
    (if ((List.getD z0 (Int.toNat z1) 0).toNat : Int) = (40 : Int) then
    some (⟨((List.getD z0 (Int.toNat z1) 0).toNat : Int), z1, (z1 + (1 : Int)), (0 : Int), (0 : Int), (⟨(0 : Int), (0 : Int), false, false⟩ : RefT)⟩ : TokT)
  else
    (if ((List.getD z0 (Int.toNat z1) 0).toNat : Int) = (41 : Int) then
      some (⟨((List.getD z0 (Int.toNat z1) 0).toNat : Int), z1, (z1 + (1 : Int)), (0 : Int), (0 : Int), (⟨(0 : Int), (0 : Int), false, false⟩ : RefT)⟩ : TokT)
    else
      (if ((List.getD z0 (Int.toNat z1) 0).toNat : Int) = (44 : Int) then
        some (⟨((List.getD z0 (Int.toNat z1) 0).toNat : Int), z1, (z1 + (1 : Int)), (0 : Int), (0 : Int), (⟨(0 : Int), (0 : Int), false, false⟩ : RefT)⟩ : TokT)
      else
        (if ((List.getD z0 (Int.toNat z1) 0).toNat : Int) = (58 : Int) then
          some (⟨((List.getD z0 (Int.toNat z1) 0).toNat : Int), z1, (z1 + (1 : Int)), (0 : Int), (0 : Int), (⟨(0 : Int), (0 : Int), false, false⟩ : RefT)⟩ : TokT)
        else
          (if ((List.getD z0 (Int.toNat z1) 0).toNat : Int) = (43 : Int) then
            some (⟨(6 : Int), z1, (z1 + (1 : Int)), (0 : Int), (7 : Int), (⟨(0 : Int), (0 : Int), false, false⟩ : RefT)⟩ : TokT)
          else
            (if ((List.getD z0 (Int.toNat z1) 0).toNat : Int) = (45 : Int) then
              some (⟨(6 : Int), z1, (z1 + (1 : Int)), (0 : Int), (8 : Int), (⟨(0 : Int), (0 : Int), false, false⟩ : RefT)⟩ : TokT)
            else
              (if ((List.getD z0 (Int.toNat z1) 0).toNat : Int) = (42 : Int) then
                some (⟨(6 : Int), z1, (z1 + (1 : Int)), (0 : Int), (9 : Int), (⟨(0 : Int), (0 : Int), false, false⟩ : RefT)⟩ : TokT)
              else
                (if ((List.getD z0 (Int.toNat z1) 0).toNat : Int) = (47 : Int) then
                  some (⟨(6 : Int), z1, (z1 + (1 : Int)), (0 : Int), (10 : Int), (⟨(0 : Int), (0 : Int), false, false⟩ : RefT)⟩ : TokT)
                else
                  (if ((List.getD z0 (Int.toNat z1) 0).toNat : Int) = (61 : Int) then
                    some (⟨(6 : Int), z1, (z1 + (1 : Int)), (0 : Int), (1 : Int), (⟨(0 : Int), (0 : Int), false, false⟩ : RefT)⟩ : TokT)
                  else
                    (if ((List.getD z0 (Int.toNat z1) 0).toNat : Int) = (60 : Int) then
                      (if x27 = (61 : Int) then
                        ck (i64ok (z1 + (2 : Int))) <|
                          some (⟨(6 : Int), z1, (z1 + (2 : Int)), (0 : Int), (4 : Int), (⟨(0 : Int), (0 : Int), false, false⟩ : RefT)⟩ : TokT)
                      else
                        (if x27 = (62 : Int) then
                          ck (i64ok (z1 + (2 : Int))) <|
                            some (⟨(6 : Int), z1, (z1 + (2 : Int)), (0 : Int), (2 : Int), (⟨(0 : Int), (0 : Int), false, false⟩ : RefT)⟩ : TokT)
                        else
                          some (⟨(6 : Int), z1, (z1 + (1 : Int)), (0 : Int), (3 : Int), (⟨(0 : Int), (0 : Int), false, false⟩ : RefT)⟩ : TokT)))
                    else
                      (if ((List.getD z0 (Int.toNat z1) 0).toNat : Int) = (62 : Int) then
                        (if x27 = (61 : Int) then
                          ck (i64ok (z1 + (2 : Int))) <|
                            some (⟨(6 : Int), z1, (z1 + (2 : Int)), (0 : Int), (6 : Int), (⟨(0 : Int), (0 : Int), false, false⟩ : RefT)⟩ : TokT)
                        else
                          some (⟨(6 : Int), z1, (z1 + (1 : Int)), (0 : Int), (5 : Int), (⟨(0 : Int), (0 : Int), false, false⟩ : RefT)⟩ : TokT))
                      else
                        (if ((List.getD z0 (Int.toNat z1) 0).toNat : Int) = (35 : Int) then
                          (if x27 = (35 : Int) then
                            ck (i64ok (z1 + (2 : Int))) <|
                              some (⟨(2 : Int), z1, (z1 + (2 : Int)), (5 : Int), (0 : Int), (⟨(0 : Int), (0 : Int), false, false⟩ : RefT)⟩ : TokT)
                          else
                            some (⟨(3 : Int), z1, (z1 + (1 : Int)), (0 : Int), (2 : Int), (⟨(0 : Int), (0 : Int), false, false⟩ : RefT)⟩ : TokT))
                        else
                          some (⟨(1 : Int), z1, (z1 + (1 : Int)), (0 : Int), (0 : Int), (⟨(0 : Int), (0 : Int), false, false⟩ : RefT)⟩ : TokT)))))))))))))
def s167 (z0 : List UInt8) (z1 : Int) : Option TokT :=
  ck (i64ok (z1 + (1 : Int))) <|
    (if (z1 + (1 : Int)) < (z0.length : Int) then
    ck (0 ≤ (z1 + (1 : Int)) ∧ (z1 + (1 : Int)) < (z0.length : Int)) <|
      (k167_0 z0 z1 ((List.getD z0 (Int.toNat (z1 + (1 : Int))) 0).toNat : Int))
  else
    (k167_0 z0 z1 (0 : Int)))
/-- (*e2e/form.Former).scan -/
def k138_1 (S41 : FoS) (rec45 : Int → FoS → Option FoS) (t69 : TokT) : Option FoS :=
  (getN S41.toks 41 S41.nt).bind fun x72 =>
    ck (i64ok (S41.nt + (1 : Int))) <|
    (rec45 t69.end_ ({ S41 with toks := (List.set S41.toks (Int.toNat S41.nt) t69), nt := S41.nt + (1 : Int) }))

def l138_2_st (n_ : Nat) (z1 : List UInt8) (rec45 : Int → FoS → Option FoS) (x44 : Int) (S41 : FoS) : Option FoS :=
  (if x44 < (z1.length : Int) then
    ck (0 ≤ x44 ∧ x44 < (z1.length : Int)) <|
      (if ((List.getD z1 (Int.toNat x44) 0).toNat : Int) = (32 : Int) then
      ck (i64ok (x44 + (1 : Int))) <|
        (rec45 (x44 + (1 : Int)) S41)
    else
      (if (s163 ((List.getD z1 (Int.toNat x44) 0).toNat : Int)) = true then
        (s164 n_ z1 x44).bind fun r80 =>
          (k138_1 S41 rec45 r80)
      else
        (if (s165 ((List.getD z1 (Int.toNat x44) 0).toNat : Int)) = true then
          (s166 n_ z1 x44).bind fun r87 =>
            (k138_1 S41 rec45 r87)
        else
          (s167 z1 x44).bind fun r91 =>
            (k138_1 S41 rec45 r91))))
  else
    (getN S41.toks 41 S41.nt).bind fun x95 =>
      ck (i64ok (S41.nt + (1 : Int))) <|
      some ({ S41 with toks := (List.set S41.toks (Int.toNat S41.nt) (⟨(0 : Int), (z1.length : Int), (z1.length : Int), (0 : Int), (0 : Int), (⟨(0 : Int), (0 : Int), false, false⟩ : RefT)⟩ : TokT)), nt := S41.nt + (1 : Int) }))
def l138_2 (n_ : Nat) (z1 : List UInt8) : Nat → Int → FoS → Option FoS
  | 0 => fun _ _ => none
  | k + 1 => l138_2_st n_ z1 (l138_2 n_ z1 k)
def s138 (n_ : Nat) (S0 : FoS) (z1 : List UInt8) : Option FoS :=
  (l138_2 n_ z1 n_ (0 : Int) ({ S0 with nt := (0 : Int) }))
/-- (*e2e/form.Former).fail -/
def s173 (S0 : FoS) (z1 : Int) (z2 : Int) : FoS :=
  (if S0.err = (0 : Int) then
    { S0 with err := z1, bad := z2 }
  else
    S0)
/-- (*e2e/form.Former).look -/
def s168 (S0 : FoS) : Option (FoS × TokT) :=
  (getN S0.toks 41 S0.k).bind fun x22 =>
    (if x22.kind = (1 : Int) then
    some ((s173 ({ S0 with pos := x22.at_ }) (2 : Int) x22.at_), x22)
  else
    some ({ S0 with pos := x22.at_ }, x22))
/-- e2e/form.strength -/
def s169 (z0 : Int) : Int :=
  (if z0 ≤ (6 : Int) then
    (1 : Int)
  else
    (if z0 ≤ (8 : Int) then
      (2 : Int)
    else
      (3 : Int)))
/-- (*e2e/form.Former).top -/
def s170 (S0 : FoS) : Option Int :=
  (if S0.no = (0 : Int) then
    some (0 : Int)
  else
    ck (i64ok (S0.no - (1 : Int))) <|
      (getN S0.ops 41 (S0.no - (1 : Int))).bind fun x24 =>
      (if x24.kind = (2 : Int) then
      some (s169 x24.op)
    else
      some (0 : Int)))
/-- (*e2e/form.Former).add -/
def s206 (S0 : FoS) (z1 : NodeT) : Option (FoS × Int) :=
  (if S0.err = (0 : Int) then
    (if (24 : Int) ≤ S0.nn then
      some ((s173 S0 (7 : Int) S0.pos), (-1 : Int))
    else
      (getN S0.arena 24 S0.nn).bind fun x27 =>
        ck (i64ok (S0.nn + (1 : Int))) <|
        ck (i64ok ((S0.nn + (1 : Int)) - (1 : Int))) <|
        some ({ S0 with arena := (List.set S0.arena (Int.toNat S0.nn) z1), nn := S0.nn + (1 : Int) }, (S0.nn + (1 : Int)) - (1 : Int)))
  else
    some (S0, (-1 : Int)))
/-- (*e2e/form.Former).join -/
def s171 (S0 : FoS) : Option FoS :=
  ck (i64ok (S0.no - (1 : Int))) <|
    ck (i64ok (S0.nv - (1 : Int))) <|
    (getN S0.ops 41 (S0.no - (1 : Int))).bind fun x25 =>
    ck (i64ok ((S0.nv - (1 : Int)) - (1 : Int))) <|
    (getN S0.opnd 41 ((S0.nv - (1 : Int)) - (1 : Int))).bind fun x28 =>
    (getN S0.opnd 41 (S0.nv - (1 : Int))).bind fun x30 =>
    (s206 ({ S0 with nv := S0.nv - (1 : Int), no := S0.no - (1 : Int) }) (⟨(7 : Int), x25.op, x28, x30, (0 : Int), (⟨(0 : Int), (0 : Int), false, false⟩ : RefT), (⟨(0 : Int), (0 : Int), false, false⟩ : RefT)⟩ : NodeT)).bind fun r32 =>
    some ({ S0 with arena := r32.1.arena, nn := r32.1.nn, opnd := (List.set S0.opnd (Int.toNat ((S0.nv - (1 : Int)) - (1 : Int))) r32.2), nv := S0.nv - (1 : Int), no := S0.no - (1 : Int), err := r32.1.err, bad := r32.1.bad })
/-- (*e2e/form.Former).take -/
def s174 (S0 : FoS) : Option FoS :=
  (getN S0.toks 41 S0.k).bind fun x21 =>
    ck (i64ok (S0.k + (1 : Int))) <|
    some ({ S0 with k := S0.k + (1 : Int), pos := x21.end_ })
/-- (*e2e/form.Former).settle -/
def k207_1 (S71 : FoS) : Option FoS :=
  some ({ S71 with have_ := true })

def l207_4_st (n_ : Nat) (rec43 : FoS → Option FoS) (S40 : FoS) : Option FoS :=
  (if (0 : Int) < S40.no then
    ck (i64ok (S40.no - (1 : Int))) <|
      (getN S40.ops 41 (S40.no - (1 : Int))).bind fun x48 =>
      (if x48.kind = (1 : Int) then
      ck (i64ok (S40.nv - (1 : Int))) <|
        (getN S40.opnd 41 (S40.nv - (1 : Int))).bind fun x54 =>
        (s206 ({ S40 with no := S40.no - (1 : Int) }) (⟨(6 : Int), (0 : Int), x54, (-1 : Int), (0 : Int), (⟨(0 : Int), (0 : Int), false, false⟩ : RefT), (⟨(0 : Int), (0 : Int), false, false⟩ : RefT)⟩ : NodeT)).bind fun r56 =>
        (rec43 ({ S40 with arena := r56.1.arena, nn := r56.1.nn, opnd := (List.set S40.opnd (Int.toNat (S40.nv - (1 : Int))) r56.2), no := S40.no - (1 : Int), err := r56.1.err, bad := r56.1.bad }))
    else
      (s170 S40).bind fun r75 =>
        (if r75 = (3 : Int) then
        (s171 S40).bind fun r80 =>
          (k207_1 r80)
      else
        (k207_1 S40)))
  else
    (s170 S40).bind fun r98 =>
      (if r98 = (3 : Int) then
      (s171 S40).bind fun r103 =>
        (k207_1 r103)
    else
      (k207_1 S40)))
def l207_4 (n_ : Nat)  : Nat → FoS → Option FoS
  | 0 => fun _ => none
  | k + 1 => l207_4_st n_ (l207_4 n_ k)
def s207 (n_ : Nat) (S0 : FoS) : Option FoS :=
  (l207_4 n_ n_ S0)
/-- (*e2e/form.Former).whole -/
def s176 (n_ : Nat) (S0 : FoS) (z1 : NodeT) : Option FoS :=
  (s206 S0 z1).bind fun r22 =>
    (getN S0.opnd 41 S0.nv).bind fun x25 =>
    ck (i64ok (S0.nv + (1 : Int))) <|
    (s207 n_ ({ S0 with arena := r22.1.arena, nn := r22.1.nn, opnd := (List.set S0.opnd (Int.toNat S0.nv) r22.2), nv := S0.nv + (1 : Int), err := r22.1.err, bad := r22.1.bad })).bind fun r36 =>
    some r36
/-- e2e/api.Arity -/
def s208 (z0 : Int) (z1 : Int) : Bool :=
  (if z0 = (1 : Int) then
    decide ((1 : Int) ≤ z1)
  else
    (if z0 = (2 : Int) then
      decide ((1 : Int) ≤ z1)
    else
      (if z0 = (3 : Int) then
        decide ((1 : Int) ≤ z1)
      else
        (if z0 = (4 : Int) then
          decide ((1 : Int) ≤ z1)
        else
          (if z0 = (6 : Int) then
            decide ((1 : Int) ≤ z1)
          else
            (if z0 = (7 : Int) then
              decide ((1 : Int) ≤ z1)
            else
              (if z0 = (5 : Int) then
                decide (z1 = (3 : Int))
              else
                (if z0 = (8 : Int) then
                  decide (z1 = (1 : Int))
                else
                  (if z0 = (9 : Int) then
                    decide (z1 = (1 : Int))
                  else
                    (if z0 = (10 : Int) then
                      decide (z1 = (1 : Int))
                    else
                      false))))))))))
/-- (*e2e/form.Former).close -/
def k172_1 (S30 : FoS) : Option FoS :=
  some ({ S30 with done := true })

def k172_4 (n_ : Nat) (z1 : TokT) (S125 : FoS) (t126 : MarkT) : Option FoS :=
  (if z1.kind = (41 : Int) then
    (s174 S125).bind fun r132 =>
      ck (i64ok (r132.no - (1 : Int))) <|
      (if t126.kind = (3 : Int) then
      (s207 n_ ({ r132 with no := r132.no - (1 : Int) })).bind fun r139 =>
        some r139
    else
      (if (s208 t126.op t126.n) = true then
        (s176 n_ ({ r132 with no := r132.no - (1 : Int) }) (⟨(8 : Int), t126.op, t126.link, (-1 : Int), t126.n, (⟨(0 : Int), (0 : Int), false, false⟩ : RefT), (⟨(0 : Int), (0 : Int), false, false⟩ : RefT)⟩ : NodeT)).bind fun r146 =>
          some r146
      else
        some (s173 ({ r132 with no := r132.no - (1 : Int) }) (6 : Int) t126.at_)))
  else
    some (s173 S125 (3 : Int) z1.at_))
def s172 (n_ : Nat) (S0 : FoS) (z1 : TokT) : Option FoS :=
  (if S0.no = (0 : Int) then
    (if z1.kind = (0 : Int) then
      (k172_1 S0)
    else
      (k172_1 (s173 S0 (3 : Int) z1.at_)))
  else
    ck (i64ok (S0.no - (1 : Int))) <|
      (getN S0.ops 41 (S0.no - (1 : Int))).bind fun x38 =>
      (if x38.kind = (4 : Int) then
      ck (i64ok (S0.nv - (1 : Int))) <|
        (getN S0.opnd 41 (S0.nv - (1 : Int))).bind fun x153 =>
        (s206 ({ S0 with nv := S0.nv - (1 : Int) }) (⟨(9 : Int), (0 : Int), x153, x38.link, (0 : Int), (⟨(0 : Int), (0 : Int), false, false⟩ : RefT), (⟨(0 : Int), (0 : Int), false, false⟩ : RefT)⟩ : NodeT)).bind fun r155 =>
        ck (i64ok (x38.n + (1 : Int))) <|
        (if z1.kind = (44 : Int) then
        (s174 ({ S0 with arena := r155.1.arena, nn := r155.1.nn, nv := S0.nv - (1 : Int), ops := (List.set S0.ops (Int.toNat (S0.no - (1 : Int))) ({ x38 with n := x38.n + (1 : Int), link := r155.2 })), err := r155.1.err, bad := r155.1.bad })).bind fun r164 =>
          some ({ r164 with have_ := false })
      else
        (k172_4 n_ z1 ({ S0 with arena := r155.1.arena, nn := r155.1.nn, nv := S0.nv - (1 : Int), ops := (List.set S0.ops (Int.toNat (S0.no - (1 : Int))) ({ x38 with n := x38.n + (1 : Int), link := r155.2 })), err := r155.1.err, bad := r155.1.bad }) ({ x38 with n := x38.n + (1 : Int), link := r155.2 })))
    else
      (k172_4 n_ z1 S0 x38)))
/-- (*e2e/form.Former).push -/
def s175 (S0 : FoS) (z1 : MarkT) : Option FoS :=
  (getN S0.ops 41 S0.no).bind fun x22 =>
    ck (i64ok (S0.no + (1 : Int))) <|
    some ({ S0 with ops := (List.set S0.ops (Int.toNat S0.no) z1), no := S0.no + (1 : Int) })
/-- (*e2e/form.Former).after -/
def k139_4 (n_ : Nat) (r21 : FoS × TokT) (x174 : Int) (S171 : FoS) : Option FoS :=
  (if x174 = (0 : Int) then
    (s172 n_ S171 r21.2).bind fun r177 =>
      some r177
  else
    ck (i64ok (S171.nv - (1 : Int))) <|
      (getN S171.opnd 41 (S171.nv - (1 : Int))).bind fun x181 =>
      (if (0 : Int) ≤ x181 then
      (getN S171.arena 24 x181).bind fun x185 =>
        (if x185.kind = (4 : Int) then
        some (s173 S171 (3 : Int) r21.2.at_)
      else
        (s174 S171).bind fun r190 =>
          (s175 r190 (⟨(2 : Int), r21.2.n, (0 : Int), (0 : Int), (0 : Int)⟩ : MarkT)).bind fun r193 =>
          some ({ r193 with have_ := false }))
    else
      (s174 S171).bind fun r197 =>
        (s175 r197 (⟨(2 : Int), r21.2.n, (0 : Int), (0 : Int), (0 : Int)⟩ : MarkT)).bind fun r200 =>
        some ({ r200 with have_ := false })))

def k139_5 (n_ : Nat) (r21 : FoS × TokT) (x28 : Int) (S126 : FoS) : Option FoS :=
  (if x28 < (2 : Int) then
    (s170 S126).bind fun r206 =>
      (if r206 = (1 : Int) then
      (s171 S126).bind fun r211 =>
        (k139_4 n_ r21 (0 : Int) r211)
    else
      (k139_4 n_ r21 x28 S126))
  else
    (k139_4 n_ r21 x28 S126))

def k139_6 (n_ : Nat) (r21 : FoS × TokT) (x28 : Int) : Option FoS :=
  (if x28 < (3 : Int) then
    (s170 r21.1).bind fun r216 =>
      (if r216 = (2 : Int) then
      (s171 r21.1).bind fun r221 =>
        (k139_5 n_ r21 x28 r221)
    else
      (k139_5 n_ r21 x28 r21.1))
  else
    (k139_5 n_ r21 x28 r21.1))
def s139 (n_ : Nat) (S0 : FoS) : Option FoS :=
  (s168 S0).bind fun r21 =>
    (if r21.2.kind = (6 : Int) then
    (k139_6 n_ r21 (s169 r21.2.n))
  else
    (k139_6 n_ r21 (0 : Int)))
/-- e2e/api.RangeOK -/
def s209 (z0 : Int) : Bool :=
  (if z0 = (1 : Int) then
    true
  else
    (if z0 = (2 : Int) then
      true
    else
      (if z0 = (3 : Int) then
        true
      else
        decide (z0 = (4 : Int)))))
/-- (*e2e/form.Former).ref -/
def k177_0 (n_ : Nat) (S0 : FoS) (z1 : TokT) (x24 : Bool) : Option FoS :=
  (s174 S0).bind fun r25 =>
    (s168 r25).bind fun r28 =>
    (if r28.2.kind = (58 : Int) then
    (s174 r28.1).bind fun r38 =>
      (s168 r38).bind fun r41 =>
      (if r41.2.kind = (4 : Int) then
      (s174 r41.1).bind fun r49 =>
        (if x24 = true then
        (s176 n_ r49 (⟨(4 : Int), (0 : Int), (-1 : Int), (-1 : Int), (0 : Int), z1.r, r41.2.r⟩ : NodeT)).bind fun r55 =>
          some r55
      else
        some (s173 r49 (6 : Int) z1.at_))
    else
      some (s173 r41.1 (3 : Int) r41.2.at_))
  else
    (s176 n_ r28.1 (⟨(3 : Int), (0 : Int), (-1 : Int), (-1 : Int), (0 : Int), z1.r, (⟨(0 : Int), (0 : Int), false, false⟩ : RefT)⟩ : NodeT)).bind fun r35 =>
      some r35)
def s177 (n_ : Nat) (S0 : FoS) (z1 : TokT) : Option FoS :=
  (if (0 : Int) < S0.no then
    ck (i64ok (S0.no - (1 : Int))) <|
      (getN S0.ops 41 (S0.no - (1 : Int))).bind fun x61 =>
      (if x61.kind = (4 : Int) then
      (k177_0 n_ S0 z1 (s209 x61.op))
    else
      (k177_0 n_ S0 z1 false))
  else
    (k177_0 n_ S0 z1 false))
/-- (*e2e/form.Former).call -/
def s178 (S0 : FoS) (z1 : TokT) : Option FoS :=
  (s174 S0).bind fun r22 =>
    (s168 r22).bind fun r25 =>
    (if r25.2.kind = (40 : Int) then
    (s174 r25.1).bind fun r33 =>
      (s168 r33).bind fun r36 =>
      (if r36.2.kind = (41 : Int) then
      some (s173 r36.1 (6 : Int) z1.at_)
    else
      (s175 r36.1 (⟨(4 : Int), z1.n, z1.at_, (0 : Int), (-1 : Int)⟩ : MarkT)).bind fun r44 =>
        some r44)
  else
    some (s173 r25.1 (5 : Int) z1.at_))
/-- (*e2e/form.Former).atom -/
def s140 (n_ : Nat) (S0 : FoS) : Option FoS :=
  (s168 S0).bind fun r21 =>
    (if r21.2.kind = (2 : Int) then
    (s174 r21.1).bind fun r28 =>
      (s176 n_ r28 (⟨r21.2.op, (0 : Int), (-1 : Int), (-1 : Int), r21.2.n, (⟨(0 : Int), (0 : Int), false, false⟩ : RefT), (⟨(0 : Int), (0 : Int), false, false⟩ : RefT)⟩ : NodeT)).bind fun r31 =>
      some r31
  else
    (if r21.2.kind = (4 : Int) then
      (s177 n_ r21.1 r21.2).bind fun r36 =>
        some r36
    else
      (if r21.2.kind = (5 : Int) then
        (s178 r21.1 r21.2).bind fun r41 =>
          some r41
      else
        (if r21.2.kind = (40 : Int) then
          (s174 r21.1).bind fun r46 =>
            (s175 r46 (⟨(3 : Int), (0 : Int), (0 : Int), (0 : Int), (0 : Int)⟩ : MarkT)).bind fun r49 =>
            some r49
        else
          (if r21.2.kind = (3 : Int) then
            some (s173 r21.1 r21.2.n r21.2.at_)
          else
            (if r21.2.kind = (6 : Int) then
              (if r21.2.n = (8 : Int) then
                (s174 r21.1).bind fun r60 =>
                  (s175 r60 (⟨(1 : Int), (0 : Int), (0 : Int), (0 : Int), (0 : Int)⟩ : MarkT)).bind fun r63 =>
                  some r63
              else
                some (s173 r21.1 (3 : Int) r21.2.at_))
            else
              some (s173 r21.1 (3 : Int) r21.2.at_)))))))
/-- (*e2e/form.Former).Parse -/
def l115_0_st (n_ : Nat) (rec44 : FoS → Option (FoS × TreeV)) (S41 : FoS) : Option (FoS × TreeV) :=
  (if S41.err = (0 : Int) then
    (if S41.done = true then
      ck (0 ≤ S41.nn ∧ S41.nn ≤ ((24 : Nat) : Int)) <|
        (s121 S41.arena (Int.toNat S41.nn)).bind fun r61 =>
        ck (i64ok (S41.nn - (1 : Int))) <|
        some ({ S41 with nt := (0 : Int), nn := (0 : Int), nv := (0 : Int), no := (0 : Int) }, (⟨r61, (S41.nn - (1 : Int)), (0 : Int), (0 : Int)⟩ : TreeV))
    else
      (if S41.have_ = true then
        (s139 n_ S41).bind fun r52 =>
          (rec44 r52)
      else
        (s140 n_ S41).bind fun r55 =>
          (rec44 r55)))
  else
    some ({ S41 with nt := (0 : Int), nn := (0 : Int), nv := (0 : Int), no := (0 : Int) }, (⟨[], (-1 : Int), S41.err, S41.bad⟩ : TreeV)))
def l115_0 (n_ : Nat)  : Nat → FoS → Option (FoS × TreeV)
  | 0 => fun _ => none
  | k + 1 => l115_0_st n_ (l115_0 n_ k)
def s115 (n_ : Nat) (S0 : FoS) (z1 : List UInt8) : Option (FoS × TreeV) :=
  (if (40 : Int) < (z1.length : Int) then
    some (S0, (⟨[], (-1 : Int), (1 : Int), (0 : Int)⟩ : TreeV))
  else
    (s138 n_ S0 z1).bind fun r25 =>
      (l115_0 n_ n_ ({ r25 with k := (0 : Int), pos := (0 : Int), have_ := false, done := false, err := (0 : Int), bad := (0 : Int) })))
/-- (*e2e/val.Evaluator).emit -/
def s196 (S0 : VS) (z1 : Int) (z2 : Int) (z3 : ValT) (z4 : BitVec 32) : Option VS :=
  ck (i64ok (S0.start - (1 : Int))) <|
    (getN S0.code 48 (S0.start - (1 : Int))).bind fun x24 =>
    some ({ S0 with code := (List.set S0.code (Int.toNat (S0.start - (1 : Int))) (⟨z1, z2, z3, z4⟩ : InstrT)), start := S0.start - (1 : Int), cells := (S0.cells ||| z4) })
/-- e2e/api.InGrid -/
def s116 (z0 : RefT) : Bool :=
  (if (0 : Int) ≤ z0.col then
    (if z0.col < (4 : Int) then
      (if (0 : Int) ≤ z0.row then
        decide (z0.row < (6 : Int))
      else
        false)
    else
      false)
  else
    false)
/-- e2e/api.CellOf -/
def s217 (z0 : RefT) : Option Int :=
  ck (i64ok (z0.row * (4 : Int))) <|
    ck (i64ok ((z0.row * (4 : Int)) + z0.col)) <|
    some ((z0.row * (4 : Int)) + z0.col)
/-- (*e2e/val.Evaluator).refer -/
def s197 (S0 : VS) (z1 : RefT) : Option VS :=
  (if (s116 z1) = true then
    (s217 z1).bind fun r28 =>
      (s196 S0 (2 : Int) r28 (⟨(0 : Int), (0 : Int), ([] : List UInt8)⟩ : ValT) (s92 r28)).bind fun r32 =>
      some r32
  else
    (s196 S0 (1 : Int) (0 : Int) (⟨(4 : Int), (2 : Int), ([] : List UInt8)⟩ : ValT) (0 : BitVec 32)).bind fun r25 =>
      some r25)
/-- e2e/val.tallies -/
def s218 (z0 : Int) : Bool :=
  (if z0 = (5 : Int) then
    false
  else
    decide (z0 < (8 : Int)))
/-- (*e2e/val.Evaluator).call -/
def k198_0 (S0 : VS) (z1 : Int) (x23 : Int) : Option VS :=
  (s196 S0 x23 z1 (⟨(0 : Int), (0 : Int), ([] : List UInt8)⟩ : ValT) (0 : BitVec 32)).bind fun r24 =>
    some r24
def s198 (S0 : VS) (z1 : Int) : Option VS :=
  (if z1 = (5 : Int) then
    (k198_0 S0 z1 (5 : Int))
  else
    (if (s218 z1) = true then
      (k198_0 S0 z1 (10 : Int))
    else
      (k198_0 S0 z1 (3 : Int))))
/-- e2e/api.Block -/
def l149_0_st (n_ : Nat) (x32 : Int) (x40 : Int) (rec41 : (BitVec 32) → Int → Option (BitVec 32 × Bool)) (rec49 : (BitVec 32) → Int → Option (BitVec 32 × Bool)) (x47 : BitVec 32) (x48 : Int) : Option (BitVec 32 × Bool) :=
  (if x48 ≤ x32 then
    ck (i64ok (x40 * (4 : Int))) <|
      ck (i64ok ((x40 * (4 : Int)) + x48)) <|
      ck (0 ≤ ((x40 * (4 : Int)) + x48) ∧ ((x40 * (4 : Int)) + x48) ≤ 18446744073709551615) <|
      ck (0 ≤ ((x40 * (4 : Int)) + x48)) <|
      ck (i64ok (x48 + (1 : Int))) <|
      (rec49 (x47 ||| ((1 : BitVec 32) <<< Int.toNat ((x40 * (4 : Int)) + x48))) (x48 + (1 : Int)))
  else
    ck (i64ok (x40 + (1 : Int))) <|
      (rec41 x47 (x40 + (1 : Int))))
def l149_0 (n_ : Nat) (x32 : Int) (x40 : Int) (rec41 : (BitVec 32) → Int → Option (BitVec 32 × Bool)) : Nat → (BitVec 32) → Int → Option (BitVec 32 × Bool)
  | 0 => fun _ _ => none
  | k + 1 => l149_0_st n_ x32 x40 rec41 (l149_0 n_ x32 x40 rec41 k)

def l149_1_st (n_ : Nat) (x31 : Int) (x32 : Int) (x36 : Int) (rec41 : (BitVec 32) → Int → Option (BitVec 32 × Bool)) (x39 : BitVec 32) (x40 : Int) : Option (BitVec 32 × Bool) :=
  (if x40 ≤ x36 then
    (l149_0 n_ x32 x40 rec41 n_ x39 x31)
  else
    some (x39, true))
def l149_1 (n_ : Nat) (x31 : Int) (x32 : Int) (x36 : Int) : Nat → (BitVec 32) → Int → Option (BitVec 32 × Bool)
  | 0 => fun _ _ => none
  | k + 1 => l149_1_st n_ x31 x32 x36 (l149_1 n_ x31 x32 x36 k)

def k149_2 (n_ : Nat) (x31 : Int) (x32 : Int) (x35 : Int) (x36 : Int) : Option (BitVec 32 × Bool) :=
  (l149_1 n_ x31 x32 x36 n_ (0 : BitVec 32) x35)

def k149_3 (n_ : Nat) (z0 : RefT) (z1 : RefT) (x31 : Int) (x32 : Int) : Option (BitVec 32 × Bool) :=
  (if z1.row < z0.row then
    (k149_2 n_ x31 x32 z1.row z0.row)
  else
    (k149_2 n_ x31 x32 z0.row z1.row))
def s149 (n_ : Nat) (z0 : RefT) (z1 : RefT) : Option (BitVec 32 × Bool) :=
  (if (s116 z0) = true then
    (if (s116 z1) = true then
      (if z1.col < z0.col then
        (k149_3 n_ z0 z1 z1.col z0.col)
      else
        (k149_3 n_ z0 z1 z0.col z1.col))
    else
      some ((0 : BitVec 32), false))
  else
    some ((0 : BitVec 32), false))
/-- (*e2e/val.Evaluator).link -/
def k199_2 (x21 : NodeT) (x25 : Int) (S61 : VS) (x73 : Int) (x74 : BitVec 32) : Option VS :=
  (s196 S61 x73 x25 (⟨(0 : Int), (0 : Int), ([] : List UInt8)⟩ : ValT) x74).bind fun r75 =>
    (if x21.b < (0 : Int) then
    (s196 r75 (6 : Int) x25 (⟨(0 : Int), (0 : Int), ([] : List UInt8)⟩ : ValT) (0 : BitVec 32)).bind fun r80 =>
      some r80
  else
    some r75)

def k199_3 (n_ : Nat) (a1 : List NodeT) (m1 : Nat) (x21 : NodeT) (x25 : Int) (S61 : VS) : Option VS :=
  (if (s218 x25) = true then
    (getN a1 m1 x21.a).bind fun x67 =>
      (if x67.kind = (4 : Int) then
      (s149 n_ x67.r1 x67.r2).bind fun r85 =>
        (if r85.2 = true then
        (k199_2 x21 x25 S61 (8 : Int) r85.1)
      else
        (k199_2 x21 x25 S61 (9 : Int) (0 : BitVec 32)))
    else
      (k199_2 x21 x25 S61 (7 : Int) (0 : BitVec 32)))
  else
    some S61)
def s199 (n_ : Nat) (S0 : VS) (a1 : List NodeT) (m1 : Nat) (z2 : Int) : Option VS :=
  (getN a1 m1 z2).bind fun x21 =>
    (getN S0.owner 24 z2).bind fun x25 =>
    (if (0 : Int) ≤ x21.b then
    (getN S0.owner 24 x21.b).bind fun x93 =>
      (k199_3 n_ a1 m1 x21 x25 ({ S0 with owner := (List.set S0.owner (Int.toNat x21.b) x25) }))
  else
    (k199_3 n_ a1 m1 x21 x25 S0))
/-- (*e2e/val.Evaluator).compile -/
def k153_2 (x52 : Int) (rec53 : Int → VS → Option VS) (S69 : VS) : Option VS :=
  ck (i64ok (x52 - (1 : Int))) <|
    (rec53 (x52 - (1 : Int)) S69)

def l153_3_st (n_ : Nat) (a1 : List NodeT) (m1 : Nat) (rec53 : Int → VS → Option VS) (x52 : Int) (S49 : VS) : Option VS :=
  (if (0 : Int) ≤ x52 then
    (getN a1 m1 x52).bind fun x73 =>
      (if x73.kind = (1 : Int) then
      (s196 S49 (1 : Int) (0 : Int) (⟨(1 : Int), x73.n, ([] : List UInt8)⟩ : ValT) (0 : BitVec 32)).bind fun r79 =>
        (k153_2 x52 rec53 r79)
    else
      (if x73.kind = (2 : Int) then
        (s196 S49 (1 : Int) (0 : Int) (⟨(3 : Int), x73.n, ([] : List UInt8)⟩ : ValT) (0 : BitVec 32)).bind fun r84 =>
          (k153_2 x52 rec53 r84)
      else
        (if x73.kind = (5 : Int) then
          (s196 S49 (1 : Int) (0 : Int) (⟨(4 : Int), (2 : Int), ([] : List UInt8)⟩ : ValT) (0 : BitVec 32)).bind fun r89 =>
            (k153_2 x52 rec53 r89)
        else
          (if x73.kind = (3 : Int) then
            (s197 S49 x73.r1).bind fun r94 =>
              (k153_2 x52 rec53 r94)
          else
            (if x73.kind = (6 : Int) then
              (s196 S49 (3 : Int) (0 : Int) (⟨(0 : Int), (0 : Int), ([] : List UInt8)⟩ : ValT) (0 : BitVec 32)).bind fun r99 =>
                (k153_2 x52 rec53 r99)
            else
              (if x73.kind = (7 : Int) then
                (s196 S49 (4 : Int) x73.op (⟨(0 : Int), (0 : Int), ([] : List UInt8)⟩ : ValT) (0 : BitVec 32)).bind fun r104 =>
                  (k153_2 x52 rec53 r104)
              else
                (if x73.kind = (8 : Int) then
                  (getN S49.owner 24 x73.a).bind fun x109 =>
                    (s198 ({ S49 with owner := (List.set S49.owner (Int.toNat x73.a) x73.op) }) x73.op).bind fun r112 =>
                    (k153_2 x52 rec53 r112)
                else
                  (if x73.kind = (9 : Int) then
                    (s199 n_ S49 a1 m1 x52).bind fun r117 =>
                      (k153_2 x52 rec53 r117)
                  else
                    (k153_2 x52 rec53 S49)))))))))
  else
    some S49)
def l153_3 (n_ : Nat) (a1 : List NodeT) (m1 : Nat) : Nat → Int → VS → Option VS
  | 0 => fun _ _ => none
  | k + 1 => l153_3_st n_ a1 m1 (l153_3 n_ a1 m1 k)
def s153 (n_ : Nat) (S0 : VS) (a1 : List NodeT) (m1 : Nat) : Option VS :=
  ck (i64ok ((m1 : Int) - (1 : Int))) <|
    (l153_3 n_ a1 m1 n_ ((m1 : Int) - (1 : Int)) ({ S0 with start := (48 : Int), cells := (0 : BitVec 32) }))
/-- (*e2e/val.Evaluator).load -/
def s127 (n_ : Nat) (S0 : VS) (z1 : List UInt8) : Option (VS × Bool) :=
  ck (0 ≤ (1 : Int) ∧ (1 : Int) ≤ (z1.length : Int)) <|
    (s115 n_ S0.f (List.drop (Int.toNat (1 : Int)) z1)).bind fun r22 =>
    (if r22.2.err = (0 : Int) then
    ck (0 < r22.2.nodes.length) <|
      (s153 n_ ({ S0 with f := r22.1 }) r22.2.nodes r22.2.nodes.length).bind fun r43 =>
      some (r43, true)
  else
    some ({ S0 with f := r22.1 }, false))
/-- (*e2e/val.Evaluator).Reads -/
def s107 (n_ : Nat) (S0 : VS) (z1 : List UInt8) : Option (VS × BitVec 32 × Int) :=
  (if (40 : Int) < (z1.length : Int) then
    some (S0, (0 : BitVec 32), (1 : Int))
  else
    (if (z1 == ([] : List UInt8)) = true then
      some (S0, (0 : BitVec 32), (0 : Int))
    else
      ck (0 ≤ (0 : Int) ∧ (0 : Int) < (z1.length : Int)) <|
        (if ((List.getD z1 (Int.toNat (0 : Int)) 0).toNat : Int) = (61 : Int) then
        (s127 n_ S0 z1).bind fun r28 =>
          (if r28.2 = true then
          some ({ r28.1 with start := (48 : Int) }, r28.1.cells, (0 : Int))
        else
          some (r28.1, (0 : BitVec 32), (0 : Int)))
      else
        some (S0, (0 : BitVec 32), (0 : Int)))))
/-- e2e/graph.one -/
def s128 (z0 : Int) : Option (BitVec 32) :=
  ck (0 ≤ z0 ∧ z0 ≤ 18446744073709551615) <|
    ck (0 ≤ z0) <|
    some ((1 : BitVec 32) <<< Int.toNat z0)
/-- e2e/graph.first -/
def k129_0 (x35 : BitVec 32) (x36 : Int) : Option Int :=
  (if ((x35 &&& (1 : BitVec 32)).toNat : Int) = (0 : Int) then
    ck (i64ok (x36 + (1 : Int))) <|
      some (x36 + (1 : Int))
  else
    some x36)

def k129_1 (x31 : BitVec 32) (x32 : Int) : Option Int :=
  (if ((x31 &&& (3 : BitVec 32)).toNat : Int) = (0 : Int) then
    ck (i64ok (x32 + (2 : Int))) <|
      (k129_0 (x31 >>> Int.toNat (2 : Int)) (x32 + (2 : Int)))
  else
    (k129_0 x31 x32))

def k129_2 (x27 : BitVec 32) (x28 : Int) : Option Int :=
  (if ((x27 &&& (15 : BitVec 32)).toNat : Int) = (0 : Int) then
    ck (i64ok (x28 + (4 : Int))) <|
      (k129_1 (x27 >>> Int.toNat (4 : Int)) (x28 + (4 : Int)))
  else
    (k129_1 x27 x28))

def k129_3 (x23 : BitVec 32) (x24 : Int) : Option Int :=
  (if ((x23 &&& (255 : BitVec 32)).toNat : Int) = (0 : Int) then
    ck (i64ok (x24 + (8 : Int))) <|
      (k129_2 (x23 >>> Int.toNat (8 : Int)) (x24 + (8 : Int)))
  else
    (k129_2 x23 x24))
def s129 (z0 : BitVec 32) : Option Int :=
  (if ((z0 &&& (65535 : BitVec 32)).toNat : Int) = (0 : Int) then
    (k129_3 (z0 >>> Int.toNat (16 : Int)) (16 : Int))
  else
    (k129_3 z0 (0 : Int)))
/-- (*e2e/graph.Graph).Hang -/
def l109_0_st (n_ : Nat) (S0 : GS) (rec25 : (BitVec 32) → (BitVec 32) → Option (BitVec 32)) (x23 : BitVec 32) (x24 : BitVec 32) : Option (BitVec 32) :=
  (if (x24.toNat : Int) = (0 : Int) then
    some x23
  else
    (s129 x24).bind fun r29 =>
      (getN S0.readBy 24 r29).bind fun x32 =>
      (rec25 (x23 ||| (x32 &&& ~~~x23)) ((x24 &&& (x24 - (1 : BitVec 32))) ||| (x32 &&& ~~~x23))))
def l109_0 (n_ : Nat) (S0 : GS) : Nat → (BitVec 32) → (BitVec 32) → Option (BitVec 32)
  | 0 => fun _ _ => none
  | k + 1 => l109_0_st n_ S0 (l109_0 n_ S0 k)
def s109 (n_ : Nat) (S0 : GS) (z1 : BitVec 32) : Option (BitVec 32) :=
  (l109_0 n_ S0 n_ (z1 &&& (16777215 : BitVec 32)) (z1 &&& (16777215 : BitVec 32)))
/-- (*e2e/graph.Graph).top -/
def k154_0 (x24 : BitVec 32) (rec25 : Int → (BitVec 32) → Option Int) (x31 : Int) : Option Int :=
  (rec25 x31 (x24 &&& (x24 - (1 : BitVec 32))))

def l154_1_st (n_ : Nat) (S0 : GS) (rec25 : Int → (BitVec 32) → Option Int) (x23 : Int) (x24 : BitVec 32) : Option Int :=
  (if (x24.toNat : Int) = (0 : Int) then
    some x23
  else
    (s129 x24).bind fun r32 =>
      (getN S0.level 24 r32).bind fun x35 =>
      (if x23 ≤ x35 then
      ck (i64ok (x35 + (1 : Int))) <|
        (k154_0 x24 rec25 (x35 + (1 : Int)))
    else
      (k154_0 x24 rec25 x23)))
def l154_1 (n_ : Nat) (S0 : GS) : Nat → Int → (BitVec 32) → Option Int
  | 0 => fun _ _ => none
  | k + 1 => l154_1_st n_ S0 (l154_1 n_ S0 k)
def s154 (n_ : Nat) (S0 : GS) (z1 : BitVec 32) : Option Int :=
  (l154_1 n_ S0 n_ (0 : Int) z1)
/-- (*e2e/graph.Graph).mend -/
def k130_2 (x72 : BitVec 32) (rec73 : (BitVec 32) → (BitVec 32) → GS → Option GS) (x109 : BitVec 32) (S106 : GS) : Option GS :=
  (rec73 x109 (x72 &&& (x72 - (1 : BitVec 32))) S106)

def l130_3_st (n_ : Nat) (S0 : GS) (r24 : BitVec 32) (x71 : BitVec 32) (x72 : BitVec 32) (S68 : GS) (rec73 : (BitVec 32) → (BitVec 32) → GS → Option GS) (r110 : Int) (x115 : BitVec 32) (rec121 : Int → (BitVec 32) → Option GS) (x119 : Int) (x120 : BitVec 32) : Option GS :=
  (if (x120.toNat : Int) = (0 : Int) then
    (getN S68.need 24 r110).bind fun x126 =>
      (if x119 = (0 : Int) then
      (if ((x115 &&& (S0.cyclic &&& ~~~r24)).toNat : Int) = (0 : Int) then
        (s128 r110).bind fun r133 =>
          (k130_2 x72 rec73 (x71 ||| r133) ({ S68 with need := (List.set S68.need (Int.toNat r110) x119), touched := S68.touched + (1 : Int) }))
      else
        (k130_2 x72 rec73 x71 ({ S68 with need := (List.set S68.need (Int.toNat r110) x119), touched := S68.touched + (1 : Int) })))
    else
      (k130_2 x72 rec73 x71 ({ S68 with need := (List.set S68.need (Int.toNat r110) x119), touched := S68.touched + (1 : Int) })))
  else
    ck (i64ok (x119 + (1 : Int))) <|
      (rec121 (x119 + (1 : Int)) (x120 &&& (x120 - (1 : BitVec 32)))))
def l130_3 (n_ : Nat) (S0 : GS) (r24 : BitVec 32) (x71 : BitVec 32) (x72 : BitVec 32) (S68 : GS) (rec73 : (BitVec 32) → (BitVec 32) → GS → Option GS) (r110 : Int) (x115 : BitVec 32) : Nat → Int → (BitVec 32) → Option GS
  | 0 => fun _ _ => none
  | k + 1 => l130_3_st n_ S0 r24 x71 x72 S68 rec73 r110 x115 (l130_3 n_ S0 r24 x71 x72 S68 rec73 r110 x115 k)

def l130_10_st (n_ : Nat) (S0 : GS) (r24 : BitVec 32) (x250 : BitVec 32) (rec251 : (BitVec 32) → (BitVec 32) → GS → Option GS) (r258 : BitVec 32) (rec309 : (BitVec 32) → (BitVec 32) → GS → Option GS) (x307 : BitVec 32) (x308 : BitVec 32) (S304 : GS) : Option GS :=
  (if (x308.toNat : Int) = (0 : Int) then
    (rec251 x307 (x250 &&& ~~~r258) S304)
  else
    (s129 x308).bind fun r336 =>
      (getN S304.need 24 r336).bind fun x339 =>
      ck (i64ok (x339 - (1 : Int))) <|
      (if (x339 - (1 : Int)) = (0 : Int) then
      (getN S304.reads 24 r336).bind fun x345 =>
        (if ((x345 &&& (S0.cyclic &&& ~~~r24)).toNat : Int) = (0 : Int) then
        (s128 r336).bind fun r349 =>
          (k130_2 x308 rec309 (x307 ||| r349) ({ S304 with need := (List.set S304.need (Int.toNat r336) (x339 - (1 : Int))) }))
      else
        (k130_2 x308 rec309 x307 ({ S304 with need := (List.set S304.need (Int.toNat r336) (x339 - (1 : Int))) })))
    else
      (k130_2 x308 rec309 x307 ({ S304 with need := (List.set S304.need (Int.toNat r336) (x339 - (1 : Int))) }))))
def l130_10 (n_ : Nat) (S0 : GS) (r24 : BitVec 32) (x250 : BitVec 32) (rec251 : (BitVec 32) → (BitVec 32) → GS → Option GS) (r258 : BitVec 32) : Nat → (BitVec 32) → (BitVec 32) → GS → Option GS
  | 0 => fun _ _ _ => none
  | k + 1 => l130_10_st n_ S0 r24 x250 rec251 r258 (l130_10 n_ S0 r24 x250 rec251 r258 k)

def l130_19_st (n_ : Nat) (S0 : GS) (r24 : BitVec 32) (x250 : BitVec 32) (rec552 : (BitVec 32) → GS → Option GS) (x551 : BitVec 32) (S548 : GS) : Option GS :=
  (if (x551.toNat : Int) = (0 : Int) then
    some ({ S548 with cyclic := ((S0.cyclic &&& ~~~r24) ||| x250) })
  else
    (s129 x551).bind fun r556 =>
      (getN S548.level 24 r556).bind fun x559 =>
      (rec552 (x551 &&& (x551 - (1 : BitVec 32))) ({ S548 with level := (List.set S548.level (Int.toNat r556) (-1 : Int)) })))
def l130_19 (n_ : Nat) (S0 : GS) (r24 : BitVec 32) (x250 : BitVec 32) : Nat → (BitVec 32) → GS → Option GS
  | 0 => fun _ _ => none
  | k + 1 => l130_19_st n_ S0 r24 x250 (l130_19 n_ S0 r24 x250 k)

def l130_20_st (n_ : Nat) (S0 : GS) (r24 : BitVec 32) (rec251 : (BitVec 32) → (BitVec 32) → GS → Option GS) (x249 : BitVec 32) (x250 : BitVec 32) (S246 : GS) : Option GS :=
  (if (x249.toNat : Int) = (0 : Int) then
    (l130_19 n_ S0 r24 x250 n_ x250 S246)
  else
    (s129 x249).bind fun r255 =>
      (s128 r255).bind fun r258 =>
      (getN S246.reads 24 r255).bind fun x261 =>
      (s154 n_ S246 x261).bind fun r263 =>
      (getN S246.level 24 r255).bind fun x266 =>
      (getN S246.readBy 24 r255).bind fun x271 =>
      (l130_10 n_ S0 r24 x250 rec251 r258 n_ (x249 &&& (x249 - (1 : BitVec 32))) (x271 &&& r24) ({ S246 with level := (List.set S246.level (Int.toNat r255) r263) })))
def l130_20 (n_ : Nat) (S0 : GS) (r24 : BitVec 32) : Nat → (BitVec 32) → (BitVec 32) → GS → Option GS
  | 0 => fun _ _ _ => none
  | k + 1 => l130_20_st n_ S0 r24 (l130_20 n_ S0 r24 k)

def l130_21_st (n_ : Nat) (S0 : GS) (r24 : BitVec 32) (rec73 : (BitVec 32) → (BitVec 32) → GS → Option GS) (x71 : BitVec 32) (x72 : BitVec 32) (S68 : GS) : Option GS :=
  (if (x72.toNat : Int) = (0 : Int) then
    (l130_20 n_ S0 r24 n_ x71 r24 S68)
  else
    (s129 x72).bind fun r110 =>
      ck (i64ok (S68.touched + (1 : Int))) <|
      (getN S68.reads 24 r110).bind fun x115 =>
      (l130_3 n_ S0 r24 x71 x72 S68 rec73 r110 x115 n_ (0 : Int) (x115 &&& r24)))
def l130_21 (n_ : Nat) (S0 : GS) (r24 : BitVec 32) : Nat → (BitVec 32) → (BitVec 32) → GS → Option GS
  | 0 => fun _ _ _ => none
  | k + 1 => l130_21_st n_ S0 r24 (l130_21 n_ S0 r24 k)
def s130 (n_ : Nat) (S0 : GS) (z1 : Int) : Option GS :=
  (s128 z1).bind fun r21 =>
    (s109 n_ S0 r21).bind fun r24 =>
    (l130_21 n_ S0 r24 n_ (0 : BitVec 32) r24 S0)
/-- (*e2e/graph.Graph).Set -/
def l108_0_st (n_ : Nat) (z1 : Int) (z2 : BitVec 32) (r28 : BitVec 32) (rec79 : (BitVec 32) → GS → Option (GS × Int)) (x78 : BitVec 32) (S75 : GS) : Option (GS × Int) :=
  (if (x78.toNat : Int) = (0 : Int) then
    (getN S75.reads 24 z1).bind fun x89 =>
      (s130 n_ ({ S75 with reads := (List.set S75.reads (Int.toNat z1) z2) }) z1).bind fun r92 =>
      some (r92, (0 : Int))
  else
    (s129 x78).bind fun r83 =>
      (getN S75.readBy 24 r83).bind fun x86 =>
      (rec79 (x78 &&& (x78 - (1 : BitVec 32))) ({ S75 with readBy := (List.set S75.readBy (Int.toNat r83) (x86 ||| r28)) })))
def l108_0 (n_ : Nat) (z1 : Int) (z2 : BitVec 32) (r28 : BitVec 32) : Nat → (BitVec 32) → GS → Option (GS × Int)
  | 0 => fun _ _ => none
  | k + 1 => l108_0_st n_ z1 z2 r28 (l108_0 n_ z1 z2 r28 k)

def l108_1_st (n_ : Nat) (z1 : Int) (z2 : BitVec 32) (r28 : BitVec 32) (rec50 : (BitVec 32) → GS → Option (GS × Int)) (x49 : BitVec 32) (S46 : GS) : Option (GS × Int) :=
  (if (x49.toNat : Int) = (0 : Int) then
    (getN S46.reads 24 z1).bind fun x60 =>
      (l108_0 n_ z1 z2 r28 n_ (z2 &&& ~~~x60) S46)
  else
    (s129 x49).bind fun r54 =>
      (getN S46.readBy 24 r54).bind fun x57 =>
      (rec50 (x49 &&& (x49 - (1 : BitVec 32))) ({ S46 with readBy := (List.set S46.readBy (Int.toNat r54) (x57 &&& ~~~r28)) })))
def l108_1 (n_ : Nat) (z1 : Int) (z2 : BitVec 32) (r28 : BitVec 32) : Nat → (BitVec 32) → GS → Option (GS × Int)
  | 0 => fun _ _ => none
  | k + 1 => l108_1_st n_ z1 z2 r28 (l108_1 n_ z1 z2 r28 k)
def s108 (n_ : Nat) (S0 : GS) (z1 : Int) (z2 : BitVec 32) : Option (GS × Int) :=
  (if z1 < (0 : Int) then
    some ({ S0 with touched := (0 : Int) }, (9 : Int))
  else
    (if (24 : Int) ≤ z1 then
      some ({ S0 with touched := (0 : Int) }, (9 : Int))
    else
      (if ((z2 &&& ~~~(16777215 : BitVec 32)).toNat : Int) = (0 : Int) then
        (s128 z1).bind fun r28 =>
          (getN S0.reads 24 z1).bind fun x31 =>
          (l108_1 n_ z1 z2 r28 n_ (x31 &&& ~~~z2) ({ S0 with touched := (0 : Int) }))
      else
        some ({ S0 with touched := (0 : Int) }, (9 : Int)))))
/-- (*e2e/graph.Graph).Cyclic -/
def s110 (S0 : GS) : BitVec 32 :=
  S0.cyclic
/-- e2e/api.Err -/
def s131 (z0 : Int) : ValT :=
  (⟨(4 : Int), z0, ([] : List UInt8)⟩ : ValT)
/-- (*e2e/calc.Calc).blight -/
def k111_2 (x48 : Int) (rec49 : Int → KS → Option KS) (S66 : KS) : Option KS :=
  ck (i64ok (x48 + (1 : Int))) <|
    (rec49 (x48 + (1 : Int)) S66)

def l111_3_st (n_ : Nat) (z1 : BitVec 32) (rec49 : Int → KS → Option KS) (x48 : Int) (S45 : KS) : Option KS :=
  (if x48 < (24 : Int) then
    ck (0 ≤ x48 ∧ x48 ≤ 18446744073709551615) <|
      ck (0 ≤ x48) <|
      (if (((z1 >>> Int.toNat x48) &&& (1 : BitVec 32)).toNat : Int) = (1 : Int) then
      (getN S45.shown 24 x48).bind fun x75 =>
        (k111_2 x48 rec49 ({ S45 with shown := (List.set S45.shown (Int.toNat x48) (s131 (6 : Int))) }))
    else
      (k111_2 x48 rec49 S45))
  else
    some S45)
def l111_3 (n_ : Nat) (z1 : BitVec 32) : Nat → Int → KS → Option KS
  | 0 => fun _ _ => none
  | k + 1 => l111_3_st n_ z1 (l111_3 n_ z1 k)
def s111 (n_ : Nat) (S0 : KS) (z1 : BitVec 32) : Option KS :=
  (l111_3 n_ z1 n_ (0 : Int) S0)
/-- (*e2e/graph.Graph).Order -/
def l112_0_st (n_ : Nat) (S0 : GS) (x46 : Int) (rec140 : (BitVec 32) → (List Int) → (List Int) → Option (List Int)) (x139 : BitVec 32) (a135 : List Int) (a136 : List Int) : Option (List Int) :=
  (if (x139.toNat : Int) = (0 : Int) then
    ck ((Int.toNat x46) = a135.length) <|
      some a135
  else
    (s129 x139).bind fun r144 =>
      (getN S0.level 24 r144).bind fun x147 =>
      (getN a136 25 x147).bind fun x149 =>
      (getN a135 (Int.toNat x46) x149).bind fun x151 =>
      ck (i64ok (x149 + (1 : Int))) <|
      (rec140 (x139 &&& (x139 - (1 : BitVec 32))) (List.set a135 (Int.toNat x149) r144) (List.set a136 (Int.toNat x147) (x149 + (1 : Int)))))
def l112_0 (n_ : Nat) (S0 : GS) (x46 : Int) : Nat → (BitVec 32) → (List Int) → (List Int) → Option (List Int)
  | 0 => fun _ _ _ => none
  | k + 1 => l112_0_st n_ S0 x46 (l112_0 n_ S0 x46 k)

def l112_1_st (n_ : Nat) (S0 : GS) (z1 : BitVec 32) (x46 : Int) (rec82 : Int → (List Int) → Option (List Int)) (x81 : Int) (a78 : List Int) : Option (List Int) :=
  (if x81 ≤ (24 : Int) then
    (getN a78 25 x81).bind fun x86 =>
      ck (i64ok (x81 - (1 : Int))) <|
      (getN a78 25 (x81 - (1 : Int))).bind fun x89 =>
      ck (i64ok (x86 + x89)) <|
      ck (i64ok (x81 + (1 : Int))) <|
      (rec82 (x81 + (1 : Int)) (List.set a78 (Int.toNat x81) (x86 + x89)))
  else
    ck (0 ≤ x46 ∧ x46 ≤ 1048576) <|
      (l112_0 n_ S0 x46 n_ ((z1 &&& (16777215 : BitVec 32)) &&& ~~~S0.cyclic) (List.replicate (Int.toNat x46) (0 : Int)) a78))
def l112_1 (n_ : Nat) (S0 : GS) (z1 : BitVec 32) (x46 : Int) : Nat → Int → (List Int) → Option (List Int)
  | 0 => fun _ _ => none
  | k + 1 => l112_1_st n_ S0 z1 x46 (l112_1 n_ S0 z1 x46 k)

def l112_2_st (n_ : Nat) (S0 : GS) (z1 : BitVec 32) (rec48 : Int → (BitVec 32) → (List Int) → Option (List Int)) (x46 : Int) (x47 : BitVec 32) (a43 : List Int) : Option (List Int) :=
  (if (x47.toNat : Int) = (0 : Int) then
    (l112_1 n_ S0 z1 x46 n_ (1 : Int) a43)
  else
    (s129 x47).bind fun r52 =>
      (getN S0.level 24 r52).bind fun x55 =>
      ck (i64ok (x55 + (1 : Int))) <|
      (getN a43 25 (x55 + (1 : Int))).bind fun x58 =>
      ck (i64ok (x58 + (1 : Int))) <|
      ck (i64ok (x46 + (1 : Int))) <|
      (rec48 (x46 + (1 : Int)) (x47 &&& (x47 - (1 : BitVec 32))) (List.set a43 (Int.toNat (x55 + (1 : Int))) (x58 + (1 : Int)))))
def l112_2 (n_ : Nat) (S0 : GS) (z1 : BitVec 32) : Nat → Int → (BitVec 32) → (List Int) → Option (List Int)
  | 0 => fun _ _ _ => none
  | k + 1 => l112_2_st n_ S0 z1 (l112_2 n_ S0 z1 k)
def s112 (n_ : Nat) (S0 : GS) (z1 : BitVec 32) : Option (List Int) :=
  (if (((z1 &&& (16777215 : BitVec 32)) &&& ~~~S0.cyclic).toNat : Int) = (0 : Int) then
    some []
  else
    (l112_2 n_ S0 z1 n_ (0 : Int) ((z1 &&& (16777215 : BitVec 32)) &&& ~~~S0.cyclic) (List.replicate 25 (0 : Int))))
/-- (*e2e/graph.Graph).Reads -/
def s132 (S0 : GS) (z1 : Int) : Option (BitVec 32) :=
  (if z1 < (0 : Int) then
    some (0 : BitVec 32)
  else
    (if (24 : Int) ≤ z1 then
      some (0 : BitVec 32)
    else
      (getN S0.reads 24 z1).bind fun x25 =>
        some x25))
/-- e2e/api.Lawful -/
def s155 (z0 : ValT) : Bool :=
  (if z0.kind = (0 : Int) then
    (if z0.n = (0 : Int) then
      z0.s == ([] : List UInt8)
    else
      false)
  else
    (if z0.kind = (1 : Int) then
      (if (-999999999 : Int) ≤ z0.n then
        (if z0.n ≤ (999999999 : Int) then
          z0.s == ([] : List UInt8)
        else
          false)
      else
        false)
    else
      (if z0.kind = (2 : Int) then
        (if z0.n = (0 : Int) then
          decide ((z0.s.length : Int) ≤ (40 : Int))
        else
          false)
      else
        (if z0.kind = (3 : Int) then
          (if z0.n = (0 : Int) then
            z0.s == ([] : List UInt8)
          else
            (if z0.n = (1 : Int) then
              z0.s == ([] : List UInt8)
            else
              false))
        else
          (if z0.kind = (4 : Int) then
            (if (1 : Int) ≤ z0.n then
              (if z0.n ≤ (6 : Int) then
                z0.s == ([] : List UInt8)
              else
                false)
            else
              false)
          else
            false)))))
/-- e2e/api.Int -/
def s200 (z0 : Int) : ValT :=
  (⟨(1 : Int), z0, ([] : List UInt8)⟩ : ValT)
/-- e2e/api.Plain -/
def k156_0 (x56 : Int) : Option ValT :=
  some (s200 x56)

def l156_1_st (n_ : Nat) (z0 : List UInt8) (x27 : Int) (rec38 : Int → Int → Option ValT) (x36 : Int) (x37 : Int) : Option ValT :=
  (if x37 < (z0.length : Int) then
    ck (0 ≤ x37 ∧ x37 < (z0.length : Int)) <|
      (if ((List.getD z0 (Int.toNat x37) 0).toNat : Int) < (48 : Int) then
      some (⟨(2 : Int), (0 : Int), z0⟩ : ValT)
    else
      (if (57 : Int) < ((List.getD z0 (Int.toNat x37) 0).toNat : Int) then
        some (⟨(2 : Int), (0 : Int), z0⟩ : ValT)
      else
        ck (i64ok (x36 * (10 : Int))) <|
          ck (0 ≤ ((List.getD z0 (Int.toNat x37) 0).toNat : Int) - (48 : Int) ∧ ((List.getD z0 (Int.toNat x37) 0).toNat : Int) - (48 : Int) ≤ 255) <|
          ck (i64ok (((List.getD z0 (Int.toNat x37) 0).toNat : Int) - (48 : Int))) <|
          ck (i64ok ((x36 * (10 : Int)) + (((List.getD z0 (Int.toNat x37) 0).toNat : Int) - (48 : Int)))) <|
          ck (i64ok (x37 + (1 : Int))) <|
          (rec38 ((x36 * (10 : Int)) + (((List.getD z0 (Int.toNat x37) 0).toNat : Int) - (48 : Int))) (x37 + (1 : Int)))))
  else
    (if x27 = (1 : Int) then
      ck (i64ok (-x36)) <|
        (k156_0 (-x36))
    else
      (k156_0 x36)))
def l156_1 (n_ : Nat) (z0 : List UInt8) (x27 : Int) : Nat → Int → Int → Option ValT
  | 0 => fun _ _ => none
  | k + 1 => l156_1_st n_ z0 x27 (l156_1 n_ z0 x27 k)

def k156_2 (n_ : Nat) (z0 : List UInt8) (x27 : Int) : Option ValT :=
  ck (i64ok ((z0.length : Int) - x27)) <|
    (if ((z0.length : Int) - x27) < (1 : Int) then
    some (⟨(2 : Int), (0 : Int), z0⟩ : ValT)
  else
    (if (9 : Int) < ((z0.length : Int) - x27) then
      some (⟨(2 : Int), (0 : Int), z0⟩ : ValT)
    else
      (l156_1 n_ z0 x27 n_ (0 : Int) x27)))
def s156 (n_ : Nat) (z0 : List UInt8) : Option ValT :=
  (if (z0 == ([] : List UInt8)) = true then
    some (⟨(0 : Int), (0 : Int), ([] : List UInt8)⟩ : ValT)
  else
    ck (0 ≤ (0 : Int) ∧ (0 : Int) < (z0.length : Int)) <|
      (if ((List.getD z0 (Int.toNat (0 : Int)) 0).toNat : Int) = (45 : Int) then
      (k156_2 n_ z0 (1 : Int))
    else
      (k156_2 n_ z0 (0 : Int))))
/-- (*e2e/val.Evaluator).pop -/
def s202 (S0 : VS) : Option (VS × ValT) :=
  ck (i64ok (S0.top - (1 : Int))) <|
    (getN S0.stack 24 (S0.top - (1 : Int))).bind fun x24 =>
    some ({ S0 with top := S0.top - (1 : Int) }, x24)
/-- (*e2e/val.Evaluator).push -/
def s219 (S0 : VS) (z1 : ValT) : Option VS :=
  (getN S0.stack 24 S0.top).bind fun x22 =>
    ck (i64ok (S0.top + (1 : Int))) <|
    some ({ S0 with stack := (List.set S0.stack (Int.toNat S0.top) z1), top := S0.top + (1 : Int) })
/-- e2e/api.Bool -/
def s232 (z0 : Bool) : ValT :=
  (if z0 = true then
    (⟨(3 : Int), (1 : Int), ([] : List UInt8)⟩ : ValT)
  else
    (⟨(3 : Int), (0 : Int), ([] : List UInt8)⟩ : ValT))
/-- e2e/val.wordy -/
def s233 (z0 : ValT) : Bool :=
  (if z0.kind = (2 : Int) then
    true
  else
    decide (z0.kind = (0 : Int)))
/-- e2e/val.counts -/
def s234 (z0 : ValT) : Bool :=
  (if z0.kind = (1 : Int) then
    true
  else
    decide (z0.kind = (0 : Int)))
/-- e2e/val.amount -/
def s235 (z0 : ValT) : Int :=
  (if z0.kind = (1 : Int) then
    z0.n
  else
    (0 : Int))
/-- e2e/val.unary -/
def s220 (z0 : Int) (z1 : ValT) : Option ValT :=
  (if z1.kind = (4 : Int) then
    some z1
  else
    (if z0 = (8 : Int) then
      (if z1.kind = (3 : Int) then
        some (s232 (decide (z1.n = (0 : Int))))
      else
        some (s131 (5 : Int)))
    else
      (if z0 = (10 : Int) then
        (if (s233 z1) = true then
          some (s200 (z1.s.length : Int))
        else
          some (s131 (5 : Int)))
      else
        (if (s234 z1) = true then
          (if z0 = (9 : Int) then
            (if (0 : Int) ≤ (s235 z1) then
              some (s200 (s235 z1))
            else
              ck (i64ok (-(s235 z1))) <|
                some (s200 (-(s235 z1))))
          else
            ck (i64ok (-(s235 z1))) <|
              some (s200 (-(s235 z1))))
        else
          some (s131 (5 : Int))))))
/-- e2e/api.Num -/
def s238 (z0 : Int) : ValT :=
  (if (999999999 : Int) < z0 then
    (s131 (4 : Int))
  else
    (if z0 < (-999999999 : Int) then
      (s131 (4 : Int))
    else
      (s200 z0)))
/-- e2e/val.reckon -/
def s236 (z0 : Int) (z1 : Int) (z2 : Int) : Option ValT :=
  (if z0 = (7 : Int) then
    ck (i64ok (z1 + z2)) <|
      some (s238 (z1 + z2))
  else
    (if z0 = (8 : Int) then
      ck (i64ok (z1 - z2)) <|
        some (s238 (z1 - z2))
    else
      (if z0 = (9 : Int) then
        ck (i64ok (z1 * z2)) <|
          some (s238 (z1 * z2))
      else
        (if z2 = (0 : Int) then
          some (s131 (3 : Int))
        else
          ck (z2 ≠ 0) <|
            ck (i64ok (Int.tdiv z1 z2)) <|
            some (s238 (Int.tdiv z1 z2))))))
/-- e2e/val.judge -/
def s237 (z0 : Int) (z1 : Int) : ValT :=
  (if z0 = (1 : Int) then
    (s232 (decide (z1 = (0 : Int))))
  else
    (if z0 = (2 : Int) then
      (s232 (!decide (z1 = (0 : Int))))
    else
      (if z0 = (3 : Int) then
        (s232 (decide (z1 < (0 : Int))))
      else
        (if z0 = (4 : Int) then
          (s232 (decide (z1 ≤ (0 : Int))))
        else
          (if z0 = (5 : Int) then
            (s232 (decide ((0 : Int) < z1)))
          else
            (s232 (decide ((0 : Int) ≤ z1))))))))
/-- e2e/val.binary -/
def k221_0 (z0 : Int) (x49 : Int) : Option ValT :=
  some (s237 z0 x49)

def k221_1 (z0 : Int) (z1 : ValT) (z2 : ValT) (x46 : Int) : Option ValT :=
  (if (s235 z2) < (s235 z1) then
    (k221_0 z0 (1 : Int))
  else
    (k221_0 z0 x46))

def k221_3 (z0 : Int) (z1 : ValT) (z2 : ValT) (x68 : Int) : Option ValT :=
  (if (Op.bytesLess z1.s z2.s || z1.s == z2.s) = true then
    (k221_0 z0 x68)
  else
    (k221_0 z0 (1 : Int)))
def s221 (z0 : Int) (z1 : ValT) (z2 : ValT) : Option ValT :=
  (if z1.kind = (4 : Int) then
    some z1
  else
    (if z2.kind = (4 : Int) then
      some z2
    else
      (if (s234 z1) = true then
        (if (s234 z2) = true then
          (if (7 : Int) ≤ z0 then
            (s236 z0 (s235 z1) (s235 z2)).bind fun r40 =>
              some r40
          else
            (if (s235 z1) < (s235 z2) then
              (k221_1 z0 z1 z2 (-1 : Int))
            else
              (k221_1 z0 z1 z2 (0 : Int))))
        else
          (if (7 : Int) ≤ z0 then
            some (s131 (5 : Int))
          else
            (if (s233 z1) = true then
              (if (s233 z2) = true then
                (if (Op.bytesLess z1.s z2.s) = true then
                  (k221_3 z0 z1 z2 (-1 : Int))
                else
                  (k221_3 z0 z1 z2 (0 : Int)))
              else
                (if z1.kind = (3 : Int) then
                  (if z2.kind = (3 : Int) then
                    ck (i64ok (z1.n - z2.n)) <|
                      some (s237 z0 (z1.n - z2.n))
                  else
                    some (s131 (5 : Int)))
                else
                  some (s131 (5 : Int))))
            else
              (if z1.kind = (3 : Int) then
                (if z2.kind = (3 : Int) then
                  ck (i64ok (z1.n - z2.n)) <|
                    some (s237 z0 (z1.n - z2.n))
                else
                  some (s131 (5 : Int)))
              else
                some (s131 (5 : Int))))))
      else
        (if (7 : Int) ≤ z0 then
          some (s131 (5 : Int))
        else
          (if (s233 z1) = true then
            (if (s233 z2) = true then
              (if (Op.bytesLess z1.s z2.s) = true then
                (k221_3 z0 z1 z2 (-1 : Int))
              else
                (k221_3 z0 z1 z2 (0 : Int)))
            else
              (if z1.kind = (3 : Int) then
                (if z2.kind = (3 : Int) then
                  ck (i64ok (z1.n - z2.n)) <|
                    some (s237 z0 (z1.n - z2.n))
                else
                  some (s131 (5 : Int)))
              else
                some (s131 (5 : Int))))
          else
            (if z1.kind = (3 : Int) then
              (if z2.kind = (3 : Int) then
                ck (i64ok (z1.n - z2.n)) <|
                  some (s237 z0 (z1.n - z2.n))
              else
                some (s131 (5 : Int)))
            else
              some (s131 (5 : Int))))))))
/-- e2e/val.choose -/
def s222 (z0 : ValT) (z1 : ValT) (z2 : ValT) : ValT :=
  (if z0.kind = (4 : Int) then
    z0
  else
    (if z0.kind = (3 : Int) then
      (if z0.n = (1 : Int) then
        z1
      else
        z2)
    else
      (s131 (5 : Int))))
/-- (*e2e/val.Evaluator).take -/
def k223_1 (S0 : VS) (S65 : VS) : Option VS :=
  (getN S65.folds 24 (S0.deep - (1 : Int))).bind fun x68 =>
    ck (i64ok (x68.count + (1 : Int))) <|
    some ({ S65 with folds := (List.set S65.folds (Int.toNat (S0.deep - (1 : Int))) ({ x68 with count := x68.count + (1 : Int) })) })
def s223 (S0 : VS) (z1 : Int) (z2 : ValT) (z3 : Bool) : Option VS :=
  ck (i64ok (S0.deep - (1 : Int))) <|
    (getN S0.folds 24 (S0.deep - (1 : Int))).bind fun x23 =>
    (if x23.bad.kind = (4 : Int) then
    some S0
  else
    (if z2.kind = (4 : Int) then
      some ({ S0 with folds := (List.set S0.folds (Int.toNat (S0.deep - (1 : Int))) ({ x23 with bad := z2 })) })
    else
      (if z1 = (6 : Int) then
        (if z2.kind = (3 : Int) then
          (if ((decide (z2.n = (1 : Int))) == (decide (z1 = (7 : Int)))) = true then
            some ({ S0 with folds := (List.set S0.folds (Int.toNat (S0.deep - (1 : Int))) ({ x23 with acc := (1 : Int) })) })
          else
            some S0)
        else
          some ({ S0 with folds := (List.set S0.folds (Int.toNat (S0.deep - (1 : Int))) ({ x23 with bad := (s131 (5 : Int)) })) }))
      else
        (if z1 = (7 : Int) then
          (if z2.kind = (3 : Int) then
            (if ((decide (z2.n = (1 : Int))) == (decide (z1 = (7 : Int)))) = true then
              some ({ S0 with folds := (List.set S0.folds (Int.toNat (S0.deep - (1 : Int))) ({ x23 with acc := (1 : Int) })) })
            else
              some S0)
          else
            some ({ S0 with folds := (List.set S0.folds (Int.toNat (S0.deep - (1 : Int))) ({ x23 with bad := (s131 (5 : Int)) })) }))
        else
          (if z2.kind = (0 : Int) then
            some S0
          else
            (if z2.kind = (1 : Int) then
              (if z1 = (1 : Int) then
                ck (i64ok (x23.acc + z2.n)) <|
                  (k223_1 S0 ({ S0 with folds := (List.set S0.folds (Int.toNat (S0.deep - (1 : Int))) ({ x23 with acc := x23.acc + z2.n })) }))
              else
                (if z1 = (2 : Int) then
                  (if x23.count = (0 : Int) then
                    (k223_1 S0 ({ S0 with folds := (List.set S0.folds (Int.toNat (S0.deep - (1 : Int))) ({ x23 with acc := z2.n })) }))
                  else
                    (if z2.n < x23.acc then
                      (k223_1 S0 ({ S0 with folds := (List.set S0.folds (Int.toNat (S0.deep - (1 : Int))) ({ x23 with acc := z2.n })) }))
                    else
                      (k223_1 S0 S0)))
                else
                  (if z1 = (3 : Int) then
                    (if x23.count = (0 : Int) then
                      (k223_1 S0 ({ S0 with folds := (List.set S0.folds (Int.toNat (S0.deep - (1 : Int))) ({ x23 with acc := z2.n })) }))
                    else
                      (if x23.acc < z2.n then
                        (k223_1 S0 ({ S0 with folds := (List.set S0.folds (Int.toNat (S0.deep - (1 : Int))) ({ x23 with acc := z2.n })) }))
                      else
                        (k223_1 S0 S0)))
                  else
                    (k223_1 S0 S0))))
            else
              (if z3 = true then
                some S0
              else
                some ({ S0 with folds := (List.set S0.folds (Int.toNat (S0.deep - (1 : Int))) ({ x23 with bad := (s131 (5 : Int)) })) }))))))))
/-- (*e2e/val.Evaluator).sweep -/
def k224_2 (x47 : Int) (rec48 : Int → VS → Option VS) (S64 : VS) : Option VS :=
  ck (i64ok (x47 + (1 : Int))) <|
    (rec48 (x47 + (1 : Int)) S64)

def l224_3_st (n_ : Nat) (z1 : Int) (z2 : BitVec 32) (a3 : List ValT) (m3 : Nat) (rec48 : Int → VS → Option VS) (x47 : Int) (S44 : VS) : Option VS :=
  (if x47 < (24 : Int) then
    ck (0 ≤ x47 ∧ x47 ≤ 18446744073709551615) <|
      ck (0 ≤ x47) <|
      (if (((z2 >>> Int.toNat x47) &&& (1 : BitVec 32)).toNat : Int) = (1 : Int) then
      (getN a3 m3 x47).bind fun x72 =>
        (s223 S44 z1 x72 true).bind fun r74 =>
        (k224_2 x47 rec48 r74)
    else
      (k224_2 x47 rec48 S44))
  else
    some S44)
def l224_3 (n_ : Nat) (z1 : Int) (z2 : BitVec 32) (a3 : List ValT) (m3 : Nat) : Nat → Int → VS → Option VS
  | 0 => fun _ _ => none
  | k + 1 => l224_3_st n_ z1 z2 a3 m3 (l224_3 n_ z1 z2 a3 m3 k)
def s224 (n_ : Nat) (S0 : VS) (z1 : Int) (z2 : BitVec 32) (a3 : List ValT) (m3 : Nat) : Option VS :=
  (l224_3 n_ z1 z2 a3 m3 n_ (0 : Int) S0)
/-- (*e2e/val.Evaluator).shut -/
def s225 (S0 : VS) (z1 : Int) : Option (VS × ValT) :=
  ck (i64ok (S0.deep - (1 : Int))) <|
    (getN S0.folds 24 (S0.deep - (1 : Int))).bind fun x24 =>
    (if x24.bad.kind = (4 : Int) then
    some ({ S0 with deep := S0.deep - (1 : Int) }, x24.bad)
  else
    (if z1 = (1 : Int) then
      some ({ S0 with deep := S0.deep - (1 : Int) }, (s238 x24.acc))
    else
      (if z1 = (2 : Int) then
        some ({ S0 with deep := S0.deep - (1 : Int) }, (s200 x24.acc))
      else
        (if z1 = (3 : Int) then
          some ({ S0 with deep := S0.deep - (1 : Int) }, (s200 x24.acc))
        else
          (if z1 = (4 : Int) then
            some ({ S0 with deep := S0.deep - (1 : Int) }, (s200 x24.count))
          else
            some ({ S0 with deep := S0.deep - (1 : Int) }, (s232 ((decide (x24.acc = (1 : Int))) == (decide (z1 = (7 : Int)))))))))))
/-- (*e2e/val.Evaluator).step -/
def s201 (n_ : Nat) (S0 : VS) (z1 : InstrT) (a2 : List ValT) (m2 : Nat) : Option VS :=
  (if z1.do_ = (1 : Int) then
    (s219 S0 z1.v).bind fun r24 =>
      some r24
  else
    (if z1.do_ = (2 : Int) then
      (getN a2 m2 z1.a).bind fun x29 =>
        (s219 S0 x29).bind fun r31 =>
        some r31
    else
      (if z1.do_ = (3 : Int) then
        (s202 S0).bind fun r36 =>
          (s220 z1.a r36.2).bind fun r41 =>
          (s219 r36.1 r41).bind fun r46 =>
          some r46
      else
        (if z1.do_ = (4 : Int) then
          (s202 S0).bind fun r51 =>
            (s202 r51.1).bind fun r56 =>
            (s221 z1.a r56.2 r51.2).bind fun r61 =>
            (s219 r56.1 r61).bind fun r66 =>
            some r66
        else
          (if z1.do_ = (5 : Int) then
            (s202 S0).bind fun r71 =>
              (s202 r71.1).bind fun r76 =>
              (s202 r76.1).bind fun r81 =>
              (s219 r81.1 (s222 r81.2 r76.2 r71.2)).bind fun r89 =>
              some r89
          else
            (if z1.do_ = (6 : Int) then
              (getN S0.folds 24 S0.deep).bind fun x94 =>
                ck (i64ok (S0.deep + (1 : Int))) <|
                some ({ S0 with folds := (List.set S0.folds (Int.toNat S0.deep) (⟨(⟨(0 : Int), (0 : Int), ([] : List UInt8)⟩ : ValT), (0 : Int), (0 : Int)⟩ : TallyT)), deep := S0.deep + (1 : Int) })
            else
              (if z1.do_ = (7 : Int) then
                (s202 S0).bind fun r101 =>
                  (s223 r101.1 z1.a r101.2 false).bind fun r106 =>
                  some r106
              else
                (if z1.do_ = (8 : Int) then
                  (s224 n_ S0 z1.a z1.set a2 m2).bind fun r111 =>
                    some r111
                else
                  (if z1.do_ = (9 : Int) then
                    (s223 S0 z1.a (s131 (2 : Int)) true).bind fun r119 =>
                      some r119
                  else
                    (if z1.do_ = (10 : Int) then
                      (s225 S0 z1.a).bind fun r124 =>
                        (s219 r124.1 r124.2).bind fun r129 =>
                        some r129
                    else
                      some S0))))))))))
/-- (*e2e/val.Evaluator).run -/
def l157_0_st (n_ : Nat) (a1 : List ValT) (m1 : Nat) (rec41 : Int → VS → Option (VS × ValT)) (x40 : Int) (S37 : VS) : Option (VS × ValT) :=
  (if x40 < (48 : Int) then
    (getN S37.code 48 x40).bind fun x45 =>
      (s201 n_ S37 x45 a1 m1).bind fun r49 =>
      ck (i64ok (x40 + (1 : Int))) <|
      (rec41 (x40 + (1 : Int)) r49)
  else
    (s202 ({ S37 with start := (48 : Int) })).bind fun r54 =>
      some (r54.1, r54.2))
def l157_0 (n_ : Nat) (a1 : List ValT) (m1 : Nat) : Nat → Int → VS → Option (VS × ValT)
  | 0 => fun _ _ => none
  | k + 1 => l157_0_st n_ a1 m1 (l157_0 n_ a1 m1 k)
def s157 (n_ : Nat) (S0 : VS) (a1 : List ValT) (m1 : Nat) : Option (VS × ValT) :=
  (l157_0 n_ a1 m1 n_ S0.start S0)
/-- (*e2e/val.Evaluator).Cell -/
def l133_0_st (n_ : Nat) (S0 : VS) (z1 : List UInt8) (a2 : List ValT) (m2 : Nat) (rec31 : Int → Option (VS × ValT × Int)) (x30 : Int) : Option (VS × ValT × Int) :=
  (if x30 < (24 : Int) then
    (getN a2 m2 x30).bind fun x35 =>
      (if (s155 x35) = true then
      ck (i64ok (x30 + (1 : Int))) <|
        (rec31 (x30 + (1 : Int)))
    else
      some (S0, (⟨(0 : Int), (0 : Int), ([] : List UInt8)⟩ : ValT), (10 : Int)))
  else
    (if (z1 == ([] : List UInt8)) = true then
      (s156 n_ z1).bind fun r62 =>
        some (S0, r62, (0 : Int))
    else
      ck (0 ≤ (0 : Int) ∧ (0 : Int) < (z1.length : Int)) <|
        (if ((List.getD z1 (Int.toNat (0 : Int)) 0).toNat : Int) = (61 : Int) then
        (s127 n_ S0 z1).bind fun r51 =>
          (if r51.2 = true then
          (s157 n_ r51.1 a2 m2).bind fun r58 =>
            some (r58.1, r58.2, (0 : Int))
        else
          some (r51.1, (s131 (1 : Int)), (0 : Int)))
      else
        (s156 n_ z1).bind fun r47 =>
          some (S0, r47, (0 : Int)))))
def l133_0 (n_ : Nat) (S0 : VS) (z1 : List UInt8) (a2 : List ValT) (m2 : Nat) : Nat → Int → Option (VS × ValT × Int)
  | 0 => fun _ => none
  | k + 1 => l133_0_st n_ S0 z1 a2 m2 (l133_0 n_ S0 z1 a2 m2 k)
def s133 (n_ : Nat) (S0 : VS) (z1 : List UInt8) (a2 : List ValT) (m2 : Nat) : Option (VS × ValT × Int) :=
  (if (40 : Int) < (z1.length : Int) then
    some (S0, (⟨(0 : Int), (0 : Int), ([] : List UInt8)⟩ : ValT), (1 : Int))
  else
    (if (m2 : Int) = (24 : Int) then
      (l133_0 n_ S0 z1 a2 m2 n_ (0 : Int))
    else
      some (S0, (⟨(0 : Int), (0 : Int), ([] : List UInt8)⟩ : ValT), (10 : Int))))
/-- (*e2e/calc.Calc).sweep -/
def k113_2 (x74 : Int) (rec75 : (BitVec 32) → Int → KS → Option KS) (x115 : BitVec 32) (S112 : KS) : Option KS :=
  ck (i64ok (x74 + (1 : Int))) <|
    (rec75 x115 (x74 + (1 : Int)) S112)

def k113_3 (n_ : Nat) (x73 : BitVec 32) (x74 : Int) (S70 : KS) (rec75 : (BitVec 32) → Int → KS → Option KS) (x120 : Int) : Option KS :=
  (getN S70.raw 24 x120).bind fun x124 =>
    (s133 n_ S70.ev x124 S70.shown 24).bind fun r126 =>
    (getN S70.shown 24 x120).bind fun x140 =>
    (if (eqCells (encVal r126.2.1) (encVal x140)) = true then
    (k113_2 x74 rec75 x73 ({ S70 with ev := r126.1 }))
  else
    (k113_2 x74 rec75 (x73 ||| (s92 x120)) ({ S70 with ev := r126.1, shown := (List.set S70.shown (Int.toNat x120) r126.2.1) })))

def l113_4_st (n_ : Nat) (z1 : Int) (l2 : List Int) (rec75 : (BitVec 32) → Int → KS → Option KS) (x73 : BitVec 32) (x74 : Int) (S70 : KS) : Option KS :=
  (if x74 < ((l2.length : Nat) : Int) then
    ck (0 < l2.length) <|
      (getN l2 l2.length x74).bind fun x120 =>
      (if x120 = z1 then
      (k113_3 n_ x73 x74 S70 rec75 x120)
    else
      (s132 S70.net x120).bind fun r166 =>
        (if ((r166 &&& x73).toNat : Int) = (0 : Int) then
        (getN S70.shown 24 x120).bind fun x171 =>
          (if (eqCells (encVal x171) (encVal (s131 (6 : Int)))) = true then
          (k113_3 n_ x73 x74 S70 rec75 x120)
        else
          (k113_2 x74 rec75 x73 S70))
      else
        (k113_3 n_ x73 x74 S70 rec75 x120)))
  else
    some S70)
def l113_4 (n_ : Nat) (z1 : Int) (l2 : List Int) : Nat → (BitVec 32) → Int → KS → Option KS
  | 0 => fun _ _ _ => none
  | k + 1 => l113_4_st n_ z1 l2 (l113_4 n_ z1 l2 k)
def s113 (n_ : Nat) (S0 : KS) (z1 : Int) (l2 : List Int) : Option KS :=
  (l113_4 n_ z1 l2 n_ (0 : BitVec 32) (0 : Int) S0)
/-- (*e2e/calc.Calc).Set -/
def s90 (n_ : Nat) (S0 : KS) (z1 : Int) (z2 : List UInt8) : Option (KS × Int) :=
  (if (40 : Int) < (z2.length : Int) then
    some (S0, (1 : Int))
  else
    (if z1 < (0 : Int) then
      some (S0, (9 : Int))
    else
      (if (24 : Int) ≤ z1 then
        some (S0, (9 : Int))
      else
        (s107 n_ S0.ev z2).bind fun r27 =>
          (s108 n_ S0.net z1 r27.2.1).bind fun r30 =>
          (getN S0.raw 24 z1).bind fun x33 =>
          (s109 n_ r30.1 (s92 z1)).bind fun r37 =>
          (s111 n_ ({ S0 with ev := r27.1, net := r30.1, raw := (List.set S0.raw (Int.toNat z1) z2) }) (r37 &&& (s110 r30.1))).bind fun r41 =>
          (s112 n_ r41.net r37).bind fun r44 =>
          (s113 n_ r41 z1 r44).bind fun r52 =>
          some (r52, (0 : Int)))))
/-- (*e2e/edit.Editor).Set -/
def s71 (n_ : Nat) (S0 : ES) (z1 : Int) (z2 : List UInt8) : Option (ES × Int) :=
  (if (40 : Int) < (z2.length : Int) then
    some (S0, (1 : Int))
  else
    (s90 n_ S0.k z1 z2).bind fun r23 =>
      some ({ S0 with k := r23.1 }, r23.2))
/-- (*e2e/book.Book).wipe -/
def k91_2 (x54 : Int) (rec55 : Int → BS → Option BS) (S76 : BS) : Option BS :=
  ck (i64ok (x54 + (1 : Int))) <|
    (rec55 (x54 + (1 : Int)) S76)

def l91_3_st (n_ : Nat) (z1 : Int) (x21 : BitVec 32) (rec55 : Int → BS → Option BS) (x54 : Int) (S51 : BS) : Option BS :=
  (if x54 < (24 : Int) then
    ck (0 ≤ x54 ∧ x54 ≤ 18446744073709551615) <|
      ck (0 ≤ x54) <|
      (if (((x21 >>> Int.toNat x54) &&& (1 : BitVec 32)).toNat : Int) = (1 : Int) then
      (s69 z1 x54).bind fun r84 =>
        (getN S51.pool 288 r84).bind fun x87 =>
        ck (i64ok (r84 + (1 : Int))) <|
        (getN (List.set S51.pool (Int.toNat r84) ([] : List UInt8)) 288 (r84 + (1 : Int))).bind fun x91 =>
        (k91_2 x54 rec55 ({ S51 with pool := (List.set (List.set S51.pool (Int.toNat r84) ([] : List UInt8)) (Int.toNat (r84 + (1 : Int))) ([] : List UInt8)) }))
    else
      (k91_2 x54 rec55 S51))
  else
    (getN S51.turned 6 z1).bind fun x94 =>
      some ({ S51 with turned := (List.set S51.turned (Int.toNat z1) (0 : BitVec 32)) }))
def l91_3 (n_ : Nat) (z1 : Int) (x21 : BitVec 32) : Nat → Int → BS → Option BS
  | 0 => fun _ _ => none
  | k + 1 => l91_3_st n_ z1 x21 (l91_3 n_ z1 x21 k)
def s91 (n_ : Nat) (S0 : BS) (z1 : Int) : Option BS :=
  (getN S0.turned 6 z1).bind fun x21 =>
    (l91_3 n_ z1 x21 n_ (0 : Int) S0)
/-- (*e2e/book.Book).note -/
def k72_7 (x211 : Int) (rec212 : (BitVec 32) → Int → BS → Option BS) (x241 : BitVec 32) (S238 : BS) : Option BS :=
  ck (i64ok (x211 + (1 : Int))) <|
    (rec212 x241 (x211 + (1 : Int)) S238)

def l72_8_st (n_ : Nat) (r169 : Int) (rec212 : (BitVec 32) → Int → BS → Option BS) (x210 : BitVec 32) (x211 : Int) (S207 : BS) : Option BS :=
  (if x211 < (24 : Int) then
    (s64 S207.e x211).bind fun r243 =>
      (getN S207.was 24 x211).bind fun x246 =>
      (if (r243 == x246) = true then
      (k72_7 x211 rec212 x210 S207)
    else
      (s69 r169 x211).bind fun r250 =>
        (getN S207.pool 288 r250).bind fun x253 =>
        ck (i64ok (r250 + (1 : Int))) <|
        (getN (List.set S207.pool (Int.toNat r250) x246) 288 (r250 + (1 : Int))).bind fun x257 =>
        (k72_7 x211 rec212 (x210 ||| (s92 x211)) ({ S207 with pool := (List.set (List.set S207.pool (Int.toNat r250) x246) (Int.toNat (r250 + (1 : Int))) r243) })))
  else
    (getN S207.turned 6 r169).bind fun x262 =>
      ck (i64ok (S207.undos + (1 : Int))) <|
      some ({ S207 with turned := (List.set S207.turned (Int.toNat r169) x210), undos := S207.undos + (1 : Int) }))
def l72_8 (n_ : Nat) (r169 : Int) : Nat → (BitVec 32) → Int → BS → Option BS
  | 0 => fun _ _ _ => none
  | k + 1 => l72_8_st n_ r169 (l72_8 n_ r169 k)

def k72_9 (n_ : Nat) (S166 : BS) : Option BS :=
  (s43 S166 S166.undos).bind fun r169 =>
    (l72_8 n_ r169 n_ (0 : BitVec 32) (0 : Int) S166)

def l72_10_st (n_ : Nat) (rec39 : BS → Option BS) (S36 : BS) : Option BS :=
  (if (0 : Int) < S36.redos then
    ck (i64ok (S36.redos - (1 : Int))) <|
      ck (i64ok (S36.undos + (S36.redos - (1 : Int)))) <|
      (s43 ({ S36 with redos := S36.redos - (1 : Int) }) (S36.undos + (S36.redos - (1 : Int)))).bind fun r46 =>
      (s91 n_ ({ S36 with redos := S36.redos - (1 : Int) }) r46).bind fun r49 =>
      (rec39 r49)
  else
    (if S36.undos = (6 : Int) then
      (s91 n_ S36 S36.base).bind fun r272 =>
        (s43 r272 (1 : Int)).bind fun r275 =>
        ck (i64ok (r272.undos - (1 : Int))) <|
        (k72_9 n_ ({ r272 with base := r275, undos := r272.undos - (1 : Int) }))
    else
      (k72_9 n_ S36)))
def l72_10 (n_ : Nat)  : Nat → BS → Option BS
  | 0 => fun _ => none
  | k + 1 => l72_10_st n_ (l72_10 n_ k)
def s72 (n_ : Nat) (S0 : BS) : Option BS :=
  (l72_10 n_ n_ S0)
/-- (*e2e/book.Book).Set -/
def s48 (n_ : Nat) (S0 : BS) (z1 : Int) (z2 : List UInt8) : Option (BS × Int) :=
  (if (40 : Int) < (z2.length : Int) then
    some (S0, (1 : Int))
  else
    (s70 n_ S0).bind fun r23 =>
      (s71 n_ r23.e z1 z2).bind fun r26 =>
      (if r26.2 = (0 : Int) then
      (s72 n_ ({ r23 with e := r26.1 })).bind fun r31 =>
        some (r31, r26.2)
    else
      some ({ r23 with e := r26.1 }, r26.2)))
/-- (*e2e/bookm.Book).snap -/
def l73_0_st (n_ : Nat) (S0 : BMS) (rec40 : Int → (List (List UInt8)) → Option (List (List UInt8))) (x39 : Int) (a36 : List (List UInt8)) : Option (List (List UInt8)) :=
  (if x39 < (24 : Int) then
    (s65 S0.e x39).bind fun r44 =>
      (getN a36 24 x39).bind fun x47 =>
      ck (i64ok (x39 + (1 : Int))) <|
      (rec40 (x39 + (1 : Int)) (List.set a36 (Int.toNat x39) r44))
  else
    some a36)
def l73_0 (n_ : Nat) (S0 : BMS) : Nat → Int → (List (List UInt8)) → Option (List (List UInt8))
  | 0 => fun _ _ => none
  | k + 1 => l73_0_st n_ S0 (l73_0 n_ S0 k)
def s73 (n_ : Nat) (S0 : BMS) : Option (List (List UInt8)) :=
  (l73_0 n_ S0 n_ (0 : Int) (List.replicate 24 ([] : List UInt8)))
/-- e2e/graphm.New -/
def s158  : GMS :=
  (⟨(List.replicate 24 (0 : BitVec 32)), (0 : Int), (0 : Int)⟩ : GMS)
/-- (*e2e/formm.reader).fail -/
def s146 (S0 : RDS) (z1 : Int) (z2 : Int) : RDS × Int :=
  (if S0.err = (0 : Int) then
    ({ S0 with err := z1, pos := z2 }, (-1 : Int))
  else
    (S0, (-1 : Int)))
/-- e2e/formm.known -/
def s189 (z0 : Int) : Bool :=
  (if (48 : Int) ≤ z0 then
    (if z0 ≤ (57 : Int) then
      true
    else
      (if (65 : Int) ≤ z0 then
        (if z0 ≤ (90 : Int) then
          true
        else
          (if z0 = (36 : Int) then
            true
          else
            (if z0 = (35 : Int) then
              true
            else
              (if z0 = (40 : Int) then
                true
              else
                (if z0 = (41 : Int) then
                  true
                else
                  (if z0 = (44 : Int) then
                    true
                  else
                    (if z0 = (58 : Int) then
                      true
                    else
                      (if z0 = (43 : Int) then
                        true
                      else
                        (if z0 = (45 : Int) then
                          true
                        else
                          (if z0 = (42 : Int) then
                            true
                          else
                            (if z0 = (47 : Int) then
                              true
                            else
                              (if z0 = (61 : Int) then
                                true
                              else
                                (if z0 = (60 : Int) then
                                  true
                                else
                                  (if z0 = (62 : Int) then
                                    true
                                  else
                                    false))))))))))))))
      else
        (if z0 = (36 : Int) then
          true
        else
          (if z0 = (35 : Int) then
            true
          else
            (if z0 = (40 : Int) then
              true
            else
              (if z0 = (41 : Int) then
                true
              else
                (if z0 = (44 : Int) then
                  true
                else
                  (if z0 = (58 : Int) then
                    true
                  else
                    (if z0 = (43 : Int) then
                      true
                    else
                      (if z0 = (45 : Int) then
                        true
                      else
                        (if z0 = (42 : Int) then
                          true
                        else
                          (if z0 = (47 : Int) then
                            true
                          else
                            (if z0 = (61 : Int) then
                              true
                            else
                              (if z0 = (60 : Int) then
                                true
                              else
                                (if z0 = (62 : Int) then
                                  true
                                else
                                  false)))))))))))))))
  else
    (if (65 : Int) ≤ z0 then
      (if z0 ≤ (90 : Int) then
        true
      else
        (if z0 = (36 : Int) then
          true
        else
          (if z0 = (35 : Int) then
            true
          else
            (if z0 = (40 : Int) then
              true
            else
              (if z0 = (41 : Int) then
                true
              else
                (if z0 = (44 : Int) then
                  true
                else
                  (if z0 = (58 : Int) then
                    true
                  else
                    (if z0 = (43 : Int) then
                      true
                    else
                      (if z0 = (45 : Int) then
                        true
                      else
                        (if z0 = (42 : Int) then
                          true
                        else
                          (if z0 = (47 : Int) then
                            true
                          else
                            (if z0 = (61 : Int) then
                              true
                            else
                              (if z0 = (60 : Int) then
                                true
                              else
                                (if z0 = (62 : Int) then
                                  true
                                else
                                  false))))))))))))))
    else
      (if z0 = (36 : Int) then
        true
      else
        (if z0 = (35 : Int) then
          true
        else
          (if z0 = (40 : Int) then
            true
          else
            (if z0 = (41 : Int) then
              true
            else
              (if z0 = (44 : Int) then
                true
              else
                (if z0 = (58 : Int) then
                  true
                else
                  (if z0 = (43 : Int) then
                    true
                  else
                    (if z0 = (45 : Int) then
                      true
                    else
                      (if z0 = (42 : Int) then
                        true
                      else
                        (if z0 = (47 : Int) then
                          true
                        else
                          (if z0 = (61 : Int) then
                            true
                          else
                            (if z0 = (60 : Int) then
                              true
                            else
                              (if z0 = (62 : Int) then
                                true
                              else
                                false)))))))))))))))
/-- (*e2e/formm.reader).look -/
def l145_0_st (n_ : Nat) (rec36 : RDS → Option (RDS × Int)) (S32 : RDS) : Option (RDS × Int) :=
  (if S32.i < (S32.s.length : Int) then
    ck (0 ≤ S32.i ∧ S32.i < (S32.s.length : Int)) <|
      (if ((List.getD S32.s (Int.toNat S32.i) 0).toNat : Int) = (32 : Int) then
      ck (i64ok (S32.i + (1 : Int))) <|
        (rec36 ({ S32 with i := S32.i + (1 : Int) }))
    else
      (if S32.err = (0 : Int) then
        (if (S32.s.length : Int) ≤ S32.i then
          some (S32, (0 : Int))
        else
          (if (s189 ((List.getD S32.s (Int.toNat S32.i) 0).toNat : Int)) = true then
            some (S32, ((List.getD S32.s (Int.toNat S32.i) 0).toNat : Int))
          else
            some ((s146 S32 (2 : Int) S32.i).1, (0 : Int))))
      else
        some (S32, (0 : Int))))
  else
    (if S32.err = (0 : Int) then
      (if (S32.s.length : Int) ≤ S32.i then
        some (S32, (0 : Int))
      else
        ck (0 ≤ S32.i ∧ S32.i < (S32.s.length : Int)) <|
          (if (s189 ((List.getD S32.s (Int.toNat S32.i) 0).toNat : Int)) = true then
          some (S32, ((List.getD S32.s (Int.toNat S32.i) 0).toNat : Int))
        else
          some ((s146 S32 (2 : Int) S32.i).1, (0 : Int))))
    else
      some (S32, (0 : Int))))
def l145_0 (n_ : Nat)  : Nat → RDS → Option (RDS × Int)
  | 0 => fun _ => none
  | k + 1 => l145_0_st n_ (l145_0 n_ k)
def s145 (n_ : Nat) (S0 : RDS) : Option (RDS × Int) :=
  (l145_0 n_ n_ S0)
/-! ### by hand: the reader's arena -/
def s187 (S0 : RDS) (z1 : Int) : Bool := if 0 ≤ z1 ∧ z1 < (S0.n.length : Int) then decide ((S0.n.getD z1.toNat dNode).kind = (4 : Int)) else false
def s188 (S0 : RDS) (z1 : NodeT) : Option (RDS × Int) :=
  if S0.err = (0 : Int) then
    if (24 : Int) ≤ (S0.n.length : Int) then some (s146 S0 7 S0.i)
    else some ({ S0 with n := S0.n ++ [z1] }, (S0.n.length : Int))
  else some (S0, -1)
/-- (*e2e/formm.reader).word -/
def k242_1 (S0 : RDS) (S62 : RDS) : Option (RDS × List UInt8) :=
  ck (0 ≤ S0.i ∧ S0.i ≤ S62.i ∧ S62.i ≤ (S62.s.length : Int)) <|
    some (S62, List.drop (Int.toNat S0.i) (List.take (Int.toNat S62.i) S62.s))

def l242_2_st (n_ : Nat) (S0 : RDS) (rec90 : RDS → Option (RDS × List UInt8)) (S86 : RDS) : Option (RDS × List UInt8) :=
  (if S86.i < (S86.s.length : Int) then
    ck (0 ≤ S86.i ∧ S86.i < (S86.s.length : Int)) <|
      (if ((List.getD S86.s (Int.toNat S86.i) 0).toNat : Int) < (65 : Int) then
      (if ((List.getD S86.s (Int.toNat S86.i) 0).toNat : Int) < (48 : Int) then
        (if ((List.getD S86.s (Int.toNat S86.i) 0).toNat : Int) = (36 : Int) then
          ck (i64ok (S86.i + (1 : Int))) <|
            (rec90 ({ S86 with i := S86.i + (1 : Int) }))
        else
          (k242_1 S0 S86))
      else
        (if (57 : Int) < ((List.getD S86.s (Int.toNat S86.i) 0).toNat : Int) then
          (if ((List.getD S86.s (Int.toNat S86.i) 0).toNat : Int) = (36 : Int) then
            ck (i64ok (S86.i + (1 : Int))) <|
              (rec90 ({ S86 with i := S86.i + (1 : Int) }))
          else
            (k242_1 S0 S86))
        else
          ck (i64ok (S86.i + (1 : Int))) <|
            (rec90 ({ S86 with i := S86.i + (1 : Int) }))))
    else
      (if (90 : Int) < ((List.getD S86.s (Int.toNat S86.i) 0).toNat : Int) then
        (if ((List.getD S86.s (Int.toNat S86.i) 0).toNat : Int) < (48 : Int) then
          (if ((List.getD S86.s (Int.toNat S86.i) 0).toNat : Int) = (36 : Int) then
            ck (i64ok (S86.i + (1 : Int))) <|
              (rec90 ({ S86 with i := S86.i + (1 : Int) }))
          else
            (k242_1 S0 S86))
        else
          (if (57 : Int) < ((List.getD S86.s (Int.toNat S86.i) 0).toNat : Int) then
            (if ((List.getD S86.s (Int.toNat S86.i) 0).toNat : Int) = (36 : Int) then
              ck (i64ok (S86.i + (1 : Int))) <|
                (rec90 ({ S86 with i := S86.i + (1 : Int) }))
            else
              (k242_1 S0 S86))
          else
            ck (i64ok (S86.i + (1 : Int))) <|
              (rec90 ({ S86 with i := S86.i + (1 : Int) }))))
      else
        ck (i64ok (S86.i + (1 : Int))) <|
          (rec90 ({ S86 with i := S86.i + (1 : Int) }))))
  else
    (k242_1 S0 S86))
def l242_2 (n_ : Nat) (S0 : RDS) : Nat → RDS → Option (RDS × List UInt8)
  | 0 => fun _ => none
  | k + 1 => l242_2_st n_ S0 (l242_2 n_ S0 k)
def s242 (n_ : Nat) (S0 : RDS) : Option (RDS × List UInt8) :=
  (l242_2 n_ S0 n_ S0)
/-- e2e/formm.RefOf -/
def l243_7_st (n_ : Nat) (z0 : List UInt8) (t211 : RefT) (rec230 : Int → Int → Option (RefT × Bool)) (x228 : Int) (x229 : Int) : Option (RefT × Bool) :=
  (if x228 < (z0.length : Int) then
    ck (0 ≤ x228 ∧ x228 < (z0.length : Int)) <|
      (if ((List.getD z0 (Int.toNat x228) 0).toNat : Int) < (48 : Int) then
      some ((⟨(0 : Int), (0 : Int), false, false⟩ : RefT), false)
    else
      (if (57 : Int) < ((List.getD z0 (Int.toNat x228) 0).toNat : Int) then
        some ((⟨(0 : Int), (0 : Int), false, false⟩ : RefT), false)
      else
        ck (i64ok (x229 * (10 : Int))) <|
          ck (0 ≤ ((List.getD z0 (Int.toNat x228) 0).toNat : Int) - (48 : Int) ∧ ((List.getD z0 (Int.toNat x228) 0).toNat : Int) - (48 : Int) ≤ 255) <|
          ck (i64ok (((List.getD z0 (Int.toNat x228) 0).toNat : Int) - (48 : Int))) <|
          ck (i64ok ((x229 * (10 : Int)) + (((List.getD z0 (Int.toNat x228) 0).toNat : Int) - (48 : Int)))) <|
          ck (i64ok (x228 + (1 : Int))) <|
          (rec230 (x228 + (1 : Int)) ((x229 * (10 : Int)) + (((List.getD z0 (Int.toNat x228) 0).toNat : Int) - (48 : Int))))))
  else
    ck (i64ok (x229 - (1 : Int))) <|
      some ({ t211 with row := x229 - (1 : Int) }, true))
def l243_7 (n_ : Nat) (z0 : List UInt8) (t211 : RefT) : Nat → Int → Int → Option (RefT × Bool)
  | 0 => fun _ _ => none
  | k + 1 => l243_7_st n_ z0 t211 (l243_7 n_ z0 t211 k)

def k243_8 (n_ : Nat) (z0 : List UInt8) (x214 : Int) (t211 : RefT) : Option (RefT × Bool) :=
  ck (i64ok ((z0.length : Int) - x214)) <|
    (if ((z0.length : Int) - x214) < (1 : Int) then
    some ((⟨(0 : Int), (0 : Int), false, false⟩ : RefT), false)
  else
    (if (2 : Int) < ((z0.length : Int) - x214) then
      some ((⟨(0 : Int), (0 : Int), false, false⟩ : RefT), false)
    else
      ck (0 ≤ x214 ∧ x214 < (z0.length : Int)) <|
        (if ((List.getD z0 (Int.toNat x214) 0).toNat : Int) < (49 : Int) then
        some ((⟨(0 : Int), (0 : Int), false, false⟩ : RefT), false)
      else
        (if (57 : Int) < ((List.getD z0 (Int.toNat x214) 0).toNat : Int) then
          some ((⟨(0 : Int), (0 : Int), false, false⟩ : RefT), false)
        else
          (l243_7 n_ z0 t211 n_ x214 (0 : Int))))))

def k243_9 (n_ : Nat) (z0 : List UInt8) (x149 : Int) (t146 : RefT) : Option (RefT × Bool) :=
  (if (z0.length : Int) ≤ x149 then
    some ((⟨(0 : Int), (0 : Int), false, false⟩ : RefT), false)
  else
    ck (0 ≤ x149 ∧ x149 < (z0.length : Int)) <|
      (if ((List.getD z0 (Int.toNat x149) 0).toNat : Int) < (65 : Int) then
      some ((⟨(0 : Int), (0 : Int), false, false⟩ : RefT), false)
    else
      (if (90 : Int) < ((List.getD z0 (Int.toNat x149) 0).toNat : Int) then
        some ((⟨(0 : Int), (0 : Int), false, false⟩ : RefT), false)
      else
        ck (0 ≤ ((List.getD z0 (Int.toNat x149) 0).toNat : Int) - (65 : Int) ∧ ((List.getD z0 (Int.toNat x149) 0).toNat : Int) - (65 : Int) ≤ 255) <|
          ck (i64ok (((List.getD z0 (Int.toNat x149) 0).toNat : Int) - (65 : Int))) <|
          ck (i64ok (x149 + (1 : Int))) <|
          (if (x149 + (1 : Int)) < (z0.length : Int) then
          ck (0 ≤ (x149 + (1 : Int)) ∧ (x149 + (1 : Int)) < (z0.length : Int)) <|
            (if ((List.getD z0 (Int.toNat (x149 + (1 : Int))) 0).toNat : Int) = (36 : Int) then
            ck (i64ok ((x149 + (1 : Int)) + (1 : Int))) <|
              (k243_8 n_ z0 ((x149 + (1 : Int)) + (1 : Int)) ({ t146 with col := ((List.getD z0 (Int.toNat x149) 0).toNat : Int) - (65 : Int), ar := true }))
          else
            (k243_8 n_ z0 (x149 + (1 : Int)) ({ t146 with col := ((List.getD z0 (Int.toNat x149) 0).toNat : Int) - (65 : Int) })))
        else
          (k243_8 n_ z0 (x149 + (1 : Int)) ({ t146 with col := ((List.getD z0 (Int.toNat x149) 0).toNat : Int) - (65 : Int) }))))))
def s243 (n_ : Nat) (z0 : List UInt8) : Option (RefT × Bool) :=
  (if (0 : Int) < (z0.length : Int) then
    ck (0 ≤ (0 : Int) ∧ (0 : Int) < (z0.length : Int)) <|
      (if ((List.getD z0 (Int.toNat (0 : Int)) 0).toNat : Int) = (36 : Int) then
      (k243_9 n_ z0 ((0 : Int) + (1 : Int)) (⟨(0 : Int), (0 : Int), true, false⟩ : RefT))
    else
      (k243_9 n_ z0 (0 : Int) (⟨(0 : Int), (0 : Int), false, false⟩ : RefT)))
  else
    (k243_9 n_ z0 (0 : Int) (⟨(0 : Int), (0 : Int), false, false⟩ : RefT)))
/-- e2e/formm.funcOf -/
def l244_0_st (n_ : Nat) (z0 : List UInt8) (rec24 : Int → Option Int) (x23 : Int) : Option Int :=
  (if x23 ≤ (10 : Int) then
    (if ((s195 x23) == z0) = true then
      some x23
    else
      ck (i64ok (x23 + (1 : Int))) <|
        (rec24 (x23 + (1 : Int))))
  else
    some (0 : Int))
def l244_0 (n_ : Nat) (z0 : List UInt8) : Nat → Int → Option Int
  | 0 => fun _ => none
  | k + 1 => l244_0_st n_ z0 (l244_0 n_ z0 k)
def s244 (n_ : Nat) (z0 : List UInt8) : Option Int :=
  (l244_0 n_ z0 n_ (1 : Int))
def K144 (rec_144 : RDS → Bool → Option (RDS × Int)) : Prop := ∀ (z0 : Nat) (L0 : RDL) (S0 : RDS) (z1 : Bool) (r_ : RDS × Int) (h : rec_144 S0 z1 = some r_) (F : List Ent) (H : Heap) (R : Value → Heap → Prop)
    (hO : Own H [oRD z0 L0 S0] F)
    (hR : ∀ (H' : Heap) (L0' : RDL), Own H' [oRD z0 (L0') r_.1] F → R (I r_.2) H'),
 HCalls Tryz.prog 144 #[Value.pointer (some ⟨z0, 0, none⟩), Value.bool z1] H R
def K186 (rec_186 : RDS → Int → Bool → Option (RDS × Int)) : Prop := ∀ (z0 : Nat) (L0 : RDL) (S0 : RDS) (z1 : Int) (z2 : Bool) (r_ : RDS × Int) (h : rec_186 S0 z1 z2 = some r_) (F : List Ent) (H : Heap) (R : Value → Heap → Prop)
    (hO : Own H [oRD z0 L0 S0] F)
    (hR : ∀ (H' : Heap) (L0' : RDL), Own H' [oRD z0 (L0') r_.1] F → R (I r_.2) H'),
 HCalls Tryz.prog 186 #[Value.pointer (some ⟨z0, 0, none⟩), I z1, Value.bool z2] H R
def K216 (rec_216 : RDS → Bool → Option (RDS × Int)) : Prop := ∀ (z0 : Nat) (L0 : RDL) (S0 : RDS) (z1 : Bool) (r_ : RDS × Int) (h : rec_216 S0 z1 = some r_) (F : List Ent) (H : Heap) (R : Value → Heap → Prop)
    (hO : Own H [oRD z0 L0 S0] F)
    (hR : ∀ (H' : Heap) (L0' : RDL), Own H' [oRD z0 (L0') r_.1] F → R (I r_.2) H'),
 HCalls Tryz.prog 216 #[Value.pointer (some ⟨z0, 0, none⟩), Value.bool z1] H R
def K231 (rec_231 : RDS → Bool → Option (RDS × Int)) : Prop := ∀ (z0 : Nat) (L0 : RDL) (S0 : RDS) (z1 : Bool) (r_ : RDS × Int) (h : rec_231 S0 z1 = some r_) (F : List Ent) (H : Heap) (R : Value → Heap → Prop)
    (hO : Own H [oRD z0 L0 S0] F)
    (hR : ∀ (H' : Heap) (L0' : RDL), Own H' [oRD z0 (L0') r_.1] F → R (I r_.2) H'),
 HCalls Tryz.prog 231 #[Value.pointer (some ⟨z0, 0, none⟩), Value.bool z1] H R
def K241 (rec_241 : RDS → Bool → Option (RDS × Int)) : Prop := ∀ (z0 : Nat) (L0 : RDL) (S0 : RDS) (z1 : Bool) (r_ : RDS × Int) (h : rec_241 S0 z1 = some r_) (F : List Ent) (H : Heap) (R : Value → Heap → Prop)
    (hO : Own H [oRD z0 L0 S0] F)
    (hR : ∀ (H' : Heap) (L0' : RDL), Own H' [oRD z0 (L0') r_.1] F → R (I r_.2) H'),
 HCalls Tryz.prog 241 #[Value.pointer (some ⟨z0, 0, none⟩), Value.bool z1] H R
def K245 (rec_245 : RDS → Int → Int → Option (RDS × Int)) : Prop := ∀ (z0 : Nat) (L0 : RDL) (S0 : RDS) (z1 : Int) (z2 : Int) (r_ : RDS × Int) (h : rec_245 S0 z1 z2 = some r_) (F : List Ent) (H : Heap) (R : Value → Heap → Prop)
    (hO : Own H [oRD z0 L0 S0] F)
    (hR : ∀ (H' : Heap) (L0' : RDL), Own H' [oRD z0 (L0') r_.1] F → R (I r_.2) H'),
 HCalls Tryz.prog 245 #[Value.pointer (some ⟨z0, 0, none⟩), I z1, I z2] H R
/-- (*e2e/formm.reader).expr -/
def k144_0 (rec_186 : RDS → Int → Bool → Option (RDS × Int)) (r21 : RDS × Int) (r25 : RDS × Int) (x45 : Int) (x46 : Int) : Option (RDS × Int) :=
  ck (i64ok (r25.1.i + x46)) <|
    (rec_186 ({ r25.1 with i := r25.1.i + x46 }) (2 : Int) false).bind fun r49 =>
    (s188 r49.1 (⟨(7 : Int), x45, r21.2, r49.2, (0 : Int), (⟨(0 : Int), (0 : Int), false, false⟩ : RefT), (⟨(0 : Int), (0 : Int), false, false⟩ : RefT)⟩ : NodeT)).bind fun r53 =>
    some (r53.1, r53.2)

def k144_1 (rec_186 : RDS → Int → Bool → Option (RDS × Int)) (r21 : RDS × Int) (r25 : RDS × Int) (x42 : Int) : Option (RDS × Int) :=
  (if x42 = (61 : Int) then
    (k144_0 rec_186 r21 r25 (6 : Int) (2 : Int))
  else
    (k144_0 rec_186 r21 r25 (5 : Int) (1 : Int)))

def k144_3 (rec_186 : RDS → Int → Bool → Option (RDS × Int)) (r21 : RDS × Int) (r25 : RDS × Int) (x70 : Int) : Option (RDS × Int) :=
  (if x70 = (61 : Int) then
    (k144_0 rec_186 r21 r25 (4 : Int) (2 : Int))
  else
    (if x70 = (62 : Int) then
      (k144_0 rec_186 r21 r25 (2 : Int) (2 : Int))
    else
      (k144_0 rec_186 r21 r25 (3 : Int) (1 : Int))))

def k144_5 (rec_186 : RDS → Int → Bool → Option (RDS × Int)) (r21 : RDS × Int) (r25 : RDS × Int) (x100 : Int) : Option (RDS × Int) :=
  (if r25.2 = (60 : Int) then
    (if x100 = (61 : Int) then
      (k144_0 rec_186 r21 r25 (4 : Int) (2 : Int))
    else
      (if x100 = (62 : Int) then
        (k144_0 rec_186 r21 r25 (2 : Int) (2 : Int))
      else
        (k144_0 rec_186 r21 r25 (3 : Int) (1 : Int))))
  else
    (if r25.2 = (62 : Int) then
      (if x100 = (61 : Int) then
        (k144_0 rec_186 r21 r25 (6 : Int) (2 : Int))
      else
        (k144_0 rec_186 r21 r25 (5 : Int) (1 : Int)))
    else
      (k144_0 rec_186 r21 r25 (1 : Int) (1 : Int))))
def s144_b (n_ : Nat) (rec_144 : RDS → Bool → Option (RDS × Int)) (rec_186 : RDS → Int → Bool → Option (RDS × Int)) (rec_216 : RDS → Bool → Option (RDS × Int)) (rec_231 : RDS → Bool → Option (RDS × Int)) (rec_241 : RDS → Bool → Option (RDS × Int)) (rec_245 : RDS → Int → Int → Option (RDS × Int)) (S0 : RDS) (z1 : Bool) : Option (RDS × Int) :=
  (rec_186 S0 (2 : Int) z1).bind fun r21 =>
    (s145 n_ r21.1).bind fun r25 =>
    (if r25.2 = (61 : Int) then
    (if (s187 r25.1 r21.2) = true then
      some ((s146 r25.1 (3 : Int) r25.1.i).1, (s146 r25.1 (3 : Int) r25.1.i).2)
    else
      ck (i64ok (r25.1.i + (1 : Int))) <|
        (if (r25.1.i + (1 : Int)) < (r25.1.s.length : Int) then
        ck (0 ≤ (r25.1.i + (1 : Int)) ∧ (r25.1.i + (1 : Int)) < (r25.1.s.length : Int)) <|
          (k144_5 rec_186 r21 r25 ((List.getD r25.1.s (Int.toNat (r25.1.i + (1 : Int))) 0).toNat : Int))
      else
        (k144_5 rec_186 r21 r25 (0 : Int))))
  else
    (if r25.2 = (60 : Int) then
      (if (s187 r25.1 r21.2) = true then
        some ((s146 r25.1 (3 : Int) r25.1.i).1, (s146 r25.1 (3 : Int) r25.1.i).2)
      else
        ck (i64ok (r25.1.i + (1 : Int))) <|
          (if (r25.1.i + (1 : Int)) < (r25.1.s.length : Int) then
          ck (0 ≤ (r25.1.i + (1 : Int)) ∧ (r25.1.i + (1 : Int)) < (r25.1.s.length : Int)) <|
            (k144_3 rec_186 r21 r25 ((List.getD r25.1.s (Int.toNat (r25.1.i + (1 : Int))) 0).toNat : Int))
        else
          (k144_3 rec_186 r21 r25 (0 : Int))))
    else
      (if r25.2 = (62 : Int) then
        (if (s187 r25.1 r21.2) = true then
          some ((s146 r25.1 (3 : Int) r25.1.i).1, (s146 r25.1 (3 : Int) r25.1.i).2)
        else
          ck (i64ok (r25.1.i + (1 : Int))) <|
            (if (r25.1.i + (1 : Int)) < (r25.1.s.length : Int) then
            ck (0 ≤ (r25.1.i + (1 : Int)) ∧ (r25.1.i + (1 : Int)) < (r25.1.s.length : Int)) <|
              (k144_1 rec_186 r21 r25 ((List.getD r25.1.s (Int.toNat (r25.1.i + (1 : Int))) 0).toNat : Int))
          else
            (k144_1 rec_186 r21 r25 (0 : Int))))
      else
        some (r25.1, r21.2))))
/-- (*e2e/formm.reader).chain -/
def k186_6 (x176 : Int) (rec177 : Int → RDS → Option (RDS × Int)) (x187 : Int) (x214 : Int) (S210 : RDS) : Option (RDS × Int) :=
  (s188 S210 (⟨(7 : Int), x187, x176, x214, (0 : Int), (⟨(0 : Int), (0 : Int), false, false⟩ : RefT), (⟨(0 : Int), (0 : Int), false, false⟩ : RefT)⟩ : NodeT)).bind fun r215 =>
    (rec177 r215.2 r215.1)

def k186_7 (rec_186 : RDS → Int → Bool → Option (RDS × Int)) (rec_216 : RDS → Bool → Option (RDS × Int)) (z1 : Int) (x176 : Int) (rec177 : Int → RDS → Option (RDS × Int)) (r181 : RDS × Int) (x187 : Int) : Option (RDS × Int) :=
  (if x187 = (0 : Int) then
    some (r181.1, x176)
  else
    (if (s187 r181.1 x176) = true then
      some ((s146 r181.1 (3 : Int) r181.1.i).1, (s146 r181.1 (3 : Int) r181.1.i).2)
    else
      ck (i64ok (r181.1.i + (1 : Int))) <|
        (if z1 = (3 : Int) then
        (rec_216 ({ r181.1 with i := r181.1.i + (1 : Int) }) false).bind fun r221 =>
          (k186_6 x176 rec177 x187 r221.2 r221.1)
      else
        (rec_186 ({ r181.1 with i := r181.1.i + (1 : Int) }) (3 : Int) false).bind fun r225 =>
          (k186_6 x176 rec177 x187 r225.2 r225.1))))

def l186_8_st (n_ : Nat) (rec_186 : RDS → Int → Bool → Option (RDS × Int)) (rec_216 : RDS → Bool → Option (RDS × Int)) (z1 : Int) (rec177 : Int → RDS → Option (RDS × Int)) (x176 : Int) (S172 : RDS) : Option (RDS × Int) :=
  (if S172.err = (0 : Int) then
    (s145 n_ S172).bind fun r181 =>
      (if z1 = (3 : Int) then
      (if r181.2 = (42 : Int) then
        (k186_7 rec_186 rec_216 z1 x176 rec177 r181 (9 : Int))
      else
        (if r181.2 = (47 : Int) then
          (k186_7 rec_186 rec_216 z1 x176 rec177 r181 (10 : Int))
        else
          (if z1 = (2 : Int) then
            (if r181.2 = (43 : Int) then
              (k186_7 rec_186 rec_216 z1 x176 rec177 r181 (7 : Int))
            else
              (if r181.2 = (45 : Int) then
                (k186_7 rec_186 rec_216 z1 x176 rec177 r181 (8 : Int))
              else
                (k186_7 rec_186 rec_216 z1 x176 rec177 r181 (0 : Int))))
          else
            (k186_7 rec_186 rec_216 z1 x176 rec177 r181 (0 : Int)))))
    else
      (if z1 = (2 : Int) then
        (if r181.2 = (43 : Int) then
          (k186_7 rec_186 rec_216 z1 x176 rec177 r181 (7 : Int))
        else
          (if r181.2 = (45 : Int) then
            (k186_7 rec_186 rec_216 z1 x176 rec177 r181 (8 : Int))
          else
            (k186_7 rec_186 rec_216 z1 x176 rec177 r181 (0 : Int))))
      else
        (k186_7 rec_186 rec_216 z1 x176 rec177 r181 (0 : Int))))
  else
    some (S172, (-1 : Int)))
def l186_8 (n_ : Nat) (rec_186 : RDS → Int → Bool → Option (RDS × Int)) (rec_216 : RDS → Bool → Option (RDS × Int)) (z1 : Int) : Nat → Int → RDS → Option (RDS × Int)
  | 0 => fun _ _ => none
  | k + 1 => l186_8_st n_ rec_186 rec_216 z1 (l186_8 n_ rec_186 rec_216 z1 k)

def k186_9 (n_ : Nat) (rec_186 : RDS → Int → Bool → Option (RDS × Int)) (rec_216 : RDS → Bool → Option (RDS × Int)) (z1 : Int) (x141 : Int) (S137 : RDS) : Option (RDS × Int) :=
  (l186_8 n_ rec_186 rec_216 z1 n_ x141 S137)
def s186_b (n_ : Nat) (rec_144 : RDS → Bool → Option (RDS × Int)) (rec_186 : RDS → Int → Bool → Option (RDS × Int)) (rec_216 : RDS → Bool → Option (RDS × Int)) (rec_231 : RDS → Bool → Option (RDS × Int)) (rec_241 : RDS → Bool → Option (RDS × Int)) (rec_245 : RDS → Int → Int → Option (RDS × Int)) (S0 : RDS) (z1 : Int) (z2 : Bool) : Option (RDS × Int) :=
  (if z1 = (3 : Int) then
    (rec_216 S0 z2).bind fun r251 =>
      (k186_9 n_ rec_186 rec_216 z1 r251.2 r251.1)
  else
    (rec_186 S0 (3 : Int) z2).bind fun r255 =>
      (k186_9 n_ rec_186 rec_216 z1 r255.2 r255.1))
/-- (*e2e/formm.reader).unary -/
def s216_b (n_ : Nat) (rec_144 : RDS → Bool → Option (RDS × Int)) (rec_186 : RDS → Int → Bool → Option (RDS × Int)) (rec_216 : RDS → Bool → Option (RDS × Int)) (rec_231 : RDS → Bool → Option (RDS × Int)) (rec_241 : RDS → Bool → Option (RDS × Int)) (rec_245 : RDS → Int → Int → Option (RDS × Int)) (S0 : RDS) (z1 : Bool) : Option (RDS × Int) :=
  (s145 n_ S0).bind fun r21 =>
    (if r21.2 = (45 : Int) then
    ck (i64ok (r21.1.i + (1 : Int))) <|
      (rec_216 ({ r21.1 with i := r21.1.i + (1 : Int) }) false).bind fun r33 =>
      (s188 r33.1 (⟨(6 : Int), (0 : Int), r33.2, (-1 : Int), (0 : Int), (⟨(0 : Int), (0 : Int), false, false⟩ : RefT), (⟨(0 : Int), (0 : Int), false, false⟩ : RefT)⟩ : NodeT)).bind fun r37 =>
      some (r37.1, r37.2)
  else
    (rec_231 r21.1 z1).bind fun r27 =>
      some (r27.1, r27.2))
/-- (*e2e/formm.reader).atom -/
def k231_0 (S46 : RDS) (rec51 : Int → RDS → Option (RDS × Int)) (x62 : Int) : Option (RDS × Int) :=
  ck (i64ok (S46.i + (1 : Int))) <|
    (rec51 x62 ({ S46 with i := S46.i + (1 : Int) }))

def l231_1_st (n_ : Nat) (r21 : RDS × Int) (rec51 : Int → RDS → Option (RDS × Int)) (x50 : Int) (S46 : RDS) : Option (RDS × Int) :=
  (if S46.i < (S46.s.length : Int) then
    ck (0 ≤ S46.i ∧ S46.i < (S46.s.length : Int)) <|
      (if (48 : Int) ≤ ((List.getD S46.s (Int.toNat S46.i) 0).toNat : Int) then
      (if ((List.getD S46.s (Int.toNat S46.i) 0).toNat : Int) ≤ (57 : Int) then
        ck (i64ok (S46.i - r21.1.i)) <|
          (if (S46.i - r21.1.i) < (9 : Int) then
          ck (i64ok (x50 * (10 : Int))) <|
            ck (0 ≤ ((List.getD S46.s (Int.toNat S46.i) 0).toNat : Int) - (48 : Int) ∧ ((List.getD S46.s (Int.toNat S46.i) 0).toNat : Int) - (48 : Int) ≤ 255) <|
            ck (i64ok (((List.getD S46.s (Int.toNat S46.i) 0).toNat : Int) - (48 : Int))) <|
            ck (i64ok ((x50 * (10 : Int)) + (((List.getD S46.s (Int.toNat S46.i) 0).toNat : Int) - (48 : Int)))) <|
            (k231_0 S46 rec51 ((x50 * (10 : Int)) + (((List.getD S46.s (Int.toNat S46.i) 0).toNat : Int) - (48 : Int))))
        else
          (k231_0 S46 rec51 x50))
      else
        ck (i64ok (S46.i - r21.1.i)) <|
          (if (9 : Int) < (S46.i - r21.1.i) then
          some ((s146 S46 (4 : Int) r21.1.i).1, (s146 S46 (4 : Int) r21.1.i).2)
        else
          (s188 S46 (⟨(1 : Int), (0 : Int), (-1 : Int), (-1 : Int), x50, (⟨(0 : Int), (0 : Int), false, false⟩ : RefT), (⟨(0 : Int), (0 : Int), false, false⟩ : RefT)⟩ : NodeT)).bind fun r77 =>
            some (r77.1, r77.2)))
    else
      ck (i64ok (S46.i - r21.1.i)) <|
        (if (9 : Int) < (S46.i - r21.1.i) then
        some ((s146 S46 (4 : Int) r21.1.i).1, (s146 S46 (4 : Int) r21.1.i).2)
      else
        (s188 S46 (⟨(1 : Int), (0 : Int), (-1 : Int), (-1 : Int), x50, (⟨(0 : Int), (0 : Int), false, false⟩ : RefT), (⟨(0 : Int), (0 : Int), false, false⟩ : RefT)⟩ : NodeT)).bind fun r86 =>
          some (r86.1, r86.2)))
  else
    ck (i64ok (S46.i - r21.1.i)) <|
      (if (9 : Int) < (S46.i - r21.1.i) then
      some ((s146 S46 (4 : Int) r21.1.i).1, (s146 S46 (4 : Int) r21.1.i).2)
    else
      (s188 S46 (⟨(1 : Int), (0 : Int), (-1 : Int), (-1 : Int), x50, (⟨(0 : Int), (0 : Int), false, false⟩ : RefT), (⟨(0 : Int), (0 : Int), false, false⟩ : RefT)⟩ : NodeT)).bind fun r95 =>
        some (r95.1, r95.2)))
def l231_1 (n_ : Nat) (r21 : RDS × Int) : Nat → Int → RDS → Option (RDS × Int)
  | 0 => fun _ _ => none
  | k + 1 => l231_1_st n_ r21 (l231_1 n_ r21 k)
def s231_b (n_ : Nat) (rec_144 : RDS → Bool → Option (RDS × Int)) (rec_186 : RDS → Int → Bool → Option (RDS × Int)) (rec_216 : RDS → Bool → Option (RDS × Int)) (rec_231 : RDS → Bool → Option (RDS × Int)) (rec_241 : RDS → Bool → Option (RDS × Int)) (rec_245 : RDS → Int → Int → Option (RDS × Int)) (S0 : RDS) (z1 : Bool) : Option (RDS × Int) :=
  (s145 n_ S0).bind fun r21 =>
    (if (48 : Int) ≤ r21.2 then
    (if r21.2 ≤ (57 : Int) then
      (l231_1 n_ r21 n_ (0 : Int) r21.1)
    else
      (if (65 : Int) ≤ r21.2 then
        (if r21.2 ≤ (90 : Int) then
          (rec_241 r21.1 z1).bind fun r149 =>
            some (r149.1, r149.2)
        else
          (if r21.2 = (36 : Int) then
            (rec_241 r21.1 z1).bind fun r107 =>
              some (r107.1, r107.2)
          else
            (if r21.2 = (35 : Int) then
              ck (i64ok (r21.1.i + (1 : Int))) <|
                (if (r21.1.s.length : Int) ≤ (r21.1.i + (1 : Int)) then
                some ((s146 r21.1 (2 : Int) r21.1.i).1, (s146 r21.1 (2 : Int) r21.1.i).2)
              else
                ck (0 ≤ (r21.1.i + (1 : Int)) ∧ (r21.1.i + (1 : Int)) < (r21.1.s.length : Int)) <|
                  (if ((List.getD r21.1.s (Int.toNat (r21.1.i + (1 : Int))) 0).toNat : Int) = (35 : Int) then
                  ck (i64ok (r21.1.i + (2 : Int))) <|
                    (s188 ({ r21.1 with i := r21.1.i + (2 : Int) }) (⟨(5 : Int), (0 : Int), (-1 : Int), (-1 : Int), (0 : Int), (⟨(0 : Int), (0 : Int), false, false⟩ : RefT), (⟨(0 : Int), (0 : Int), false, false⟩ : RefT)⟩ : NodeT)).bind fun r123 =>
                    some (r123.1, r123.2)
                else
                  some ((s146 r21.1 (2 : Int) r21.1.i).1, (s146 r21.1 (2 : Int) r21.1.i).2)))
            else
              (if r21.2 = (40 : Int) then
                ck (i64ok (r21.1.i + (1 : Int))) <|
                  (rec_144 ({ r21.1 with i := r21.1.i + (1 : Int) }) false).bind fun r133 =>
                  (s145 n_ r133.1).bind fun r137 =>
                  (if r137.2 = (41 : Int) then
                  ck (i64ok (r137.1.i + (1 : Int))) <|
                    some ({ r137.1 with i := r137.1.i + (1 : Int) }, r133.2)
                else
                  some ((s146 r137.1 (3 : Int) r137.1.i).1, (s146 r137.1 (3 : Int) r137.1.i).2))
              else
                some ((s146 r21.1 (3 : Int) r21.1.i).1, (s146 r21.1 (3 : Int) r21.1.i).2)))))
      else
        (if r21.2 = (36 : Int) then
          (rec_241 r21.1 z1).bind fun r155 =>
            some (r155.1, r155.2)
        else
          (if r21.2 = (35 : Int) then
            ck (i64ok (r21.1.i + (1 : Int))) <|
              (if (r21.1.s.length : Int) ≤ (r21.1.i + (1 : Int)) then
              some ((s146 r21.1 (2 : Int) r21.1.i).1, (s146 r21.1 (2 : Int) r21.1.i).2)
            else
              ck (0 ≤ (r21.1.i + (1 : Int)) ∧ (r21.1.i + (1 : Int)) < (r21.1.s.length : Int)) <|
                (if ((List.getD r21.1.s (Int.toNat (r21.1.i + (1 : Int))) 0).toNat : Int) = (35 : Int) then
                ck (i64ok (r21.1.i + (2 : Int))) <|
                  (s188 ({ r21.1 with i := r21.1.i + (2 : Int) }) (⟨(5 : Int), (0 : Int), (-1 : Int), (-1 : Int), (0 : Int), (⟨(0 : Int), (0 : Int), false, false⟩ : RefT), (⟨(0 : Int), (0 : Int), false, false⟩ : RefT)⟩ : NodeT)).bind fun r171 =>
                  some (r171.1, r171.2)
              else
                some ((s146 r21.1 (2 : Int) r21.1.i).1, (s146 r21.1 (2 : Int) r21.1.i).2)))
          else
            (if r21.2 = (40 : Int) then
              ck (i64ok (r21.1.i + (1 : Int))) <|
                (rec_144 ({ r21.1 with i := r21.1.i + (1 : Int) }) false).bind fun r181 =>
                (s145 n_ r181.1).bind fun r185 =>
                (if r185.2 = (41 : Int) then
                ck (i64ok (r185.1.i + (1 : Int))) <|
                  some ({ r185.1 with i := r185.1.i + (1 : Int) }, r181.2)
              else
                some ((s146 r185.1 (3 : Int) r185.1.i).1, (s146 r185.1 (3 : Int) r185.1.i).2))
            else
              some ((s146 r21.1 (3 : Int) r21.1.i).1, (s146 r21.1 (3 : Int) r21.1.i).2))))))
  else
    (if (65 : Int) ≤ r21.2 then
      (if r21.2 ≤ (90 : Int) then
        (rec_241 r21.1 z1).bind fun r245 =>
          some (r245.1, r245.2)
      else
        (if r21.2 = (36 : Int) then
          (rec_241 r21.1 z1).bind fun r203 =>
            some (r203.1, r203.2)
        else
          (if r21.2 = (35 : Int) then
            ck (i64ok (r21.1.i + (1 : Int))) <|
              (if (r21.1.s.length : Int) ≤ (r21.1.i + (1 : Int)) then
              some ((s146 r21.1 (2 : Int) r21.1.i).1, (s146 r21.1 (2 : Int) r21.1.i).2)
            else
              ck (0 ≤ (r21.1.i + (1 : Int)) ∧ (r21.1.i + (1 : Int)) < (r21.1.s.length : Int)) <|
                (if ((List.getD r21.1.s (Int.toNat (r21.1.i + (1 : Int))) 0).toNat : Int) = (35 : Int) then
                ck (i64ok (r21.1.i + (2 : Int))) <|
                  (s188 ({ r21.1 with i := r21.1.i + (2 : Int) }) (⟨(5 : Int), (0 : Int), (-1 : Int), (-1 : Int), (0 : Int), (⟨(0 : Int), (0 : Int), false, false⟩ : RefT), (⟨(0 : Int), (0 : Int), false, false⟩ : RefT)⟩ : NodeT)).bind fun r219 =>
                  some (r219.1, r219.2)
              else
                some ((s146 r21.1 (2 : Int) r21.1.i).1, (s146 r21.1 (2 : Int) r21.1.i).2)))
          else
            (if r21.2 = (40 : Int) then
              ck (i64ok (r21.1.i + (1 : Int))) <|
                (rec_144 ({ r21.1 with i := r21.1.i + (1 : Int) }) false).bind fun r229 =>
                (s145 n_ r229.1).bind fun r233 =>
                (if r233.2 = (41 : Int) then
                ck (i64ok (r233.1.i + (1 : Int))) <|
                  some ({ r233.1 with i := r233.1.i + (1 : Int) }, r229.2)
              else
                some ((s146 r233.1 (3 : Int) r233.1.i).1, (s146 r233.1 (3 : Int) r233.1.i).2))
            else
              some ((s146 r21.1 (3 : Int) r21.1.i).1, (s146 r21.1 (3 : Int) r21.1.i).2)))))
    else
      (if r21.2 = (36 : Int) then
        (rec_241 r21.1 z1).bind fun r251 =>
          some (r251.1, r251.2)
      else
        (if r21.2 = (35 : Int) then
          ck (i64ok (r21.1.i + (1 : Int))) <|
            (if (r21.1.s.length : Int) ≤ (r21.1.i + (1 : Int)) then
            some ((s146 r21.1 (2 : Int) r21.1.i).1, (s146 r21.1 (2 : Int) r21.1.i).2)
          else
            ck (0 ≤ (r21.1.i + (1 : Int)) ∧ (r21.1.i + (1 : Int)) < (r21.1.s.length : Int)) <|
              (if ((List.getD r21.1.s (Int.toNat (r21.1.i + (1 : Int))) 0).toNat : Int) = (35 : Int) then
              ck (i64ok (r21.1.i + (2 : Int))) <|
                (s188 ({ r21.1 with i := r21.1.i + (2 : Int) }) (⟨(5 : Int), (0 : Int), (-1 : Int), (-1 : Int), (0 : Int), (⟨(0 : Int), (0 : Int), false, false⟩ : RefT), (⟨(0 : Int), (0 : Int), false, false⟩ : RefT)⟩ : NodeT)).bind fun r267 =>
                some (r267.1, r267.2)
            else
              some ((s146 r21.1 (2 : Int) r21.1.i).1, (s146 r21.1 (2 : Int) r21.1.i).2)))
        else
          (if r21.2 = (40 : Int) then
            ck (i64ok (r21.1.i + (1 : Int))) <|
              (rec_144 ({ r21.1 with i := r21.1.i + (1 : Int) }) false).bind fun r277 =>
              (s145 n_ r277.1).bind fun r281 =>
              (if r281.2 = (41 : Int) then
              ck (i64ok (r281.1.i + (1 : Int))) <|
                some ({ r281.1 with i := r281.1.i + (1 : Int) }, r277.2)
            else
              some ((s146 r281.1 (3 : Int) r281.1.i).1, (s146 r281.1 (3 : Int) r281.1.i).2))
          else
            some ((s146 r21.1 (3 : Int) r21.1.i).1, (s146 r21.1 (3 : Int) r21.1.i).2))))))
/-- (*e2e/formm.reader).name -/
def s241_b (n_ : Nat) (rec_144 : RDS → Bool → Option (RDS × Int)) (rec_186 : RDS → Int → Bool → Option (RDS × Int)) (rec_216 : RDS → Bool → Option (RDS × Int)) (rec_231 : RDS → Bool → Option (RDS × Int)) (rec_241 : RDS → Bool → Option (RDS × Int)) (rec_245 : RDS → Int → Int → Option (RDS × Int)) (S0 : RDS) (z1 : Bool) : Option (RDS × Int) :=
  (s242 n_ S0).bind fun r21 =>
    (if (r21.2 == ([84, 82, 85, 69] : List UInt8)) = true then
    (s188 r21.1 (⟨(2 : Int), (0 : Int), (-1 : Int), (-1 : Int), (1 : Int), (⟨(0 : Int), (0 : Int), false, false⟩ : RefT), (⟨(0 : Int), (0 : Int), false, false⟩ : RefT)⟩ : NodeT)).bind fun r27 =>
      some (r27.1, r27.2)
  else
    (if (r21.2 == ([70, 65, 76, 83, 69] : List UInt8)) = true then
      (s188 r21.1 (⟨(2 : Int), (0 : Int), (-1 : Int), (-1 : Int), (0 : Int), (⟨(0 : Int), (0 : Int), false, false⟩ : RefT), (⟨(0 : Int), (0 : Int), false, false⟩ : RefT)⟩ : NodeT)).bind fun r33 =>
        some (r33.1, r33.2)
    else
      (s243 n_ r21.2).bind fun r37 =>
        (if r37.2 = true then
        (s145 n_ r21.1).bind fun r63 =>
          (if r63.2 = (58 : Int) then
          ck (i64ok (r63.1.i + (1 : Int))) <|
            (s145 n_ ({ r63.1 with i := r63.1.i + (1 : Int) })).bind fun r75 =>
            (s242 n_ r75.1).bind fun r79 =>
            (s243 n_ r79.2).bind fun r83 =>
            (if r83.2 = true then
            (if z1 = true then
              (s188 r79.1 (⟨(4 : Int), (0 : Int), (-1 : Int), (-1 : Int), (0 : Int), r37.1, r83.1⟩ : NodeT)).bind fun r96 =>
                some (r96.1, r96.2)
            else
              some ((s146 r79.1 (6 : Int) S0.i).1, (s146 r79.1 (6 : Int) S0.i).2))
          else
            some ((s146 r79.1 (3 : Int) r75.1.i).1, (s146 r79.1 (3 : Int) r75.1.i).2))
        else
          (s188 r63.1 (⟨(3 : Int), (0 : Int), (-1 : Int), (-1 : Int), (0 : Int), r37.1, (⟨(0 : Int), (0 : Int), false, false⟩ : RefT)⟩ : NodeT)).bind fun r69 =>
            some (r69.1, r69.2))
      else
        (s244 n_ r21.2).bind fun r44 =>
          (if r44 = (0 : Int) then
          some ((s146 r21.1 (5 : Int) S0.i).1, (s146 r21.1 (5 : Int) S0.i).2)
        else
          (s145 n_ r21.1).bind fun r49 =>
            (if r49.2 = (40 : Int) then
            (rec_245 r49.1 r44 S0.i).bind fun r57 =>
              some (r57.1, r57.2)
          else
            some ((s146 r49.1 (5 : Int) S0.i).1, (s146 r49.1 (5 : Int) S0.i).2))))))
/-- (*e2e/formm.reader).call -/
def k245_1 (z1 : Int) (z2 : Int) (x110 : Int) (x111 : Int) (S106 : RDS) : Option (RDS × Int) :=
  (if (s208 z1 x111) = true then
    (s188 S106 (⟨(8 : Int), z1, x110, (-1 : Int), x111, (⟨(0 : Int), (0 : Int), false, false⟩ : RefT), (⟨(0 : Int), (0 : Int), false, false⟩ : RefT)⟩ : NodeT)).bind fun r117 =>
      some (r117.1, r117.2)
  else
    some ((s146 S106 (6 : Int) z2).1, (s146 S106 (6 : Int) z2).2))

def l245_2_st (n_ : Nat) (rec_144 : RDS → Bool → Option (RDS × Int)) (z1 : Int) (z2 : Int) (rec153 : Int → Int → RDS → Option (RDS × Int)) (x151 : Int) (x152 : Int) (S147 : RDS) : Option (RDS × Int) :=
  (if S147.err = (0 : Int) then
    (rec_144 S147 (s209 z1)).bind fun r158 =>
      (s188 r158.1 (⟨(9 : Int), (0 : Int), r158.2, x151, (0 : Int), (⟨(0 : Int), (0 : Int), false, false⟩ : RefT), (⟨(0 : Int), (0 : Int), false, false⟩ : RefT)⟩ : NodeT)).bind fun r162 =>
      ck (i64ok (x152 + (1 : Int))) <|
      (s145 n_ r162.1).bind fun r167 =>
      (if r167.2 = (44 : Int) then
      ck (i64ok (r167.1.i + (1 : Int))) <|
        (rec153 r162.2 (x152 + (1 : Int)) ({ r167.1 with i := r167.1.i + (1 : Int) }))
    else
      (if r167.2 = (41 : Int) then
        ck (i64ok (r167.1.i + (1 : Int))) <|
          (k245_1 z1 z2 r162.2 (x152 + (1 : Int)) ({ r167.1 with i := r167.1.i + (1 : Int) }))
      else
        some ((s146 r167.1 (3 : Int) r167.1.i).1, (s146 r167.1 (3 : Int) r167.1.i).2)))
  else
    (k245_1 z1 z2 x151 x152 S147))
def l245_2 (n_ : Nat) (rec_144 : RDS → Bool → Option (RDS × Int)) (z1 : Int) (z2 : Int) : Nat → Int → Int → RDS → Option (RDS × Int)
  | 0 => fun _ _ _ => none
  | k + 1 => l245_2_st n_ rec_144 z1 z2 (l245_2 n_ rec_144 z1 z2 k)
def s245_b (n_ : Nat) (rec_144 : RDS → Bool → Option (RDS × Int)) (rec_186 : RDS → Int → Bool → Option (RDS × Int)) (rec_216 : RDS → Bool → Option (RDS × Int)) (rec_231 : RDS → Bool → Option (RDS × Int)) (rec_241 : RDS → Bool → Option (RDS × Int)) (rec_245 : RDS → Int → Int → Option (RDS × Int)) (S0 : RDS) (z1 : Int) (z2 : Int) : Option (RDS × Int) :=
  ck (i64ok (S0.i + (1 : Int))) <|
    (s145 n_ ({ S0 with i := S0.i + (1 : Int) })).bind fun r23 =>
    (if r23.2 = (41 : Int) then
    ck (i64ok (r23.1.i + (1 : Int))) <|
      some ((s146 ({ r23.1 with i := r23.1.i + (1 : Int) }) (6 : Int) z2).1, (s146 ({ r23.1 with i := r23.1.i + (1 : Int) }) (6 : Int) z2).2)
  else
    (l245_2 n_ rec_144 z1 z2 n_ (-1 : Int) (0 : Int) r23.1))
def rc144 (n_ : Nat) : Nat → (RDS → Bool → Option (RDS × Int)) × (RDS → Int → Bool → Option (RDS × Int)) × (RDS → Bool → Option (RDS × Int)) × (RDS → Bool → Option (RDS × Int)) × (RDS → Bool → Option (RDS × Int)) × (RDS → Int → Int → Option (RDS × Int))
  | 0 => ((fun _ _ => none), (fun _ _ _ => none), (fun _ _ => none), (fun _ _ => none), (fun _ _ => none), (fun _ _ _ => none))
  | k + 1 => (s144_b n_ ((rc144 n_ k).1) ((rc144 n_ k).2.1) ((rc144 n_ k).2.2.1) ((rc144 n_ k).2.2.2.1) ((rc144 n_ k).2.2.2.2.1) ((rc144 n_ k).2.2.2.2.2), s186_b n_ ((rc144 n_ k).1) ((rc144 n_ k).2.1) ((rc144 n_ k).2.2.1) ((rc144 n_ k).2.2.2.1) ((rc144 n_ k).2.2.2.2.1) ((rc144 n_ k).2.2.2.2.2), s216_b n_ ((rc144 n_ k).1) ((rc144 n_ k).2.1) ((rc144 n_ k).2.2.1) ((rc144 n_ k).2.2.2.1) ((rc144 n_ k).2.2.2.2.1) ((rc144 n_ k).2.2.2.2.2), s231_b n_ ((rc144 n_ k).1) ((rc144 n_ k).2.1) ((rc144 n_ k).2.2.1) ((rc144 n_ k).2.2.2.1) ((rc144 n_ k).2.2.2.2.1) ((rc144 n_ k).2.2.2.2.2), s241_b n_ ((rc144 n_ k).1) ((rc144 n_ k).2.1) ((rc144 n_ k).2.2.1) ((rc144 n_ k).2.2.2.1) ((rc144 n_ k).2.2.2.2.1) ((rc144 n_ k).2.2.2.2.2), s245_b n_ ((rc144 n_ k).1) ((rc144 n_ k).2.1) ((rc144 n_ k).2.2.1) ((rc144 n_ k).2.2.2.1) ((rc144 n_ k).2.2.2.2.1) ((rc144 n_ k).2.2.2.2.2))
def s144 (n_ : Nat) : RDS → Bool → Option (RDS × Int) := (rc144 n_ n_).1
def s186 (n_ : Nat) : RDS → Int → Bool → Option (RDS × Int) := (rc144 n_ n_).2.1
def s216 (n_ : Nat) : RDS → Bool → Option (RDS × Int) := (rc144 n_ n_).2.2.1
def s231 (n_ : Nat) : RDS → Bool → Option (RDS × Int) := (rc144 n_ n_).2.2.2.1
def s241 (n_ : Nat) : RDS → Bool → Option (RDS × Int) := (rc144 n_ n_).2.2.2.2.1
def s245 (n_ : Nat) : RDS → Int → Int → Option (RDS × Int) := (rc144 n_ n_).2.2.2.2.2
/-- (*e2e/formm.Former).Parse -/
def k120_1 (S0 : FMS) (z1 : List UInt8) (r28 : RDS × Int) (S61 : RDS) : Option (FMS × TreeV) :=
  (if S61.err = (0 : Int) then
    ck (0 < S61.n.length) <|
      (s121 S61.n S61.n.length).bind fun r75 =>
      some ({ S0 with parses := (IntKind.wrap .i64 (S0.parses + (1 : Int))), last := z1 }, (⟨r75, r28.2, (0 : Int), (0 : Int)⟩ : TreeV))
  else
    some ({ S0 with parses := (IntKind.wrap .i64 (S0.parses + (1 : Int))), last := z1 }, (⟨[], (-1 : Int), S61.err, S61.pos⟩ : TreeV)))
def s120 (n_ : Nat) (S0 : FMS) (z1 : List UInt8) : Option (FMS × TreeV) :=
  (if (40 : Int) < (z1.length : Int) then
    some ({ S0 with parses := (IntKind.wrap .i64 (S0.parses + (1 : Int))), last := z1 }, (⟨[], (-1 : Int), (1 : Int), (0 : Int)⟩ : TreeV))
  else
    (s144 n_ (⟨z1, (0 : Int), [], (0 : Int), (0 : Int)⟩ : RDS) false).bind fun r28 =>
      (s145 n_ r28.1).bind fun r84 =>
      (if r84.2 = (0 : Int) then
      (k120_1 S0 z1 r28 r84.1)
    else
      (k120_1 S0 z1 r28 ((s146 r84.1 (3 : Int) r84.1.i).1))))
/-- e2e/api.Reads -/
def k203_0 (x25 : Int) (rec26 : (BitVec 32) → Int → Option (BitVec 32)) (x32 : BitVec 32) : Option (BitVec 32) :=
  ck (i64ok (x25 + (1 : Int))) <|
    (rec26 x32 (x25 + (1 : Int)))

def k203_1 (n_ : Nat) (x25 : Int) (rec26 : (BitVec 32) → Int → Option (BitVec 32)) (x34 : NodeT) (x40 : BitVec 32) : Option (BitVec 32) :=
  (if x34.kind = (4 : Int) then
    (s149 n_ x34.r1 x34.r2).bind fun r43 =>
      (k203_0 x25 rec26 (x40 ||| r43.1))
  else
    (k203_0 x25 rec26 x40))

def l203_2_st (n_ : Nat) (t0 : TreeV) (rec26 : (BitVec 32) → Int → Option (BitVec 32)) (x24 : BitVec 32) (x25 : Int) : Option (BitVec 32) :=
  (if x25 < ((t0.nodes.length : Nat) : Int) then
    (getN t0.nodes t0.nodes.length x25).bind fun x34 =>
      (if x34.kind = (3 : Int) then
      (if (s116 x34.r1) = true then
        (s217 x34.r1).bind fun r51 =>
          (k203_1 n_ x25 rec26 x34 (x24 ||| (s92 r51)))
      else
        (k203_1 n_ x25 rec26 x34 x24))
    else
      (k203_1 n_ x25 rec26 x34 x24))
  else
    some x24)
def l203_2 (n_ : Nat) (t0 : TreeV) : Nat → (BitVec 32) → Int → Option (BitVec 32)
  | 0 => fun _ _ => none
  | k + 1 => l203_2_st n_ t0 (l203_2 n_ t0 k)
def s203 (n_ : Nat) (t0 : TreeV) : Option (BitVec 32) :=
  (l203_2 n_ t0 n_ (0 : BitVec 32) (0 : Int))
/-- (*e2e/valm.Evaluator).Reads -/
def s159 (n_ : Nat) (S0 : VMS) (z1 : List UInt8) : Option (VMS × BitVec 32 × Int) :=
  (if (40 : Int) < (z1.length : Int) then
    some ({ S0 with reads := (IntKind.wrap .i64 (S0.reads + (1 : Int))) }, (0 : BitVec 32), (1 : Int))
  else
    (if (z1 == ([] : List UInt8)) = true then
      some ({ S0 with reads := (IntKind.wrap .i64 (S0.reads + (1 : Int))) }, (0 : BitVec 32), (0 : Int))
    else
      ck (0 ≤ (0 : Int) ∧ (0 : Int) < (z1.length : Int)) <|
        (if ((List.getD z1 (Int.toNat (0 : Int)) 0).toNat : Int) = (61 : Int) then
        ck (0 ≤ (1 : Int) ∧ (1 : Int) ≤ (z1.length : Int)) <|
          (s120 n_ S0.f (List.drop (Int.toNat (1 : Int)) z1)).bind fun r30 =>
          (if r30.2.err = (0 : Int) then
          ck (0 < r30.2.nodes.length) <|
            (s203 n_ r30.2).bind fun r51 =>
            some ({ S0 with f := r30.1, reads := (IntKind.wrap .i64 (S0.reads + (1 : Int))) }, r51, (0 : Int))
        else
          some ({ S0 with f := r30.1, reads := (IntKind.wrap .i64 (S0.reads + (1 : Int))) }, (0 : BitVec 32), (0 : Int)))
      else
        some ({ S0 with reads := (IntKind.wrap .i64 (S0.reads + (1 : Int))) }, (0 : BitVec 32), (0 : Int)))))
/-- (*e2e/graphm.Graph).Set -/
def s160 (S0 : GMS) (z1 : Int) (z2 : BitVec 32) : Option (GMS × Int) :=
  (if z1 < (0 : Int) then
    some ({ S0 with sets := (IntKind.wrap .i64 (S0.sets + (1 : Int))) }, (9 : Int))
  else
    (if (24 : Int) ≤ z1 then
      some ({ S0 with sets := (IntKind.wrap .i64 (S0.sets + (1 : Int))) }, (9 : Int))
    else
      (if ((z2 &&& ~~~(16777215 : BitVec 32)).toNat : Int) = (0 : Int) then
        (getN S0.reads 24 z1).bind fun x28 =>
          some ({ S0 with reads := (List.set S0.reads (Int.toNat z1) z2), sets := (IntKind.wrap .i64 (S0.sets + (1 : Int))) }, (0 : Int))
      else
        some ({ S0 with sets := (IntKind.wrap .i64 (S0.sets + (1 : Int))) }, (9 : Int)))))
/-- (*e2e/calcm.Calc).wires -/
def l134_0_st (n_ : Nat) (rec63 : Int → GMS → KMS → Option (KMS × GMS)) (x62 : Int) (S57 : GMS) (S58 : KMS) : Option (KMS × GMS) :=
  (if x62 < (24 : Int) then
    (getN S58.raw 24 x62).bind fun x67 =>
      (s159 n_ S58.v x67).bind fun r69 =>
      (s160 S57 x62 r69.2.1).bind fun r72 =>
      ck (i64ok (x62 + (1 : Int))) <|
      (rec63 (x62 + (1 : Int)) r72.1 ({ S58 with v := r69.1 }))
  else
    some (S58, S57))
def l134_0 (n_ : Nat)  : Nat → Int → GMS → KMS → Option (KMS × GMS)
  | 0 => fun _ _ _ => none
  | k + 1 => l134_0_st n_ (l134_0 n_ k)
def s134 (n_ : Nat) (S0 : KMS) : Option (KMS × GMS) :=
  (l134_0 n_ n_ (0 : Int) s158 S0)
/-- (*e2e/graphm.Graph).rounds -/
def k161_5 (x160 : Int) (rec161 : (BitVec 32) → Int → (List Int) → Option (List Int)) (x182 : BitVec 32) (a179 : List Int) : Option (List Int) :=
  ck (i64ok (x160 + (1 : Int))) <|
    (rec161 x182 (x160 + (1 : Int)) a179)

def l161_6_st (n_ : Nat) (S0 : GMS) (x123 : BitVec 32) (x124 : Int) (rec125 : (BitVec 32) → Int → (List Int) → Option (List Int)) (rec161 : (BitVec 32) → Int → (List Int) → Option (List Int)) (x159 : BitVec 32) (x160 : Int) (a156 : List Int) : Option (List Int) :=
  (if x160 < (24 : Int) then
    (getN a156 24 x160).bind fun x184 =>
      (if x184 < (0 : Int) then
      (getN S0.reads 24 x160).bind fun x188 =>
        (if ((x188 &&& ~~~x123).toNat : Int) = (0 : Int) then
        (k161_5 x160 rec161 (x159 ||| (s92 x160)) (List.set a156 (Int.toNat x160) x124))
      else
        (k161_5 x160 rec161 x159 a156))
    else
      (k161_5 x160 rec161 x159 a156))
  else
    ck (i64ok (x124 + (1 : Int))) <|
      (rec125 x159 (x124 + (1 : Int)) a156))
def l161_6 (n_ : Nat) (S0 : GMS) (x123 : BitVec 32) (x124 : Int) (rec125 : (BitVec 32) → Int → (List Int) → Option (List Int)) : Nat → (BitVec 32) → Int → (List Int) → Option (List Int)
  | 0 => fun _ _ _ => none
  | k + 1 => l161_6_st n_ S0 x123 x124 rec125 (l161_6 n_ S0 x123 x124 rec125 k)

def l161_7_st (n_ : Nat) (S0 : GMS) (rec125 : (BitVec 32) → Int → (List Int) → Option (List Int)) (x123 : BitVec 32) (x124 : Int) (a120 : List Int) : Option (List Int) :=
  (if x124 < (24 : Int) then
    (l161_6 n_ S0 x123 x124 rec125 n_ x123 (0 : Int) a120)
  else
    some a120)
def l161_7 (n_ : Nat) (S0 : GMS) : Nat → (BitVec 32) → Int → (List Int) → Option (List Int)
  | 0 => fun _ _ _ => none
  | k + 1 => l161_7_st n_ S0 (l161_7 n_ S0 k)

def l161_8_st (n_ : Nat) (S0 : GMS) (rec37 : Int → (List Int) → Option (List Int)) (x36 : Int) (a33 : List Int) : Option (List Int) :=
  (if x36 < (24 : Int) then
    (getN a33 24 x36).bind fun x41 =>
      ck (i64ok (x36 + (1 : Int))) <|
      (rec37 (x36 + (1 : Int)) (List.set a33 (Int.toNat x36) (-1 : Int)))
  else
    (l161_7 n_ S0 n_ (0 : BitVec 32) (0 : Int) a33))
def l161_8 (n_ : Nat) (S0 : GMS) : Nat → Int → (List Int) → Option (List Int)
  | 0 => fun _ _ => none
  | k + 1 => l161_8_st n_ S0 (l161_8 n_ S0 k)
def s161 (n_ : Nat) (S0 : GMS) : Option (List Int) :=
  (l161_8 n_ S0 n_ (0 : Int) (List.replicate 24 (0 : Int)))
/-- (*e2e/graphm.Graph).Cyclic -/
def k135_0 (x30 : Int) (rec31 : (BitVec 32) → Int → Option (GMS × BitVec 32)) (x37 : BitVec 32) : Option (GMS × BitVec 32) :=
  ck (i64ok (x30 + (1 : Int))) <|
    (rec31 x37 (x30 + (1 : Int)))

def l135_1_st (n_ : Nat) (S0 : GMS) (r22 : List Int) (rec31 : (BitVec 32) → Int → Option (GMS × BitVec 32)) (x29 : BitVec 32) (x30 : Int) : Option (GMS × BitVec 32) :=
  (if x30 < (24 : Int) then
    (getN r22 24 x30).bind fun x39 =>
      (if x39 < (0 : Int) then
      (k135_0 x30 rec31 (x29 ||| (s92 x30)))
    else
      (k135_0 x30 rec31 x29))
  else
    some ({ S0 with asks := (IntKind.wrap .i64 (S0.asks + (1 : Int))) }, x29))
def l135_1 (n_ : Nat) (S0 : GMS) (r22 : List Int) : Nat → (BitVec 32) → Int → Option (GMS × BitVec 32)
  | 0 => fun _ _ => none
  | k + 1 => l135_1_st n_ S0 r22 (l135_1 n_ S0 r22 k)
def s135 (n_ : Nat) (S0 : GMS) : Option (GMS × BitVec 32) :=
  (s161 n_ ({ S0 with asks := (IntKind.wrap .i64 (S0.asks + (1 : Int))) })).bind fun r22 =>
    (l135_1 n_ S0 r22 n_ (0 : BitVec 32) (0 : Int))
/-! ### by hand: the model's Order -/
/-- The cells of a round that the set holds, among the first c. -/
def ordRow (l : List Int) (z : BitVec 32) (round : Int) (c : Nat) : List Int :=
  (List.range c).filterMap fun i => if (l.getD i 0) = round ∧ (((z &&& s92 (i : Int)).toNat : Int) ≠ 0) then some (i : Int) else none
def ordAll (l : List Int) (z : BitVec 32) (r : Nat) : List Int := (List.range r).flatMap fun (q : Nat) => ordRow l z (q : Int) 24
def s136 (n_ : Nat) (S0 : GMS) (z1 : BitVec 32) : Option (GMS × List Int) :=
  (s161 n_ { S0 with asks := IntKind.wrap .i64 (S0.asks + 1) }).bind fun l =>
    ck (24 ≤ l.length) (some ({ S0 with asks := IntKind.wrap .i64 (S0.asks + 1) }, ordAll l z1 24))
/-- e2e/api.number -/
def s239 (z0 : ValT) : Int × Bool :=
  (if z0.kind = (1 : Int) then
    (z0.n, true)
  else
    ((0 : Int), decide (z0.kind = (0 : Int))))
/-- e2e/api.Unary -/
def s226 (z0 : Int) (z1 : ValT) : Option ValT :=
  (if z1.kind = (4 : Int) then
    some z1
  else
    (if z0 = (8 : Int) then
      (if z1.kind = (3 : Int) then
        some (s232 (decide (z1.n = (0 : Int))))
      else
        some (s131 (5 : Int)))
    else
      (if z0 = (10 : Int) then
        (if z1.kind = (2 : Int) then
          some (s200 (z1.s.length : Int))
        else
          (if z1.kind = (0 : Int) then
            some (s200 (z1.s.length : Int))
          else
            some (s131 (5 : Int))))
      else
        (if ((s239 z1).2) = true then
          (if z0 = (9 : Int) then
            (if (0 : Int) ≤ ((s239 z1).1) then
              some (s200 ((s239 z1).1))
            else
              ck (i64ok (-((s239 z1).1))) <|
                some (s200 (-((s239 z1).1))))
          else
            ck (i64ok (-((s239 z1).1))) <|
              some (s200 (-((s239 z1).1))))
        else
          some (s131 (5 : Int))))))
/-- e2e/api.Binary -/
def k227_0 (z0 : Int) (x67 : Int) : Option ValT :=
  (if z0 = (1 : Int) then
    some (s232 (decide (x67 = (0 : Int))))
  else
    (if z0 = (2 : Int) then
      some (s232 (!decide (x67 = (0 : Int))))
    else
      (if z0 = (3 : Int) then
        some (s232 (decide (x67 < (0 : Int))))
      else
        (if z0 = (4 : Int) then
          some (s232 (decide (x67 ≤ (0 : Int))))
        else
          (if z0 = (5 : Int) then
            some (s232 (decide ((0 : Int) < x67)))
          else
            some (s232 (decide ((0 : Int) ≤ x67))))))))
def s227 (z0 : Int) (z1 : ValT) (z2 : ValT) : Option ValT :=
  (if z1.kind = (4 : Int) then
    some z1
  else
    (if z2.kind = (4 : Int) then
      some z2
    else
      (if (7 : Int) ≤ z0 then
        (if ((s239 z1).2) = true then
          (if ((s239 z2).2) = true then
            (if z0 = (7 : Int) then
              ck (i64ok (((s239 z1).1) + ((s239 z2).1))) <|
                some (s238 (((s239 z1).1) + ((s239 z2).1)))
            else
              (if z0 = (8 : Int) then
                ck (i64ok (((s239 z1).1) - ((s239 z2).1))) <|
                  some (s238 (((s239 z1).1) - ((s239 z2).1)))
              else
                (if z0 = (9 : Int) then
                  ck (i64ok (((s239 z1).1) * ((s239 z2).1))) <|
                    some (s238 (((s239 z1).1) * ((s239 z2).1)))
                else
                  (if ((s239 z2).1) = (0 : Int) then
                    some (s131 (3 : Int))
                  else
                    ck (((s239 z2).1) ≠ 0) <|
                      ck (i64ok (Int.tdiv ((s239 z1).1) ((s239 z2).1))) <|
                      some (s238 (Int.tdiv ((s239 z1).1) ((s239 z2).1)))))))
          else
            some (s131 (5 : Int)))
        else
          some (s131 (5 : Int)))
      else
        (if ((s239 z1).2) = true then
          (if ((s239 z2).2) = true then
            (if ((s239 z1).1) < ((s239 z2).1) then
              (k227_0 z0 (-1 : Int))
            else
              (if ((s239 z2).1) < ((s239 z1).1) then
                (k227_0 z0 (1 : Int))
              else
                (k227_0 z0 (0 : Int))))
          else
            (if z1.kind = (2 : Int) then
              (if z2.kind = (2 : Int) then
                (if (Op.bytesLess z1.s z2.s) = true then
                  (k227_0 z0 (-1 : Int))
                else
                  (if (z1.s == z2.s) = true then
                    (k227_0 z0 (0 : Int))
                  else
                    (k227_0 z0 (1 : Int))))
              else
                (if z2.kind = (0 : Int) then
                  (if (Op.bytesLess z1.s z2.s) = true then
                    (k227_0 z0 (-1 : Int))
                  else
                    (if (z1.s == z2.s) = true then
                      (k227_0 z0 (0 : Int))
                    else
                      (k227_0 z0 (1 : Int))))
                else
                  (if z1.kind = (3 : Int) then
                    (if z2.kind = (3 : Int) then
                      ck (i64ok (z1.n - z2.n)) <|
                        (k227_0 z0 (z1.n - z2.n))
                    else
                      some (s131 (5 : Int)))
                  else
                    some (s131 (5 : Int)))))
            else
              (if z1.kind = (0 : Int) then
                (if z2.kind = (2 : Int) then
                  (if (Op.bytesLess z1.s z2.s) = true then
                    (k227_0 z0 (-1 : Int))
                  else
                    (if (z1.s == z2.s) = true then
                      (k227_0 z0 (0 : Int))
                    else
                      (k227_0 z0 (1 : Int))))
                else
                  (if z2.kind = (0 : Int) then
                    (if (Op.bytesLess z1.s z2.s) = true then
                      (k227_0 z0 (-1 : Int))
                    else
                      (if (z1.s == z2.s) = true then
                        (k227_0 z0 (0 : Int))
                      else
                        (k227_0 z0 (1 : Int))))
                  else
                    (if z1.kind = (3 : Int) then
                      (if z2.kind = (3 : Int) then
                        ck (i64ok (z1.n - z2.n)) <|
                          (k227_0 z0 (z1.n - z2.n))
                      else
                        some (s131 (5 : Int)))
                    else
                      some (s131 (5 : Int)))))
              else
                (if z1.kind = (3 : Int) then
                  (if z2.kind = (3 : Int) then
                    ck (i64ok (z1.n - z2.n)) <|
                      (k227_0 z0 (z1.n - z2.n))
                  else
                    some (s131 (5 : Int)))
                else
                  some (s131 (5 : Int))))))
        else
          (if z1.kind = (2 : Int) then
            (if z2.kind = (2 : Int) then
              (if (Op.bytesLess z1.s z2.s) = true then
                (k227_0 z0 (-1 : Int))
              else
                (if (z1.s == z2.s) = true then
                  (k227_0 z0 (0 : Int))
                else
                  (k227_0 z0 (1 : Int))))
            else
              (if z2.kind = (0 : Int) then
                (if (Op.bytesLess z1.s z2.s) = true then
                  (k227_0 z0 (-1 : Int))
                else
                  (if (z1.s == z2.s) = true then
                    (k227_0 z0 (0 : Int))
                  else
                    (k227_0 z0 (1 : Int))))
              else
                (if z1.kind = (3 : Int) then
                  (if z2.kind = (3 : Int) then
                    ck (i64ok (z1.n - z2.n)) <|
                      (k227_0 z0 (z1.n - z2.n))
                  else
                    some (s131 (5 : Int)))
                else
                  some (s131 (5 : Int)))))
          else
            (if z1.kind = (0 : Int) then
              (if z2.kind = (2 : Int) then
                (if (Op.bytesLess z1.s z2.s) = true then
                  (k227_0 z0 (-1 : Int))
                else
                  (if (z1.s == z2.s) = true then
                    (k227_0 z0 (0 : Int))
                  else
                    (k227_0 z0 (1 : Int))))
              else
                (if z2.kind = (0 : Int) then
                  (if (Op.bytesLess z1.s z2.s) = true then
                    (k227_0 z0 (-1 : Int))
                  else
                    (if (z1.s == z2.s) = true then
                      (k227_0 z0 (0 : Int))
                    else
                      (k227_0 z0 (1 : Int))))
                else
                  (if z1.kind = (3 : Int) then
                    (if z2.kind = (3 : Int) then
                      ck (i64ok (z1.n - z2.n)) <|
                        (k227_0 z0 (z1.n - z2.n))
                    else
                      some (s131 (5 : Int)))
                  else
                    some (s131 (5 : Int)))))
            else
              (if z1.kind = (3 : Int) then
                (if z2.kind = (3 : Int) then
                  ck (i64ok (z1.n - z2.n)) <|
                    (k227_0 z0 (z1.n - z2.n))
                else
                  some (s131 (5 : Int)))
              else
                some (s131 (5 : Int)))))))))
/-- e2e/api.Choose -/
def s228 (z0 : ValT) (z1 : ValT) (z2 : ValT) : ValT :=
  (if z0.kind = (4 : Int) then
    z0
  else
    (if z0.kind = (3 : Int) then
      (if z0.n = (1 : Int) then
        z1
      else
        z2)
    else
      (s131 (5 : Int))))
/-- e2e/api.Take -/
def k240_4 (z2 : ValT) (t115 : FoldT) : Option FoldT :=
  ck (i64ok (t115.sum + z2.n)) <|
    ck (i64ok (t115.count + (1 : Int))) <|
    some ({ t115 with sum := t115.sum + z2.n, count := t115.count + (1 : Int) })

def k240_5 (z2 : ValT) (t100 : FoldT) : Option FoldT :=
  (if t100.count = (0 : Int) then
    (k240_4 z2 ({ t100 with max := z2.n }))
  else
    (if t100.max < z2.n then
      (k240_4 z2 ({ t100 with max := z2.n }))
    else
      (k240_4 z2 t100)))
def s240 (z0 : FoldT) (z1 : Int) (z2 : ValT) (z3 : Bool) : Option FoldT :=
  (if z0.bad.kind = (4 : Int) then
    some z0
  else
    (if z2.kind = (4 : Int) then
      some ({ z0 with bad := z2 })
    else
      (if z1 = (6 : Int) then
        (if z2.kind = (3 : Int) then
          (if z0.all = true then
            (if z0.some = true then
              some ({ z0 with all := decide (z2.n = (1 : Int)), some := true })
            else
              some ({ z0 with all := decide (z2.n = (1 : Int)), some := decide (z2.n = (1 : Int)) }))
          else
            (if z0.some = true then
              some ({ z0 with all := false, some := true })
            else
              some ({ z0 with all := false, some := decide (z2.n = (1 : Int)) })))
        else
          some ({ z0 with bad := (s131 (5 : Int)) }))
      else
        (if z1 = (7 : Int) then
          (if z2.kind = (3 : Int) then
            (if z0.all = true then
              (if z0.some = true then
                some ({ z0 with all := decide (z2.n = (1 : Int)), some := true })
              else
                some ({ z0 with all := decide (z2.n = (1 : Int)), some := decide (z2.n = (1 : Int)) }))
            else
              (if z0.some = true then
                some ({ z0 with all := false, some := true })
              else
                some ({ z0 with all := false, some := decide (z2.n = (1 : Int)) })))
          else
            some ({ z0 with bad := (s131 (5 : Int)) }))
        else
          (if z2.kind = (0 : Int) then
            some z0
          else
            (if z2.kind = (1 : Int) then
              (if z0.count = (0 : Int) then
                (k240_5 z2 ({ z0 with min := z2.n }))
              else
                (if z2.n < z0.min then
                  (k240_5 z2 ({ z0 with min := z2.n }))
                else
                  (k240_5 z2 z0)))
            else
              (if z3 = true then
                some z0
              else
                some ({ z0 with bad := (s131 (5 : Int)) }))))))))
/-- e2e/api.Folded -/
def s230 (z0 : FoldT) (z1 : Int) : ValT :=
  (if z0.bad.kind = (4 : Int) then
    z0.bad
  else
    (if z1 = (1 : Int) then
      (s238 z0.sum)
    else
      (if z1 = (2 : Int) then
        (s200 z0.min)
      else
        (if z1 = (3 : Int) then
          (s200 z0.max)
        else
          (if z1 = (4 : Int) then
            (s200 z0.count)
          else
            (if z1 = (6 : Int) then
              (s232 z0.all)
            else
              (s232 z0.some)))))))
def K204 (rec_204 : (List NodeT) → Nat → Int → (List ValT) → Nat → Option ValT) : Prop := ∀ (b0 : Nat) (a0 : List NodeT) (m0 c0 : Nat) (z1 : Int) (b2 : Nat) (a2 : List ValT) (m2 c2 : Nat) (r_ : ValT) (h : rec_204 a0 m0 z1 a2 m2 = some r_) (F : List Ent) (H : Heap) (R : Value → Heap → Prop)
    (hO : Own H [cellE 153 b0 (List.flatMap encNode a0), cellE 94 b2 (List.flatMap encVal a2)] F)
    (hR : ∀ (H' : Heap) , Own H' [cellE 153 b0 (List.flatMap encNode a0), cellE 94 b2 (List.flatMap encVal a2)] F → R (.agg ⟨encVal r_⟩) H'),
 HCalls Tryz.prog 204 #[Value.slice (some ⟨b0, 0, none⟩) m0 c0, I z1, Value.slice (some ⟨b2, 0, none⟩) m2 c2] H R
def K229 (rec_229 : (List NodeT) → Nat → Int → Int → (List ValT) → Nat → Option FoldT) : Prop := ∀ (b0 : Nat) (a0 : List NodeT) (m0 c0 : Nat) (z1 : Int) (z2 : Int) (b3 : Nat) (a3 : List ValT) (m3 c3 : Nat) (r_ : FoldT) (h : rec_229 a0 m0 z1 z2 a3 m3 = some r_) (F : List Ent) (H : Heap) (R : Value → Heap → Prop)
    (hO : Own H [cellE 153 b0 (List.flatMap encNode a0), cellE 94 b3 (List.flatMap encVal a3)] F)
    (hR : ∀ (H' : Heap) , Own H' [cellE 153 b0 (List.flatMap encNode a0), cellE 94 b3 (List.flatMap encVal a3)] F → R (.agg ⟨encFold r_⟩) H'),
 HCalls Tryz.prog 229 #[Value.slice (some ⟨b0, 0, none⟩) m0 c0, I z1, I z2, Value.slice (some ⟨b3, 0, none⟩) m3 c3] H R
/-- e2e/api.worth -/
def s204_b (n_ : Nat) (rec_204 : (List NodeT) → Nat → Int → (List ValT) → Nat → Option ValT) (rec_229 : (List NodeT) → Nat → Int → Int → (List ValT) → Nat → Option FoldT) (a0 : List NodeT) (m0 : Nat) (z1 : Int) (a2 : List ValT) (m2 : Nat) : Option ValT :=
  (getN a0 m0 z1).bind fun x22 =>
    (if x22.kind = (1 : Int) then
    some (s200 x22.n)
  else
    (if x22.kind = (2 : Int) then
      some (⟨(3 : Int), x22.n, ([] : List UInt8)⟩ : ValT)
    else
      (if x22.kind = (3 : Int) then
        (if (s116 x22.r1) = true then
          (s217 x22.r1).bind fun r40 =>
            (getN a2 m2 r40).bind fun x43 =>
            some x43
        else
          some (s131 (2 : Int)))
      else
        (if x22.kind = (6 : Int) then
          (rec_204 a0 m0 x22.a a2 m2).bind fun r48 =>
            (s226 (0 : Int) r48).bind fun r53 =>
            some r53
        else
          (if x22.kind = (7 : Int) then
            (rec_204 a0 m0 x22.a a2 m2).bind fun r59 =>
              (rec_204 a0 m0 x22.b a2 m2).bind fun r64 =>
              (s227 x22.op r59 r64).bind fun r69 =>
              some r69
          else
            (if x22.kind = (8 : Int) then
              (if x22.op = (5 : Int) then
                (getN a0 m0 x22.a).bind fun x77 =>
                  (getN a0 m0 x77.b).bind fun x81 =>
                  (getN a0 m0 x81.b).bind fun x85 =>
                  (rec_204 a0 m0 x85.a a2 m2).bind fun r89 =>
                  (rec_204 a0 m0 x81.a a2 m2).bind fun r94 =>
                  (rec_204 a0 m0 x77.a a2 m2).bind fun r99 =>
                  some (s228 r89 r94 r99)
              else
                (if x22.op = (8 : Int) then
                  (getN a0 m0 x22.a).bind fun x141 =>
                    (rec_204 a0 m0 x141.a a2 m2).bind fun r143 =>
                    (s226 x22.op r143).bind fun r148 =>
                    some r148
                else
                  (if x22.op = (9 : Int) then
                    (getN a0 m0 x22.a).bind fun x130 =>
                      (rec_204 a0 m0 x130.a a2 m2).bind fun r132 =>
                      (s226 x22.op r132).bind fun r137 =>
                      some r137
                  else
                    (if x22.op = (10 : Int) then
                      (getN a0 m0 x22.a).bind fun x112 =>
                        (rec_204 a0 m0 x112.a a2 m2).bind fun r114 =>
                        (s226 x22.op r114).bind fun r119 =>
                        some r119
                    else
                      (rec_229 a0 m0 x22.a x22.op a2 m2).bind fun r123 =>
                        some (s230 r123 x22.op)))))
            else
              some (s131 (2 : Int))))))))
/-- e2e/api.fold -/
def k229_2 (x85 : Int) (rec86 : Int → FoldT → Option FoldT) (t102 : FoldT) : Option FoldT :=
  ck (i64ok (x85 + (1 : Int))) <|
    (rec86 (x85 + (1 : Int)) t102)

def l229_3_st (n_ : Nat) (z2 : Int) (a3 : List ValT) (m3 : Nat) (r47 : BitVec 32 × Bool) (rec86 : Int → FoldT → Option FoldT) (x85 : Int) (t82 : FoldT) : Option FoldT :=
  (if x85 < (24 : Int) then
    (if ((r47.1 &&& (s92 x85)).toNat : Int) = (0 : Int) then
      (k229_2 x85 rec86 t82)
    else
      (getN a3 m3 x85).bind fun x109 =>
        (s240 t82 z2 x109 true).bind fun r111 =>
        (k229_2 x85 rec86 r111))
  else
    some t82)
def l229_3 (n_ : Nat) (z2 : Int) (a3 : List ValT) (m3 : Nat) (r47 : BitVec 32 × Bool) : Nat → Int → FoldT → Option FoldT
  | 0 => fun _ _ => none
  | k + 1 => l229_3_st n_ z2 a3 m3 r47 (l229_3 n_ z2 a3 m3 r47 k)
def s229_b (n_ : Nat) (rec_204 : (List NodeT) → Nat → Int → (List ValT) → Nat → Option ValT) (rec_229 : (List NodeT) → Nat → Int → Int → (List ValT) → Nat → Option FoldT) (a0 : List NodeT) (m0 : Nat) (z1 : Int) (z2 : Int) (a3 : List ValT) (m3 : Nat) : Option FoldT :=
  (if z1 < (0 : Int) then
    some (⟨(⟨(0 : Int), (0 : Int), ([] : List UInt8)⟩ : ValT), (0 : Int), (0 : Int), (0 : Int), (0 : Int), true, false⟩ : FoldT)
  else
    (getN a0 m0 z1).bind fun x25 =>
      (rec_229 a0 m0 x25.b z2 a3 m3).bind fun r27 =>
      (getN a0 m0 x25.a).bind fun x32 =>
      (if x32.kind = (4 : Int) then
      (s149 n_ x32.r1 x32.r2).bind fun r47 =>
        (if r47.2 = true then
        (l229_3 n_ z2 a3 m3 r47 n_ (0 : Int) r27)
      else
        (s240 r27 z2 (s131 (2 : Int)) true).bind fun r55 =>
          some r55)
    else
      (rec_204 a0 m0 x25.a a3 m3).bind fun r38 =>
        (s240 r27 z2 r38 false).bind fun r43 =>
        some r43))
def rc204 (n_ : Nat) : Nat → ((List NodeT) → Nat → Int → (List ValT) → Nat → Option ValT) × ((List NodeT) → Nat → Int → Int → (List ValT) → Nat → Option FoldT)
  | 0 => ((fun _ _ _ _ _ => none), (fun _ _ _ _ _ _ => none))
  | k + 1 => (s204_b n_ ((rc204 n_ k).1) ((rc204 n_ k).2), s229_b n_ ((rc204 n_ k).1) ((rc204 n_ k).2))
def s204 (n_ : Nat) : (List NodeT) → Nat → Int → (List ValT) → Nat → Option ValT := (rc204 n_ n_).1
def s229 (n_ : Nat) : (List NodeT) → Nat → Int → Int → (List ValT) → Nat → Option FoldT := (rc204 n_ n_).2
/-- e2e/api.Eval -/
def s162 (n_ : Nat) (t0 : TreeV) (a1 : List ValT) (m1 : Nat) : Option ValT :=
  (s204 n_ t0.nodes t0.nodes.length t0.root a1 m1).bind fun r23 =>
    some r23
/-- (*e2e/valm.Evaluator).Cell -/
def l137_0_st (n_ : Nat) (S0 : VMS) (z1 : List UInt8) (a2 : List ValT) (m2 : Nat) (rec32 : Int → Option (VMS × ValT × Int)) (x31 : Int) : Option (VMS × ValT × Int) :=
  (if x31 < (24 : Int) then
    (getN a2 m2 x31).bind fun x36 =>
      (if (s155 x36) = true then
      ck (i64ok (x31 + (1 : Int))) <|
        (rec32 (x31 + (1 : Int)))
    else
      some ({ S0 with cells := (IntKind.wrap .i64 (S0.cells + (1 : Int))) }, (⟨(0 : Int), (0 : Int), ([] : List UInt8)⟩ : ValT), (10 : Int)))
  else
    (if (z1 == ([] : List UInt8)) = true then
      (s156 n_ z1).bind fun r98 =>
        some ({ S0 with cells := (IntKind.wrap .i64 (S0.cells + (1 : Int))) }, r98, (0 : Int))
    else
      ck (0 ≤ (0 : Int) ∧ (0 : Int) < (z1.length : Int)) <|
        (if ((List.getD z1 (Int.toNat (0 : Int)) 0).toNat : Int) = (61 : Int) then
        ck (0 ≤ (1 : Int) ∧ (1 : Int) ≤ (z1.length : Int)) <|
          (s120 n_ S0.f (List.drop (Int.toNat (1 : Int)) z1)).bind fun r53 =>
          (if r53.2.err = (0 : Int) then
          ck (0 < r53.2.nodes.length) <|
            (s162 n_ r53.2 a2 m2).bind fun r76 =>
            some ({ S0 with f := r53.1, cells := (IntKind.wrap .i64 (S0.cells + (1 : Int))) }, r76, (0 : Int))
        else
          some ({ S0 with f := r53.1, cells := (IntKind.wrap .i64 (S0.cells + (1 : Int))) }, (s131 (1 : Int)), (0 : Int)))
      else
        (s156 n_ z1).bind fun r48 =>
          some ({ S0 with cells := (IntKind.wrap .i64 (S0.cells + (1 : Int))) }, r48, (0 : Int)))))
def l137_0 (n_ : Nat) (S0 : VMS) (z1 : List UInt8) (a2 : List ValT) (m2 : Nat) : Nat → Int → Option (VMS × ValT × Int)
  | 0 => fun _ => none
  | k + 1 => l137_0_st n_ S0 z1 a2 m2 (l137_0 n_ S0 z1 a2 m2 k)
def s137 (n_ : Nat) (S0 : VMS) (z1 : List UInt8) (a2 : List ValT) (m2 : Nat) : Option (VMS × ValT × Int) :=
  (if (40 : Int) < (z1.length : Int) then
    some ({ S0 with cells := (IntKind.wrap .i64 (S0.cells + (1 : Int))) }, (⟨(0 : Int), (0 : Int), ([] : List UInt8)⟩ : ValT), (1 : Int))
  else
    (if (m2 : Int) = (24 : Int) then
      (l137_0 n_ S0 z1 a2 m2 n_ (0 : Int))
    else
      some ({ S0 with cells := (IntKind.wrap .i64 (S0.cells + (1 : Int))) }, (⟨(0 : Int), (0 : Int), ([] : List UInt8)⟩ : ValT), (10 : Int))))
/-- (*e2e/calcm.Calc).sheet -/
def k114_2 (x55 : Int) (rec56 : Int → (List ValT) → Option KMS) (a70 : List ValT) : Option KMS :=
  ck (i64ok (x55 + (1 : Int))) <|
    (rec56 (x55 + (1 : Int)) a70)

def l114_3_st (n_ : Nat) (r81 : GMS × List Int) (rec184 : Int → (List ValT) → KMS → Option KMS) (x183 : Int) (a178 : List ValT) (S179 : KMS) : Option KMS :=
  (if x183 < ((r81.2.length : Nat) : Int) then
    ck (0 < r81.2.length) <|
      (getN r81.2 r81.2.length x183).bind fun x191 =>
      (getN S179.raw 24 x191).bind fun x193 =>
      (s137 n_ S179.v x193 a178 24).bind fun r195 =>
      (getN a178 24 x191).bind fun x221 =>
      ck (i64ok (x183 + (1 : Int))) <|
      (rec184 (x183 + (1 : Int)) (List.set a178 (Int.toNat x191) r195.2.1) ({ S179 with v := r195.1 }))
  else
    some ({ S179 with shown := a178 }))
def l114_3 (n_ : Nat) (r81 : GMS × List Int) : Nat → Int → (List ValT) → KMS → Option KMS
  | 0 => fun _ _ _ => none
  | k + 1 => l114_3_st n_ r81 (l114_3 n_ r81 k)

def l114_4_st (n_ : Nat) (r21 : KMS × GMS) (r27 : GMS × BitVec 32) (rec56 : Int → (List ValT) → Option KMS) (x55 : Int) (a52 : List ValT) : Option KMS :=
  (if x55 < (24 : Int) then
    (if ((r27.2 &&& (s92 x55)).toNat : Int) = (0 : Int) then
      (k114_2 x55 rec56 a52)
    else
      (getN a52 24 x55).bind fun x78 =>
        (k114_2 x55 rec56 (List.set a52 (Int.toNat x55) (s131 (6 : Int)))))
  else
    (s136 n_ r27.1 (4294967295 : BitVec 32)).bind fun r81 =>
      (l114_3 n_ r81 n_ (0 : Int) a52 r21.1))
def l114_4 (n_ : Nat) (r21 : KMS × GMS) (r27 : GMS × BitVec 32) : Nat → Int → (List ValT) → Option KMS
  | 0 => fun _ _ => none
  | k + 1 => l114_4_st n_ r21 r27 (l114_4 n_ r21 r27 k)
def s114 (n_ : Nat) (S0 : KMS) : Option KMS :=
  (s134 n_ S0).bind fun r21 =>
    (s135 n_ r21.2).bind fun r27 =>
    (l114_4 n_ r21 r27 n_ (0 : Int) (List.replicate 24 dVal))
/-- (*e2e/calcm.Calc).Set -/
def s93 (n_ : Nat) (S0 : KMS) (z1 : Int) (z2 : List UInt8) : Option (KMS × Int) :=
  (if (40 : Int) < (z2.length : Int) then
    some ({ S0 with sets := (IntKind.wrap .i64 (S0.sets + (1 : Int))) }, (1 : Int))
  else
    (if z1 < (0 : Int) then
      some ({ S0 with sets := (IntKind.wrap .i64 (S0.sets + (1 : Int))) }, (9 : Int))
    else
      (if (24 : Int) ≤ z1 then
        some ({ S0 with sets := (IntKind.wrap .i64 (S0.sets + (1 : Int))) }, (9 : Int))
      else
        (getN S0.raw 24 z1).bind fun x28 =>
          (s114 n_ ({ S0 with raw := (List.set S0.raw (Int.toNat z1) z2), sets := (IntKind.wrap .i64 (S0.sets + (1 : Int))) })).bind fun r31 =>
          some (r31, (0 : Int)))))
/-- (*e2e/editm.Editor).Set -/
def s74 (n_ : Nat) (S0 : EMS) (z1 : Int) (z2 : List UInt8) : Option (EMS × Int) :=
  (if (40 : Int) < (z2.length : Int) then
    some ({ S0 with sets := (IntKind.wrap .i64 (S0.sets + (1 : Int))) }, (1 : Int))
  else
    (s93 n_ S0.k z1 z2).bind fun r24 =>
      some ({ S0 with k := r24.1, sets := (IntKind.wrap .i64 (S0.sets + (1 : Int))) }, r24.2))
/-! ### by hand: the model's past -/
def s75 (S0 : BMS) (a1 : List (List UInt8)) : Option BMS :=
  ck (S0.past.length < 900) (some { S0 with past := if 6 < S0.past.length + 1 then (S0.past ++ [a1]).tail else S0.past ++ [a1], next := [] })
def q75 (z0 : Nat) (R : Value → Heap → Prop) (a' : Option Addr) (m' k' : Nat) (H' : Heap) : Prop :=
  Wr H' z0 1 1 ∧ ∀ H12 : Heap, H12 = hset H' z0 1 (Value.slice a' m' k') → ∃ M13 : List Value → Heap → Prop, (∃ (a14 : Option Addr) (m15 k16 : Nat), rd H12 z0 1 = some (Value.slice a14 m15 k16) ∧ (((decide ((6 : Int) < (m15 : Int))) = true → ∃ (a17 : Option Addr) (m18 k19 : Nat), rd H12 z0 1 = some (Value.slice a17 m18 k19) ∧ ∃ p20 o21 : Nat, (a17 : Option Addr) = some ⟨p20, o21, none⟩ ∧ 0 ≤ (1 : Int) ∧ (1 : Int) ≤ (m18 : Nat) ∧ (1 : Int) < (k19 : Nat) ∧ Wr H12 z0 1 1 ∧ ∀ H22 : Heap, H22 = hset H12 z0 1 (Value.slice (some ⟨p20, o21 + Int.toNat (1 : Int) * 1, none⟩) (m18 - Int.toNat (1 : Int)) (k19 - Int.toNat (1 : Int))) → M13 [] H22) ∧ ((decide ((6 : Int) < (m15 : Int))) = false → M13 [] H12))) ∧ ∀ (H23 : Heap) (u24 : Nat → Value), M13 [] H23 → Wr H23 z0 2 1 ∧ ∀ H25 : Heap, H25 = hset H23 z0 2 (Value.slice none 0 0) → R (.tuple #[]) H25
/-- (*e2e/bookm.Book).Set -/
def s49 (n_ : Nat) (S0 : BMS) (z1 : Int) (z2 : List UInt8) : Option (BMS × Int) :=
  (if (40 : Int) < (z2.length : Int) then
    some (S0, (1 : Int))
  else
    (s73 n_ S0).bind fun r23 =>
      (s74 n_ S0.e z1 z2).bind fun r28 =>
      (if r28.2 = (0 : Int) then
      (s75 ({ S0 with e := r28.1 }) r23).bind fun r34 =>
        some (r34, r28.2)
    else
      some ({ S0 with e := r28.1 }, r28.2)))
/-- e2e/api.EditOK -/
def s94 (z0 : Int) (z1 : Int) : Bool :=
  (if z0 = (1 : Int) then
    (if (0 : Int) ≤ z1 then
      decide (z1 < (6 : Int))
    else
      false)
  else
    (if z0 = (2 : Int) then
      (if (0 : Int) ≤ z1 then
        decide (z1 < (6 : Int))
      else
        false)
    else
      (if z0 = (3 : Int) then
        (if (0 : Int) ≤ z1 then
          decide (z1 < (4 : Int))
        else
          false)
      else
        (if z0 = (4 : Int) then
          (if (0 : Int) ≤ z1 then
            decide (z1 < (4 : Int))
          else
            false)
        else
          false))))
/-- e2e/edit.gapOf -/
def k95_1 (z0 : Int) (t41 : GapT) : GapT :=
  (if z0 = (2 : Int) then
    { t41 with step := (-1 : Int) }
  else
    (if z0 = (4 : Int) then
      { t41 with step := (-1 : Int) }
    else
      t41))
def s95 (z0 : Int) (z1 : Int) : GapT :=
  (if z0 = (3 : Int) then
    (k95_1 z0 (⟨false, (4 : Int), z1, (1 : Int)⟩ : GapT))
  else
    (if z0 = (4 : Int) then
      (k95_1 z0 (⟨false, (4 : Int), z1, (1 : Int)⟩ : GapT))
    else
      (k95_1 z0 (⟨true, (6 : Int), z1, (1 : Int)⟩ : GapT))))
/-- (e2e/edit.gap).source -/
def k96_0 (z0 : GapT) (z1 : Int) (x28 : Int) : Option Int :=
  (if z0.rows = true then
    ck (i64ok (x28 * (4 : Int))) <|
      ck (i64ok ((x28 * (4 : Int)) + (Int.tmod z1 (4 : Int)))) <|
      some ((x28 * (4 : Int)) + (Int.tmod z1 (4 : Int)))
  else
    ck (i64ok ((Int.tdiv z1 (4 : Int)) * (4 : Int))) <|
      ck (i64ok (((Int.tdiv z1 (4 : Int)) * (4 : Int)) + x28)) <|
      some (((Int.tdiv z1 (4 : Int)) * (4 : Int)) + x28))

def k96_1 (z0 : GapT) (z1 : Int) (x25 : Int) : Option Int :=
  (if z0.at_ ≤ x25 then
    (if (0 : Int) < z0.step then
      (if x25 = z0.at_ then
        some (-1 : Int)
      else
        ck (i64ok (x25 - z0.step)) <|
          (if z0.n ≤ (x25 - z0.step) then
          some (-1 : Int)
        else
          (k96_0 z0 z1 (x25 - z0.step))))
    else
      ck (i64ok (x25 - z0.step)) <|
        (if z0.n ≤ (x25 - z0.step) then
        some (-1 : Int)
      else
        (k96_0 z0 z1 (x25 - z0.step))))
  else
    (k96_0 z0 z1 x25))
def s96 (z0 : GapT) (z1 : Int) : Option Int :=
  ck (i64ok (Int.tdiv z1 (4 : Int))) <|
    (if z0.rows = true then
    (k96_1 z0 z1 (Int.tdiv z1 (4 : Int)))
  else
    (k96_1 z0 z1 (Int.tmod z1 (4 : Int))))
/-- (*e2e/edit.Editor).tree -/
def s97 (n_ : Nat) (S0 : ES) (z1 : List UInt8) : Option (ES × TreeV × Bool) :=
  (if (z1.length : Int) = (0 : Int) then
    some (S0, (⟨[], (0 : Int), (0 : Int), (0 : Int)⟩ : TreeV), false)
  else
    ck (0 ≤ (0 : Int) ∧ (0 : Int) < (z1.length : Int)) <|
      (if ((List.getD z1 (Int.toNat (0 : Int)) 0).toNat : Int) = (61 : Int) then
      ck (0 ≤ (1 : Int) ∧ (1 : Int) ≤ (z1.length : Int)) <|
        (s115 n_ S0.f (List.drop (Int.toNat (1 : Int)) z1)).bind fun r30 =>
        some ({ S0 with f := r30.1 }, r30.2, decide (r30.2.err = (0 : Int)))
    else
      some (S0, (⟨[], (0 : Int), (0 : Int), (0 : Int)⟩ : TreeV), false)))
/-- e2e/edit.kill -/
def s125 (a0 : List NodeT) (i0 : Int) : Option (List NodeT) :=
  (Option.bind a0[Int.toNat i0]? fun x21 =>
    some (List.set a0 (Int.toNat i0) (⟨(5 : Int), (0 : Int), (-1 : Int), (-1 : Int), (0 : Int), (⟨(0 : Int), (0 : Int), false, false⟩ : RefT), (⟨(0 : Int), (0 : Int), false, false⟩ : RefT)⟩ : NodeT)))
/-- (e2e/edit.gap).low -/
def s179 (z0 : GapT) (z1 : Int) : Option Int :=
  (if (0 : Int) < z0.step then
    (if z0.at_ ≤ z1 then
      ck (i64ok (z1 + (1 : Int))) <|
        some (z1 + (1 : Int))
    else
      some z1)
  else
    (if z0.at_ < z1 then
      ck (i64ok (z1 - (1 : Int))) <|
        some (z1 - (1 : Int))
    else
      some z1))
/-- (e2e/edit.gap).high -/
def s180 (z0 : GapT) (z1 : Int) : Option Int :=
  (if z0.at_ ≤ z1 then
    ck (i64ok (z1 + z0.step)) <|
      some (z1 + z0.step)
  else
    some z1)
/-- (e2e/edit.gap).span -/
def k141_0 (r22 : Int) (x30 : Int) : Option (Int × Int × Bool) :=
  some (r22, x30, decide (r22 ≤ x30))
def s141 (z0 : GapT) (z1 : Int) (z2 : Int) : Option (Int × Int × Bool) :=
  (s179 z0 z1).bind fun r22 =>
    (s180 z0 z2).bind fun r25 =>
    (if z0.n ≤ r25 then
    ck (i64ok (z0.n - (1 : Int))) <|
      (k141_0 r22 (z0.n - (1 : Int)))
  else
    (k141_0 r22 r25))
/-- (e2e/edit.gap).shiftRef -/
def k117_0 (z0 : GapT) (a1 : List NodeT) (i1 : Int) (x22 : NodeT) (x26 : Int) : Option (List NodeT) :=
  (s141 z0 x26 x26).bind fun r27 =>
    (if r27.2.2 = true then
    (if z0.rows = true then
      some (List.set a1 (Int.toNat i1) ({ x22 with r1 := { x22.r1 with row := r27.1 } }))
    else
      some (List.set a1 (Int.toNat i1) ({ x22 with r1 := { x22.r1 with col := r27.1 } })))
  else
    (s125 a1 i1).bind fun r32 =>
      some r32)
def s117 (z0 : GapT) (a1 : List NodeT) (i1 : Int) : Option (List NodeT) :=
  (Option.bind a1[Int.toNat i1]? fun x22 =>
    (if z0.rows = true then
    (k117_0 z0 a1 i1 x22 x22.r1.row)
  else
    (k117_0 z0 a1 i1 x22 x22.r1.col)))
/-- (e2e/edit.gap).shiftRange -/
def k118_0 (z0 : GapT) (a1 : List NodeT) (i1 : Int) (x22 : NodeT) (x30 : Int) (x31 : Int) (x32 : Bool) : Option (List NodeT) :=
  (if x32 = true then
    (if z0.rows = true then
      some (List.set (List.set a1 (Int.toNat i1) ({ x22 with r1 := { x22.r1 with row := x30 } })) (Int.toNat i1) ({ x22 with r1 := { x22.r1 with row := x30 }, r2 := { x22.r2 with row := x31 } }))
    else
      some (List.set (List.set a1 (Int.toNat i1) ({ x22 with r1 := { x22.r1 with col := x30 } })) (Int.toNat i1) ({ x22 with r1 := { x22.r1 with col := x30 }, r2 := { x22.r2 with col := x31 } })))
  else
    (s125 a1 i1).bind fun r35 =>
      some r35)

def k118_1 (z0 : GapT) (a1 : List NodeT) (i1 : Int) (x22 : NodeT) (x26 : Int) (x27 : Int) : Option (List NodeT) :=
  (if x26 ≤ x27 then
    (s141 z0 x26 x27).bind fun r46 =>
      (k118_0 z0 a1 i1 x22 r46.1 r46.2.1 r46.2.2)
  else
    (s141 z0 x27 x26).bind fun r49 =>
      (k118_0 z0 a1 i1 x22 r49.2.1 r49.1 r49.2.2))
def s118 (z0 : GapT) (a1 : List NodeT) (i1 : Int) : Option (List NodeT) :=
  (Option.bind a1[Int.toNat i1]? fun x22 =>
    (if z0.rows = true then
    (k118_1 z0 a1 i1 x22 x22.r1.row x22.r2.row)
  else
    (k118_1 z0 a1 i1 x22 x22.r1.col x22.r2.col)))
/-- (e2e/edit.gap).shiftAll -/
def k98_2 (x49 : Int) (rec50 : Int → (List NodeT) → Option (List NodeT)) (a67 : List NodeT) : Option (List NodeT) :=
  ck (i64ok (x49 + (1 : Int))) <|
    (rec50 (x49 + (1 : Int)) a67)

def l98_3_st (n_ : Nat) (z0 : GapT) (m1 : Nat) (rec50 : Int → (List NodeT) → Option (List NodeT)) (x49 : Int) (a46 : List NodeT) : Option (List NodeT) :=
  (if x49 < (m1 : Int) then
    (getN a46 m1 x49).bind fun x71 =>
      (if x71.kind = (3 : Int) then
      (if (s116 x71.r1) = true then
        (s117 z0 a46 x49).bind fun r78 =>
          (k98_2 x49 rec50 r78)
      else
        (k98_2 x49 rec50 a46))
    else
      (if x71.kind = (4 : Int) then
        (if (s116 x71.r1) = true then
          (if (s116 x71.r2) = true then
            (s118 z0 a46 x49).bind fun r89 =>
              (k98_2 x49 rec50 r89)
          else
            (k98_2 x49 rec50 a46))
        else
          (k98_2 x49 rec50 a46))
      else
        (k98_2 x49 rec50 a46)))
  else
    some a46)
def l98_3 (n_ : Nat) (z0 : GapT) (m1 : Nat) : Nat → Int → (List NodeT) → Option (List NodeT)
  | 0 => fun _ _ => none
  | k + 1 => l98_3_st n_ z0 m1 (l98_3 n_ z0 m1 k)
def s98 (n_ : Nat) (z0 : GapT) (a1 : List NodeT) (m1 : Nat) : Option (List NodeT) :=
  (l98_3 n_ z0 m1 n_ (0 : Int) a1)
/-- e2e/api.named -/
def s210 (z0 : NodeT) : NodeT :=
  (if z0.kind = (1 : Int) then
    (⟨z0.kind, (0 : Int), (-1 : Int), (-1 : Int), z0.n, (⟨(0 : Int), (0 : Int), false, false⟩ : RefT), (⟨(0 : Int), (0 : Int), false, false⟩ : RefT)⟩ : NodeT)
  else
    (if z0.kind = (2 : Int) then
      (⟨z0.kind, (0 : Int), (-1 : Int), (-1 : Int), z0.n, (⟨(0 : Int), (0 : Int), false, false⟩ : RefT), (⟨(0 : Int), (0 : Int), false, false⟩ : RefT)⟩ : NodeT)
    else
      (if z0.kind = (3 : Int) then
        (⟨z0.kind, (0 : Int), (-1 : Int), (-1 : Int), (0 : Int), z0.r1, (⟨(0 : Int), (0 : Int), false, false⟩ : RefT)⟩ : NodeT)
      else
        (if z0.kind = (4 : Int) then
          { z0 with op := (0 : Int), a := (-1 : Int), b := (-1 : Int), n := (0 : Int) }
        else
          (if z0.kind = (6 : Int) then
            (⟨z0.kind, (0 : Int), z0.a, (-1 : Int), (0 : Int), (⟨(0 : Int), (0 : Int), false, false⟩ : RefT), (⟨(0 : Int), (0 : Int), false, false⟩ : RefT)⟩ : NodeT)
          else
            (if z0.kind = (7 : Int) then
              { z0 with n := (0 : Int), r1 := (⟨(0 : Int), (0 : Int), false, false⟩ : RefT), r2 := (⟨(0 : Int), (0 : Int), false, false⟩ : RefT) }
            else
              (if z0.kind = (8 : Int) then
                { z0 with b := (-1 : Int), r1 := (⟨(0 : Int), (0 : Int), false, false⟩ : RefT), r2 := (⟨(0 : Int), (0 : Int), false, false⟩ : RefT) }
              else
                (if z0.kind = (9 : Int) then
                  { z0 with op := (0 : Int), n := (0 : Int), r1 := (⟨(0 : Int), (0 : Int), false, false⟩ : RefT), r2 := (⟨(0 : Int), (0 : Int), false, false⟩ : RefT) }
                else
                  (⟨z0.kind, (0 : Int), (-1 : Int), (-1 : Int), (0 : Int), (⟨(0 : Int), (0 : Int), false, false⟩ : RefT), (⟨(0 : Int), (0 : Int), false, false⟩ : RefT)⟩ : NodeT)))))))))
def K181 (rec_181 : (List NodeT) → Nat → Int → Bool → Option Int) : Prop := ∀ (b0 : Nat) (a0 : List NodeT) (m0 c0 : Nat) (z1 : Int) (z2 : Bool) (r_ : Int) (h : rec_181 a0 m0 z1 z2 = some r_) (F : List Ent) (H : Heap) (R : Value → Heap → Prop)
    (hO : Own H [cellE 153 b0 (List.flatMap encNode a0)] F)
    (hR : ∀ (H' : Heap) , Own H' [cellE 153 b0 (List.flatMap encNode a0)] F → R (I r_) H'),
 HCalls Tryz.prog 181 #[Value.slice (some ⟨b0, 0, none⟩) m0 c0, I z1, Value.bool z2] H R
def K211 (rec_211 : (List NodeT) → Nat → Int → Int → Bool → Option Int) : Prop := ∀ (b0 : Nat) (a0 : List NodeT) (m0 c0 : Nat) (z1 : Int) (z2 : Int) (z3 : Bool) (r_ : Int) (h : rec_211 a0 m0 z1 z2 z3 = some r_) (F : List Ent) (H : Heap) (R : Value → Heap → Prop)
    (hO : Own H [cellE 153 b0 (List.flatMap encNode a0)] F)
    (hR : ∀ (H' : Heap) , Own H' [cellE 153 b0 (List.flatMap encNode a0)] F → R (I r_) H'),
 HCalls Tryz.prog 211 #[Value.slice (some ⟨b0, 0, none⟩) m0 c0, I z1, I z2, Value.bool z3] H R
/-- e2e/api.span -/
def s181_b (n_ : Nat) (rec_181 : (List NodeT) → Nat → Int → Bool → Option Int) (rec_211 : (List NodeT) → Nat → Int → Int → Bool → Option Int) (a0 : List NodeT) (m0 : Nat) (z1 : Int) (z2 : Bool) : Option Int :=
  (if z1 < (0 : Int) then
    some (-1 : Int)
  else
    (if (m0 : Int) ≤ z1 then
      some (-1 : Int)
    else
      (getN a0 m0 z1).bind fun x25 =>
        (if (eqCells (encNode x25) (encNode (s210 x25))) = true then
        (if x25.kind = (1 : Int) then
          (if x25.n < (0 : Int) then
            some (-1 : Int)
          else
            (if (999999999 : Int) < x25.n then
              some (-1 : Int)
            else
              some z1))
        else
          (if x25.kind = (2 : Int) then
            (if x25.n < (0 : Int) then
              some (-1 : Int)
            else
              (if (1 : Int) < x25.n then
                some (-1 : Int)
              else
                some z1))
          else
            (if x25.kind = (3 : Int) then
              some z1
            else
              (if x25.kind = (5 : Int) then
                some z1
              else
                (if x25.kind = (4 : Int) then
                  (if z2 = true then
                    some z1
                  else
                    some (-1 : Int))
                else
                  (if x25.kind = (6 : Int) then
                    ck (i64ok (z1 - (1 : Int))) <|
                      (if x25.a = (z1 - (1 : Int)) then
                      (rec_181 a0 m0 x25.a false).bind fun r58 =>
                        some r58
                    else
                      some (-1 : Int))
                  else
                    (if x25.kind = (7 : Int) then
                      (if x25.op < (1 : Int) then
                        some (-1 : Int)
                      else
                        (if (10 : Int) < x25.op then
                          some (-1 : Int)
                        else
                          ck (i64ok (z1 - (1 : Int))) <|
                            (if x25.b = (z1 - (1 : Int)) then
                            (rec_181 a0 m0 x25.b false).bind fun r70 =>
                              (if r70 < (0 : Int) then
                              some (-1 : Int)
                            else
                              ck (i64ok (r70 - (1 : Int))) <|
                                (if x25.a = (r70 - (1 : Int)) then
                                (rec_181 a0 m0 x25.a false).bind fun r78 =>
                                  some r78
                              else
                                some (-1 : Int)))
                          else
                            some (-1 : Int))))
                    else
                      (if x25.kind = (8 : Int) then
                        (if (s208 x25.op x25.n) = true then
                          ck (i64ok (z1 - (1 : Int))) <|
                            (if x25.a = (z1 - (1 : Int)) then
                            (rec_211 a0 m0 x25.a x25.n (s209 x25.op)).bind fun r90 =>
                              some r90
                          else
                            some (-1 : Int))
                        else
                          some (-1 : Int))
                      else
                        some (-1 : Int)))))))))
      else
        some (-1 : Int))))
/-- e2e/api.links -/
def s211_b (n_ : Nat) (rec_181 : (List NodeT) → Nat → Int → Bool → Option Int) (rec_211 : (List NodeT) → Nat → Int → Int → Bool → Option Int) (a0 : List NodeT) (m0 : Nat) (z1 : Int) (z2 : Int) (z3 : Bool) : Option Int :=
  (if z1 < (0 : Int) then
    some (-1 : Int)
  else
    (if (m0 : Int) ≤ z1 then
      some (-1 : Int)
    else
      (getN a0 m0 z1).bind fun x25 =>
        (if x25.kind = (9 : Int) then
        ck (i64ok (z1 - (1 : Int))) <|
          (if x25.a = (z1 - (1 : Int)) then
          (if (eqCells (encNode x25) (encNode (s210 x25))) = true then
            (rec_181 a0 m0 x25.a z3).bind fun r36 =>
              (if r36 < (0 : Int) then
              some (-1 : Int)
            else
              (if z2 = (1 : Int) then
                (if x25.b = (-1 : Int) then
                  some r36
                else
                  some (-1 : Int))
              else
                ck (i64ok (r36 - (1 : Int))) <|
                  (if x25.b = (r36 - (1 : Int)) then
                  ck (i64ok (z2 - (1 : Int))) <|
                    (rec_211 a0 m0 x25.b (z2 - (1 : Int)) z3).bind fun r49 =>
                    some r49
                else
                  some (-1 : Int))))
          else
            some (-1 : Int))
        else
          some (-1 : Int))
      else
        some (-1 : Int))))
def rc181 (n_ : Nat) : Nat → ((List NodeT) → Nat → Int → Bool → Option Int) × ((List NodeT) → Nat → Int → Int → Bool → Option Int)
  | 0 => ((fun _ _ _ _ => none), (fun _ _ _ _ _ => none))
  | k + 1 => (s181_b n_ ((rc181 n_ k).1) ((rc181 n_ k).2), s211_b n_ ((rc181 n_ k).1) ((rc181 n_ k).2))
def s181 (n_ : Nat) : (List NodeT) → Nat → Int → Bool → Option Int := (rc181 n_ n_).1
def s211 (n_ : Nat) : (List NodeT) → Nat → Int → Int → Bool → Option Int := (rc181 n_ n_).2
/-- e2e/api.TreeOK -/
def l142_0_st (n_ : Nat) (t0 : TreeV) (rec36 : Int → Option Bool) (x35 : Int) : Option Bool :=
  (if x35 < ((t0.nodes.length : Nat) : Int) then
    (getN t0.nodes t0.nodes.length x35).bind fun x40 =>
      (if x40.r1.col < (0 : Int) then
      some false
    else
      (if (25 : Int) < x40.r1.col then
        some false
      else
        (if x40.r1.row < (0 : Int) then
          some false
        else
          (if (98 : Int) < x40.r1.row then
            some false
          else
            (if x40.r2.col < (0 : Int) then
              some false
            else
              (if (25 : Int) < x40.r2.col then
                some false
              else
                (if x40.r2.row < (0 : Int) then
                  some false
                else
                  (if (98 : Int) < x40.r2.row then
                    some false
                  else
                    ck (i64ok (x35 + (1 : Int))) <|
                      (rec36 (x35 + (1 : Int)))))))))))
  else
    (s181 n_ t0.nodes t0.nodes.length t0.root false).bind fun r61 =>
      some (decide (r61 = (0 : Int))))
def l142_0 (n_ : Nat) (t0 : TreeV) : Nat → Int → Option Bool
  | 0 => fun _ => none
  | k + 1 => l142_0_st n_ t0 (l142_0 n_ t0 k)
def s142 (n_ : Nat) (t0 : TreeV) : Option Bool :=
  (if t0.err = (0 : Int) then
    (if t0.pos = (0 : Int) then
      (if ((t0.nodes.length : Nat) : Int) < (1 : Int) then
        some false
      else
        (if (24 : Int) < ((t0.nodes.length : Nat) : Int) then
          some false
        else
          ck (i64ok (((t0.nodes.length : Nat) : Int) - (1 : Int))) <|
            (if t0.root = (((t0.nodes.length : Nat) : Int) - (1 : Int)) then
            (l142_0 n_ t0 n_ (0 : Int))
          else
            some false)))
    else
      some false)
  else
    some false)
/-- (*e2e/form.Former).put -/
def s182 (S0 : FoS) (z1 : Int) : Option FoS :=
  ck (i64ok (S0.w - (1 : Int))) <|
    (getN S0.out 288 (S0.w - (1 : Int))).bind fun x23 =>
    some ({ S0 with out := (List.set S0.out (Int.toNat (S0.w - (1 : Int))) z1), w := S0.w - (1 : Int) })
/-- (*e2e/form.Former).kid -/
def k183_0 (S0 : FoS) (z2 : Int) (z3 : Int) (z4 : Int) (x23 : Int) : Option FoS :=
  (getN S0.notes 24 z2).bind fun x24 =>
    some ({ S0 with notes := (List.set S0.notes (Int.toNat z2) (⟨z3, (decide (x23 < z4))⟩ : NoteT)) })
def s183 (S0 : FoS) (a1 : List NodeT) (m1 : Nat) (z2 : Int) (z3 : Int) (z4 : Int) : Option FoS :=
  (getN a1 m1 z2).bind fun x27 =>
    (if x27.kind = (6 : Int) then
    (k183_0 S0 z2 z3 z4 (4 : Int))
  else
    (if x27.kind = (7 : Int) then
      (k183_0 S0 z2 z3 z4 (s169 x27.op))
    else
      (k183_0 S0 z2 z3 z4 (5 : Int))))
/-- (*e2e/form.Former).putNum -/
def l212_0_st (n_ : Nat) (rec43 : Int → Int → FoS → Option FoS) (x41 : Int) (x42 : Int) (S38 : FoS) : Option FoS :=
  (if x42 < (9 : Int) then
    ck (i64ok ((48 : Int) + (Int.tmod x41 (10 : Int)))) <|
      ck (0 ≤ ((48 : Int) + (Int.tmod x41 (10 : Int))) ∧ ((48 : Int) + (Int.tmod x41 (10 : Int))) ≤ 255) <|
      (s182 S38 ((48 : Int) + (Int.tmod x41 (10 : Int)))).bind fun r49 =>
      ck (i64ok (Int.tdiv x41 (10 : Int))) <|
      (if (Int.tdiv x41 (10 : Int)) = (0 : Int) then
      some r49
    else
      ck (i64ok (x42 + (1 : Int))) <|
        (rec43 (Int.tdiv x41 (10 : Int)) (x42 + (1 : Int)) r49))
  else
    some S38)
def l212_0 (n_ : Nat)  : Nat → Int → Int → FoS → Option FoS
  | 0 => fun _ _ _ => none
  | k + 1 => l212_0_st n_ (l212_0 n_ k)
def s212 (n_ : Nat) (S0 : FoS) (z1 : Int) : Option FoS :=
  (l212_0 n_ n_ z1 (0 : Int) S0)
/-- (*e2e/form.Former).puts -/
def l213_0_st (n_ : Nat) (z1 : List UInt8) (rec38 : Int → FoS → Option FoS) (x37 : Int) (S34 : FoS) : Option FoS :=
  (if (0 : Int) ≤ x37 then
    ck (0 ≤ x37 ∧ x37 < (z1.length : Int)) <|
      (s182 S34 ((List.getD z1 (Int.toNat x37) 0).toNat : Int)).bind fun r43 =>
      ck (i64ok (x37 - (1 : Int))) <|
      (rec38 (x37 - (1 : Int)) r43)
  else
    some S34)
def l213_0 (n_ : Nat) (z1 : List UInt8) : Nat → Int → FoS → Option FoS
  | 0 => fun _ _ => none
  | k + 1 => l213_0_st n_ z1 (l213_0 n_ z1 k)
def s213 (n_ : Nat) (S0 : FoS) (z1 : List UInt8) : Option FoS :=
  ck (i64ok ((z1.length : Int) - (1 : Int))) <|
    (l213_0 n_ z1 n_ ((z1.length : Int) - (1 : Int)) S0)
/-- (*e2e/form.Former).putRef -/
def k214_1 (z1 : RefT) (S43 : FoS) : Option FoS :=
  ck (i64ok ((65 : Int) + z1.col)) <|
    ck (0 ≤ ((65 : Int) + z1.col) ∧ ((65 : Int) + z1.col) ≤ 255) <|
    (s182 S43 ((65 : Int) + z1.col)).bind fun r48 =>
    (if z1.ac = true then
    (s182 r48 (36 : Int)).bind fun r53 =>
      some r53
  else
    some r48)
def s214 (n_ : Nat) (S0 : FoS) (z1 : RefT) : Option FoS :=
  ck (i64ok (z1.row + (1 : Int))) <|
    (s212 n_ S0 (z1.row + (1 : Int))).bind fun r23 =>
    (if z1.ar = true then
    (s182 r23 (36 : Int)).bind fun r58 =>
      (k214_1 z1 r58)
  else
    (k214_1 z1 r23))
/-- (*e2e/form.Former).leaf -/
def s184 (n_ : Nat) (S0 : FoS) (z1 : NodeT) : Option FoS :=
  (if z1.kind = (1 : Int) then
    (s212 n_ S0 z1.n).bind fun r24 =>
      some r24
  else
    (if z1.kind = (2 : Int) then
      (if z1.n = (1 : Int) then
        (s213 n_ S0 ([84, 82, 85, 69] : List UInt8)).bind fun r31 =>
          some r31
      else
        (s213 n_ S0 ([70, 65, 76, 83, 69] : List UInt8)).bind fun r34 =>
          some r34)
    else
      (if z1.kind = (3 : Int) then
        (s214 n_ S0 z1.r1).bind fun r39 =>
          some r39
      else
        (if z1.kind = (4 : Int) then
          (s214 n_ S0 z1.r2).bind fun r44 =>
            (s182 r44 (58 : Int)).bind fun r47 =>
            (s214 n_ r47 z1.r1).bind fun r50 =>
            some r50
        else
          (s213 n_ S0 ([35, 35] : List UInt8)).bind fun r53 =>
            some r53))))
/-- (*e2e/form.Former).putOp -/
def k215_1 (z1 : Int) (S37 : FoS) : Option FoS :=
  ck (i64ok ((2 : Int) * z1)) <|
    ck (i64ok (((2 : Int) * z1) - (2 : Int))) <|
    ck (0 ≤ (((2 : Int) * z1) - (2 : Int)) ∧ (((2 : Int) * z1) - (2 : Int)) < (([61, 32, 60, 62, 60, 32, 60, 61, 62, 32, 62, 61, 43, 32, 45, 32, 42, 32, 47, 32] : List UInt8).length : Int)) <|
    (s182 S37 ((List.getD ([61, 32, 60, 62, 60, 32, 60, 61, 62, 32, 62, 61, 43, 32, 45, 32, 42, 32, 47, 32] : List UInt8) (Int.toNat (((2 : Int) * z1) - (2 : Int))) 0).toNat : Int)).bind fun r43 =>
    some r43
def s215 (S0 : FoS) (z1 : Int) : Option FoS :=
  ck (i64ok ((2 : Int) * z1)) <|
    ck (i64ok (((2 : Int) * z1) - (1 : Int))) <|
    ck (0 ≤ (((2 : Int) * z1) - (1 : Int)) ∧ (((2 : Int) * z1) - (1 : Int)) < (([61, 32, 60, 62, 60, 32, 60, 61, 62, 32, 62, 61, 43, 32, 45, 32, 42, 32, 47, 32] : List UInt8).length : Int)) <|
    (if ((List.getD ([61, 32, 60, 62, 60, 32, 60, 61, 62, 32, 62, 61, 43, 32, 45, 32, 42, 32, 47, 32] : List UInt8) (Int.toNat (((2 : Int) * z1) - (1 : Int))) 0).toNat : Int) = (32 : Int) then
    (k215_1 z1 S0)
  else
    (s182 S0 ((List.getD ([61, 32, 60, 62, 60, 32, 60, 61, 62, 32, 62, 61, 43, 32, 45, 32, 42, 32, 47, 32] : List UInt8) (Int.toNat (((2 : Int) * z1) - (1 : Int))) 0).toNat : Int)).bind fun r51 =>
      (k215_1 z1 r51))
/-- (*e2e/form.Former).climb -/
def k185_1 (rec47 : Int → FoS → Option FoS) (x49 : NoteT) (S71 : FoS) : Option FoS :=
  (getN S71.notes 24 x49.up).bind fun x74 =>
    (if x74.brk = true then
    (s182 S71 (40 : Int)).bind fun r78 =>
      (rec47 x49.up r78)
  else
    (rec47 x49.up S71))

def l185_2_st (n_ : Nat) (a1 : List NodeT) (m1 : Nat) (rec47 : Int → FoS → Option FoS) (x46 : Int) (S43 : FoS) : Option FoS :=
  (getN S43.notes 24 x46).bind fun x49 =>
    (if (0 : Int) ≤ x49.up then
    (getN a1 m1 x49.up).bind fun x53 =>
      (if x53.kind = (6 : Int) then
      (s182 S43 (45 : Int)).bind fun r83 =>
        (k185_1 rec47 x49 r83)
    else
      (if x53.kind = (7 : Int) then
        (if x46 = x53.b then
          (s215 S43 x53.op).bind fun r90 =>
            some r90
        else
          (k185_1 rec47 x49 S43))
      else
        (if x53.kind = (9 : Int) then
          (if x46 = x53.a then
            (if (0 : Int) ≤ x53.b then
              (s182 S43 (44 : Int)).bind fun r99 =>
                some r99
            else
              (k185_1 rec47 x49 S43))
          else
            (k185_1 rec47 x49 S43))
        else
          (s182 S43 (40 : Int)).bind fun r102 =>
            (s213 n_ r102 (s195 x53.op)).bind fun r106 =>
            (k185_1 rec47 x49 r106))))
  else
    some S43)
def l185_2 (n_ : Nat) (a1 : List NodeT) (m1 : Nat) : Nat → Int → FoS → Option FoS
  | 0 => fun _ _ => none
  | k + 1 => l185_2_st n_ a1 m1 (l185_2 n_ a1 m1 k)
def s185 (n_ : Nat) (S0 : FoS) (a1 : List NodeT) (m1 : Nat) (z2 : Int) : Option FoS :=
  (l185_2 n_ a1 m1 n_ z2 S0)
/-- (*e2e/form.Former).fill -/
def k143_2 (x54 : Int) (rec55 : Int → FoS → Option (FoS × List UInt8)) (S73 : FoS) : Option (FoS × List UInt8) :=
  ck (i64ok (x54 - (1 : Int))) <|
    (rec55 (x54 - (1 : Int)) S73)

def k143_5 (a1 : List NodeT) (m1 : Nat) (x54 : Int) (rec55 : Int → FoS → Option (FoS × List UInt8)) (x77 : NodeT) (r145 : FoS) (x150 : Int) : Option (FoS × List UInt8) :=
  (s183 r145 a1 m1 x77.a x54 x150).bind fun r151 =>
    (k143_2 x54 rec55 r151)

def k143_6 (n_ : Nat) (a1 : List NodeT) (m1 : Nat) (x54 : Int) (rec55 : Int → FoS → Option (FoS × List UInt8)) (x77 : NodeT) (S133 : FoS) : Option (FoS × List UInt8) :=
  (if x77.kind = (6 : Int) then
    (s183 S133 a1 m1 x77.a x54 (4 : Int)).bind fun r138 =>
      (k143_2 x54 rec55 r138)
  else
    (if x77.kind = (7 : Int) then
      ck (i64ok ((s169 x77.op) + (1 : Int))) <|
        (s183 S133 a1 m1 x77.b x54 ((s169 x77.op) + (1 : Int))).bind fun r145 =>
        (if (s169 x77.op) = (1 : Int) then
        (k143_5 a1 m1 x54 rec55 x77 r145 (2 : Int))
      else
        (k143_5 a1 m1 x54 rec55 x77 r145 (s169 x77.op)))
    else
      (if x77.kind = (8 : Int) then
        (s183 S133 a1 m1 x77.a x54 (1 : Int)).bind fun r158 =>
          (k143_2 x54 rec55 r158)
      else
        (if x77.kind = (9 : Int) then
          (s183 S133 a1 m1 x77.a x54 (1 : Int)).bind fun r163 =>
            (if (0 : Int) ≤ x77.b then
            (s183 r163 a1 m1 x77.b x54 (1 : Int)).bind fun r168 =>
              (k143_2 x54 rec55 r168)
          else
            (k143_2 x54 rec55 r163))
        else
          (s184 n_ S133 x77).bind fun r171 =>
            (s185 n_ r171 a1 m1 x54).bind fun r174 =>
            (k143_2 x54 rec55 r174)))))

def l143_7_st (n_ : Nat) (a1 : List NodeT) (m1 : Nat) (rec55 : Int → FoS → Option (FoS × List UInt8)) (x54 : Int) (S51 : FoS) : Option (FoS × List UInt8) :=
  (if (0 : Int) ≤ x54 then
    (getN a1 m1 x54).bind fun x77 =>
      (getN S51.notes 24 x54).bind fun x177 =>
      (if x177.brk = true then
      (s182 S51 (41 : Int)).bind fun r186 =>
        (k143_6 n_ a1 m1 x54 rec55 x77 r186)
    else
      (if x77.kind = (8 : Int) then
        (s182 S51 (41 : Int)).bind fun r183 =>
          (k143_6 n_ a1 m1 x54 rec55 x77 r183)
      else
        (k143_6 n_ a1 m1 x54 rec55 x77 S51)))
  else
    ck (0 ≤ S51.w ∧ S51.w ≤ ((288 : Nat) : Int) ∧ S51.w < ((288 : Nat) : Int)) <|
      (toS S51.out (Int.toNat S51.w) (288 - Int.toNat S51.w)).bind fun s190 =>
      some (S51, s190))
def l143_7 (n_ : Nat) (a1 : List NodeT) (m1 : Nat) : Nat → Int → FoS → Option (FoS × List UInt8)
  | 0 => fun _ _ => none
  | k + 1 => l143_7_st n_ a1 m1 (l143_7 n_ a1 m1 k)
def s143 (n_ : Nat) (S0 : FoS) (a1 : List NodeT) (m1 : Nat) : Option (FoS × List UInt8) :=
  ck (i64ok ((m1 : Int) - (1 : Int))) <|
    (getN S0.notes 24 ((m1 : Int) - (1 : Int))).bind fun x23 =>
    (l143_7 n_ a1 m1 n_ ((m1 : Int) - (1 : Int)) ({ S0 with notes := (List.set S0.notes (Int.toNat ((m1 : Int) - (1 : Int))) (⟨(-1 : Int), false⟩ : NoteT)), w := (288 : Int) }))
/-- (*e2e/form.Former).Print -/
def s119 (n_ : Nat) (S0 : FoS) (t1 : TreeV) : Option (FoS × List UInt8 × Int) :=
  (if (24 : Int) < ((t1.nodes.length : Nat) : Int) then
    some (S0, ([] : List UInt8), (1 : Int))
  else
    (s142 n_ t1).bind fun r24 =>
      (if r24 = true then
      (s143 n_ S0 t1.nodes t1.nodes.length).bind fun r29 =>
        some (r29.1, r29.2, (0 : Int))
    else
      some (S0, ([] : List UInt8), (8 : Int))))
/-- (*e2e/edit.Editor).text -/
def s99 (n_ : Nat) (S0 : ES) (t1 : TreeV) : Option (ES × List UInt8) :=
  (s119 n_ S0.f t1).bind fun r22 =>
    ck (([61] : List UInt8).length + r22.2.1.length ≤ 9223372036854775807) <|
    some ({ S0 with f := r22.1 }, ([61] : List UInt8) ++ r22.2.1)
/-- (*e2e/edit.Editor).lay -/
def s100 (n_ : Nat) (S0 : ES) (z1 : Int) (z2 : List UInt8) : Option ES :=
  (s86 S0.k z1).bind fun r21 =>
    (if (r21 == z2) = true then
    some S0
  else
    (s90 n_ S0.k z1 z2).bind fun r26 =>
      some ({ S0 with k := r26.1 }))
/-- (*e2e/edit.Editor).Edit -/
def k76_2 (x67 : Int) (rec68 : Int → ES → Option (ES × Int)) (S98 : ES) : Option (ES × Int) :=
  ck (i64ok (x67 + (1 : Int))) <|
    (rec68 (x67 + (1 : Int)) S98)

def k76_4 (x67 : Int) (rec68 : Int → ES → Option (ES × Int)) (x140 : List UInt8) (S137 : ES) : Option (ES × Int) :=
  (getN S137.buf 24 x67).bind fun x141 =>
    (k76_2 x67 rec68 ({ S137 with buf := (List.set S137.buf (Int.toNat x67) x140) }))

def l76_5_st (n_ : Nat) (rec176 : Int → ES → Option (ES × Int)) (x175 : Int) (S172 : ES) : Option (ES × Int) :=
  (if x175 < (24 : Int) then
    (getN S172.buf 24 x175).bind fun x180 =>
      (s100 n_ S172 x175 x180).bind fun r182 =>
      (getN r182.buf 24 x175).bind fun x185 =>
      ck (i64ok (x175 + (1 : Int))) <|
      (rec176 (x175 + (1 : Int)) ({ r182 with buf := (List.set r182.buf (Int.toNat x175) ([] : List UInt8)) }))
  else
    some (S172, (0 : Int)))
def l76_5 (n_ : Nat)  : Nat → Int → ES → Option (ES × Int)
  | 0 => fun _ _ => none
  | k + 1 => l76_5_st n_ (l76_5 n_ k)

def l76_6_st (n_ : Nat) (z1 : Int) (z2 : Int) (rec68 : Int → ES → Option (ES × Int)) (x67 : Int) (S64 : ES) : Option (ES × Int) :=
  (if x67 < (24 : Int) then
    (s96 (s95 z1 z2) x67).bind fun r102 =>
      (if (0 : Int) ≤ r102 then
      (s86 S64.k r102).bind fun r107 =>
        (s97 n_ S64 r107).bind fun r110 =>
        (if r110.2.2 = true then
        ck (0 < r110.2.1.nodes.length) <|
          (s98 n_ (s95 z1 z2) r110.2.1.nodes r110.2.1.nodes.length).bind fun r149 =>
          ck (r110.2.1.nodes.length = r149.length) <|
          (s99 n_ r110.1 (⟨r149, r110.2.1.root, r110.2.1.err, r110.2.1.pos⟩ : TreeV)).bind fun r153 =>
          (k76_4 x67 rec68 r153.2 r153.1)
      else
        (k76_4 x67 rec68 r107 r110.1))
    else
      (k76_2 x67 rec68 S64))
  else
    (l76_5 n_ n_ (0 : Int) S64))
def l76_6 (n_ : Nat) (z1 : Int) (z2 : Int) : Nat → Int → ES → Option (ES × Int)
  | 0 => fun _ _ => none
  | k + 1 => l76_6_st n_ z1 z2 (l76_6 n_ z1 z2 k)
def s76 (n_ : Nat) (S0 : ES) (z1 : Int) (z2 : Int) : Option (ES × Int) :=
  (if (s94 z1 z2) = true then
    (l76_6 n_ z1 z2 n_ (0 : Int) S0)
  else
    some (S0, (9 : Int)))
/-- (*e2e/book.Book).Edit -/
def s50 (n_ : Nat) (S0 : BS) (z1 : Int) (z2 : Int) : Option (BS × Int) :=
  (s70 n_ S0).bind fun r21 =>
    (s76 n_ r21.e z1 z2).bind fun r24 =>
    (if r24.2 = (0 : Int) then
    (s72 n_ ({ r21 with e := r24.1 })).bind fun r29 =>
      some (r29, r24.2)
  else
    some ({ r21 with e := r24.1 }, r24.2))
/-- e2e/api.From -/
def k101_0 (x24 : Int) (x25 : Int) : Option Int :=
  ck (i64ok (x25 * (4 : Int))) <|
    ck (i64ok ((x25 * (4 : Int)) + x24)) <|
    some ((x25 * (4 : Int)) + x24)

def k101_1 (z0 : Int) (x39 : Int) : Option Int :=
  (if (6 : Int) ≤ x39 then
    some (-1 : Int)
  else
    (k101_0 (Int.tmod z0 (4 : Int)) x39))

def k101_2 (z0 : Int) (x56 : Int) : Option Int :=
  (if (4 : Int) ≤ x56 then
    some (-1 : Int)
  else
    (k101_0 x56 (Int.tdiv z0 (4 : Int))))
def s101 (z0 : Int) (z1 : Int) (z2 : Int) : Option Int :=
  ck (i64ok (Int.tdiv z0 (4 : Int))) <|
    (if z1 = (1 : Int) then
    (if (Int.tdiv z0 (4 : Int)) = z2 then
      some (-1 : Int)
    else
      (if z2 < (Int.tdiv z0 (4 : Int)) then
        ck (i64ok ((Int.tdiv z0 (4 : Int)) - (1 : Int))) <|
          (k101_0 (Int.tmod z0 (4 : Int)) ((Int.tdiv z0 (4 : Int)) - (1 : Int)))
      else
        (k101_0 (Int.tmod z0 (4 : Int)) (Int.tdiv z0 (4 : Int)))))
  else
    (if z1 = (2 : Int) then
      (if z2 ≤ (Int.tdiv z0 (4 : Int)) then
        ck (i64ok ((Int.tdiv z0 (4 : Int)) + (1 : Int))) <|
          (k101_1 z0 ((Int.tdiv z0 (4 : Int)) + (1 : Int)))
      else
        (k101_1 z0 (Int.tdiv z0 (4 : Int))))
    else
      (if z1 = (3 : Int) then
        (if (Int.tmod z0 (4 : Int)) = z2 then
          some (-1 : Int)
        else
          (if z2 < (Int.tmod z0 (4 : Int)) then
            ck (i64ok ((Int.tmod z0 (4 : Int)) - (1 : Int))) <|
              (k101_0 ((Int.tmod z0 (4 : Int)) - (1 : Int)) (Int.tdiv z0 (4 : Int)))
          else
            (k101_0 (Int.tmod z0 (4 : Int)) (Int.tdiv z0 (4 : Int)))))
      else
        (if z1 = (4 : Int) then
          (if z2 ≤ (Int.tmod z0 (4 : Int)) then
            ck (i64ok ((Int.tmod z0 (4 : Int)) + (1 : Int))) <|
              (k101_2 z0 ((Int.tmod z0 (4 : Int)) + (1 : Int)))
          else
            (k101_2 z0 (Int.tmod z0 (4 : Int))))
        else
          (k101_0 (Int.tmod z0 (4 : Int)) (Int.tdiv z0 (4 : Int)))))))
/-- (*e2e/editm.Editor).tree -/
def s102 (n_ : Nat) (S0 : EMS) (z1 : List UInt8) : Option (EMS × TreeV × Bool) :=
  (if (z1 == ([] : List UInt8)) = true then
    some (S0, (⟨[], (0 : Int), (0 : Int), (0 : Int)⟩ : TreeV), false)
  else
    ck (0 ≤ (0 : Int) ∧ (0 : Int) < (z1.length : Int)) <|
      (if ((List.getD z1 (Int.toNat (0 : Int)) 0).toNat : Int) = (61 : Int) then
      ck (0 ≤ (1 : Int) ∧ (1 : Int) ≤ (z1.length : Int)) <|
        (s120 n_ S0.f (List.drop (Int.toNat (1 : Int)) z1)).bind fun r29 =>
        some ({ S0 with f := r29.1 }, r29.2, decide (r29.2.err = (0 : Int)))
    else
      some (S0, (⟨[], (0 : Int), (0 : Int), (0 : Int)⟩ : TreeV), false)))
/-- e2e/api.point -/
def s147 (z0 : Int) (z1 : Int) (z2 : Int) (z3 : Bool) : Option Int :=
  (if z3 = true then
    (if z0 < z2 then
      some z0
    else
      ck (i64ok (z0 + (1 : Int))) <|
        (if z1 ≤ (z0 + (1 : Int)) then
        some (-1 : Int)
      else
        some (z0 + (1 : Int))))
  else
    (if z0 = z2 then
      some (-1 : Int)
    else
      (if z2 < z0 then
        ck (i64ok (z0 - (1 : Int))) <|
          some (z0 - (1 : Int))
      else
        some z0)))
/-- e2e/api.bad -/
def s148  : NodeT :=
  (⟨(5 : Int), (0 : Int), (-1 : Int), (-1 : Int), (0 : Int), (⟨(0 : Int), (0 : Int), false, false⟩ : RefT), (⟨(0 : Int), (0 : Int), false, false⟩ : RefT)⟩ : NodeT)
/-- e2e/api.stretch -/
def k150_0 (x25 : Int) (x33 : Int) : Option (Int × Int) :=
  some (x25, x33)

def k150_1 (z2 : Int) (x25 : Int) (x28 : Int) : Option (Int × Int) :=
  (if z2 ≤ x25 then
    some ((-1 : Int), (-1 : Int))
  else
    (if z2 ≤ x28 then
      ck (i64ok (z2 - (1 : Int))) <|
        (k150_0 x25 (z2 - (1 : Int)))
    else
      (k150_0 x25 x28)))

def k150_2 (z1 : Int) (z2 : Int) (z3 : Int) (x25 : Int) : Option (Int × Int) :=
  (if z3 ≤ z1 then
    ck (i64ok (z1 + (1 : Int))) <|
      (k150_1 z2 x25 (z1 + (1 : Int)))
  else
    (k150_1 z2 x25 z1))

def k150_4 (z1 : Int) (z3 : Int) (x49 : Int) : Option (Int × Int) :=
  (if z3 ≤ z1 then
    ck (i64ok (z1 - (1 : Int))) <|
      (k150_0 x49 (z1 - (1 : Int)))
  else
    (k150_0 x49 z1))
def s150 (z0 : Int) (z1 : Int) (z2 : Int) (z3 : Int) (z4 : Bool) : Option (Int × Int) :=
  (if z4 = true then
    (if z3 ≤ z0 then
      ck (i64ok (z0 + (1 : Int))) <|
        (k150_2 z1 z2 z3 (z0 + (1 : Int)))
    else
      (k150_2 z1 z2 z3 z0))
  else
    (if z0 = z3 then
      (if z1 = z3 then
        some ((-1 : Int), (-1 : Int))
      else
        (if z3 < z0 then
          ck (i64ok (z0 - (1 : Int))) <|
            (k150_4 z1 z3 (z0 - (1 : Int)))
        else
          (k150_4 z1 z3 z0)))
    else
      (if z3 < z0 then
        ck (i64ok (z0 - (1 : Int))) <|
          (k150_4 z1 z3 (z0 - (1 : Int)))
      else
        (k150_4 z1 z3 z0))))
/-- e2e/api.MoveNode -/
def k122_1 (t47 : NodeT) : Option NodeT :=
  (if t47.r1.row < (0 : Int) then
    some s148
  else
    (if t47.r1.col < (0 : Int) then
      some s148
    else
      some t47))

def k122_2 (z0 : NodeT) (z1 : Int) (x96 : Int) (x97 : Int) : Option NodeT :=
  (if z1 = (2 : Int) then
    some ({ z0 with r1 := { z0.r1 with row := x96 }, r2 := { z0.r2 with row := x97 } })
  else
    some ({ z0 with r1 := { z0.r1 with col := x96 }, r2 := { z0.r2 with col := x97 } }))

def k122_3 (z0 : NodeT) (z1 : Int) (z2 : Int) (x80 : Int) (x81 : Int) (x82 : Int) (x85 : Int) (x86 : Int) : Option NodeT :=
  (s150 x85 x86 x82 z2 (decide (z1 = (3 : Int)))).bind fun r87 =>
    (if r87.1 < (0 : Int) then
    some s148
  else
    (if x81 < x80 then
      (k122_2 z0 z1 r87.2 r87.1)
    else
      (k122_2 z0 z1 r87.1 r87.2)))

def k122_4 (z0 : NodeT) (z1 : Int) (z2 : Int) (x80 : Int) (x81 : Int) (x82 : Int) : Option NodeT :=
  (if x81 < x80 then
    (k122_3 z0 z1 z2 x80 x81 x82 x81 x80)
  else
    (k122_3 z0 z1 z2 x80 x81 x82 x80 x81))

def k122_10 (z0 : NodeT) (x218 : Int) (x219 : Int) : Option NodeT :=
  some ({ z0 with r1 := { z0.r1 with row := x218 }, r2 := { z0.r2 with row := x219 } })

def k122_11 (z0 : NodeT) (z2 : Int) (x202 : Int) (x203 : Int) (x204 : Int) (x207 : Int) (x208 : Int) : Option NodeT :=
  (s150 x207 x208 x204 z2 true).bind fun r209 =>
    (if r209.1 < (0 : Int) then
    some s148
  else
    (if x203 < x202 then
      (k122_10 z0 r209.2 r209.1)
    else
      (k122_10 z0 r209.1 r209.2)))

def k122_12 (z0 : NodeT) (z2 : Int) (x202 : Int) (x203 : Int) (x204 : Int) : Option NodeT :=
  (if x203 < x202 then
    (k122_11 z0 z2 x202 x203 x204 x203 x202)
  else
    (k122_11 z0 z2 x202 x203 x204 x202 x203))
def s122 (n_ : Nat) (z0 : NodeT) (z1 : Int) (z2 : Int) : Option NodeT :=
  (if z1 = (1 : Int) then
    (if z0.kind = (3 : Int) then
      (if (s116 z0.r1) = true then
        (s147 z0.r1.row (6 : Int) z2 true).bind fun r187 =>
          (k122_1 ({ z0 with r1 := { z0.r1 with row := r187 } }))
      else
        (if z0.kind = (4 : Int) then
          (s149 n_ z0.r1 z0.r2).bind fun r194 =>
            (if r194.2 = true then
            (k122_12 z0 z2 z0.r1.row z0.r2.row (6 : Int))
          else
            some z0)
        else
          some z0))
    else
      (if z0.kind = (4 : Int) then
        (s149 n_ z0.r1 z0.r2).bind fun r230 =>
          (if r230.2 = true then
          (k122_12 z0 z2 z0.r1.row z0.r2.row (6 : Int))
        else
          some z0)
      else
        some z0))
  else
    (if z0.kind = (3 : Int) then
      (if (s116 z0.r1) = true then
        (if z1 = (2 : Int) then
          (s147 z0.r1.row (6 : Int) z2 (decide (z1 = (3 : Int)))).bind fun r61 =>
            (k122_1 ({ z0 with r1 := { z0.r1 with row := r61 } }))
        else
          (s147 z0.r1.col (4 : Int) z2 (decide (z1 = (3 : Int)))).bind fun r65 =>
            (k122_1 ({ z0 with r1 := { z0.r1 with col := r65 } })))
      else
        (if z0.kind = (4 : Int) then
          (s149 n_ z0.r1 z0.r2).bind fun r72 =>
            (if r72.2 = true then
            (if z1 = (2 : Int) then
              (k122_4 z0 z1 z2 z0.r1.row z0.r2.row (6 : Int))
            else
              (k122_4 z0 z1 z2 z0.r1.col z0.r2.col (4 : Int)))
          else
            some z0)
        else
          some z0))
    else
      (if z0.kind = (4 : Int) then
        (s149 n_ z0.r1 z0.r2).bind fun r115 =>
          (if r115.2 = true then
          (if z1 = (2 : Int) then
            (k122_4 z0 z1 z2 z0.r1.row z0.r2.row (6 : Int))
          else
            (k122_4 z0 z1 z2 z0.r1.col z0.r2.col (4 : Int)))
        else
          some z0)
      else
        some z0)))
/-- e2e/api.Moved -/
def l103_0_st (n_ : Nat) (t0 : TreeV) (z1 : Int) (z2 : Int) (r23 : List NodeT) (rec52 : Int → (List NodeT) → Option TreeV) (x51 : Int) (a48 : List NodeT) : Option TreeV :=
  (if x51 < ((r23.length : Nat) : Int) then
    (getN a48 r23.length x51).bind fun x56 =>
      (s122 n_ x56 z1 z2).bind fun r58 =>
      ck (i64ok (x51 + (1 : Int))) <|
      (rec52 (x51 + (1 : Int)) (List.set a48 (Int.toNat x51) r58))
  else
    ck (r23.length = a48.length) <|
      some (⟨a48, t0.root, (0 : Int), (0 : Int)⟩ : TreeV))
def l103_0 (n_ : Nat) (t0 : TreeV) (z1 : Int) (z2 : Int) (r23 : List NodeT) : Nat → Int → (List NodeT) → Option TreeV
  | 0 => fun _ _ => none
  | k + 1 => l103_0_st n_ t0 z1 z2 r23 (l103_0 n_ t0 z1 z2 r23 k)
def s103 (n_ : Nat) (t0 : TreeV) (z1 : Int) (z2 : Int) : Option TreeV :=
  (s121 t0.nodes t0.nodes.length).bind fun r23 =>
    ck (0 < r23.length) <|
    (l103_0 n_ t0 z1 z2 r23 n_ (0 : Int) r23)
/-- e2e/formm.Level -/
def s190 (z0 : NodeT) : Int :=
  (if z0.kind = (6 : Int) then
    (4 : Int)
  else
    (if z0.kind = (7 : Int) then
      (if z0.op ≤ (6 : Int) then
        (1 : Int)
      else
        (if z0.op ≤ (8 : Int) then
          (2 : Int)
        else
          (3 : Int)))
    else
      (5 : Int)))
/-- e2e/api.Itoa -/
def k191_1 (x73 : Int) (a70 : List Int) : Option (List UInt8) :=
  ck (0 ≤ x73 ∧ x73 < ((24 : Nat) : Int)) <|
    (toS a70 (Int.toNat x73) (24 - Int.toNat x73)).bind fun s75 =>
    some s75

def l191_2_st (n_ : Nat) (z0 : Int) (rec47 : Int → Int → (List Int) → Option (List UInt8)) (x45 : Int) (x46 : Int) (a42 : List Int) : Option (List UInt8) :=
  (if (0 : Int) < x45 then
    ck (i64ok (x46 - (1 : Int))) <|
      ck (i64ok ((48 : Int) + (Int.tmod x45 (10 : Int)))) <|
      ck (0 ≤ ((48 : Int) + (Int.tmod x45 (10 : Int))) ∧ ((48 : Int) + (Int.tmod x45 (10 : Int))) ≤ 255) <|
      (getN a42 24 (x46 - (1 : Int))).bind fun x54 =>
      ck (i64ok (Int.tdiv x45 (10 : Int))) <|
      (rec47 (Int.tdiv x45 (10 : Int)) (x46 - (1 : Int)) (List.set a42 (Int.toNat (x46 - (1 : Int))) ((48 : Int) + (Int.tmod x45 (10 : Int)))))
  else
    (if z0 < (0 : Int) then
      ck (i64ok (x46 - (1 : Int))) <|
        (getN a42 24 (x46 - (1 : Int))).bind fun x80 =>
        (k191_1 (x46 - (1 : Int)) (List.set a42 (Int.toNat (x46 - (1 : Int))) (45 : Int)))
    else
      (k191_1 x46 a42)))
def l191_2 (n_ : Nat) (z0 : Int) : Nat → Int → Int → (List Int) → Option (List UInt8)
  | 0 => fun _ _ _ => none
  | k + 1 => l191_2_st n_ z0 (l191_2 n_ z0 k)

def k191_3 (n_ : Nat) (z0 : Int) (x25 : Int) : Option (List UInt8) :=
  (l191_2 n_ z0 n_ x25 (24 : Int) (List.replicate 24 (0 : Int)))
def s191 (n_ : Nat) (z0 : Int) : Option (List UInt8) :=
  (if z0 = (0 : Int) then
    some ([48] : List UInt8)
  else
    (if z0 < (0 : Int) then
      ck (i64ok (-z0)) <|
        (k191_3 n_ z0 (-z0))
    else
      (k191_3 n_ z0 z0)))
/-- e2e/formm.refText -/
def k192_0 (n_ : Nat) (z0 : RefT) (x31 : List UInt8) : Option (List UInt8) :=
  ck (i64ok (z0.row + (1 : Int))) <|
    (s191 n_ (z0.row + (1 : Int))).bind fun r33 =>
    ck (x31.length + r33.length ≤ 9223372036854775807) <|
    some (x31 ++ r33)

def k192_1 (n_ : Nat) (z0 : RefT) (x24 : List UInt8) : Option (List UInt8) :=
  ck (i64ok ((65 : Int) + z0.col)) <|
    ck (0 ≤ ((65 : Int) + z0.col) ∧ ((65 : Int) + z0.col) ≤ 255) <|
    ck (x24.length + ([UInt8.ofNat (Int.toNat ((65 : Int) + z0.col))] : List UInt8).length ≤ 9223372036854775807) <|
    (if z0.ar = true then
    ck ((x24 ++ ([UInt8.ofNat (Int.toNat ((65 : Int) + z0.col))] : List UInt8)).length + ([36] : List UInt8).length ≤ 9223372036854775807) <|
      (k192_0 n_ z0 ((x24 ++ ([UInt8.ofNat (Int.toNat ((65 : Int) + z0.col))] : List UInt8)) ++ ([36] : List UInt8)))
  else
    (k192_0 n_ z0 (x24 ++ ([UInt8.ofNat (Int.toNat ((65 : Int) + z0.col))] : List UInt8))))
def s192 (n_ : Nat) (z0 : RefT) : Option (List UInt8) :=
  (if z0.ac = true then
    (k192_1 n_ z0 ([36] : List UInt8))
  else
    (k192_1 n_ z0 ([] : List UInt8)))
/-- e2e/formm.opText -/
def s193 (z0 : Int) : List UInt8 :=
  (if z0 = (1 : Int) then
    ([61] : List UInt8)
  else
    (if z0 = (2 : Int) then
      ([60, 62] : List UInt8)
    else
      (if z0 = (3 : Int) then
        ([60] : List UInt8)
      else
        (if z0 = (4 : Int) then
          ([60, 61] : List UInt8)
        else
          (if z0 = (5 : Int) then
            ([62] : List UInt8)
          else
            (if z0 = (6 : Int) then
              ([62, 61] : List UInt8)
            else
              (if z0 = (7 : Int) then
                ([43] : List UInt8)
              else
                (if z0 = (8 : Int) then
                  ([45] : List UInt8)
                else
                  (if z0 = (9 : Int) then
                    ([42] : List UInt8)
                  else
                    ([47] : List UInt8))))))))))
def K151 (rec_151 : (List NodeT) → Nat → Int → Int → Option (List UInt8)) : Prop := ∀ (b0 : Nat) (a0 : List NodeT) (m0 c0 : Nat) (z1 : Int) (z2 : Int) (r_ : List UInt8) (h : rec_151 a0 m0 z1 z2 = some r_) (F : List Ent) (H : Heap) (R : Value → Heap → Prop)
    (hO : Own H [cellE 153 b0 (List.flatMap encNode a0)] F)
    (hR : ∀ (H' : Heap) , Own H' [cellE 153 b0 (List.flatMap encNode a0)] F → R (str r_) H'),
 HCalls Tryz.prog 151 #[Value.slice (some ⟨b0, 0, none⟩) m0 c0, I z1, I z2] H R
def K194 (rec_194 : (List NodeT) → Nat → Int → Option (List UInt8)) : Prop := ∀ (b0 : Nat) (a0 : List NodeT) (m0 c0 : Nat) (z1 : Int) (r_ : List UInt8) (h : rec_194 a0 m0 z1 = some r_) (F : List Ent) (H : Heap) (R : Value → Heap → Prop)
    (hO : Own H [cellE 153 b0 (List.flatMap encNode a0)] F)
    (hR : ∀ (H' : Heap) , Own H' [cellE 153 b0 (List.flatMap encNode a0)] F → R (str r_) H'),
 HCalls Tryz.prog 194 #[Value.slice (some ⟨b0, 0, none⟩) m0 c0, I z1] H R
/-- e2e/formm.show -/
def k151_0 (z2 : Int) (x21 : NodeT) (x28 : List UInt8) : Option (List UInt8) :=
  (if (s190 x21) < z2 then
    ck (([40] : List UInt8).length + x28.length ≤ 9223372036854775807) <|
      ck ((([40] : List UInt8) ++ x28).length + ([41] : List UInt8).length ≤ 9223372036854775807) <|
      some ((([40] : List UInt8) ++ x28) ++ ([41] : List UInt8))
  else
    some x28)

def k151_1 (rec_151 : (List NodeT) → Nat → Int → Int → Option (List UInt8)) (a0 : List NodeT) (m0 : Nat) (z2 : Int) (x21 : NodeT) (x69 : Int) : Option (List UInt8) :=
  (rec_151 a0 m0 x21.a x69).bind fun r70 =>
    ck (i64ok ((s190 x21) + (1 : Int))) <|
    (rec_151 a0 m0 x21.b ((s190 x21) + (1 : Int))).bind fun r74 =>
    ck (r70.length + (s193 x21.op).length ≤ 9223372036854775807) <|
    ck ((r70 ++ (s193 x21.op)).length + r74.length ≤ 9223372036854775807) <|
    (k151_0 z2 x21 ((r70 ++ (s193 x21.op)) ++ r74))
def s151_b (n_ : Nat) (rec_151 : (List NodeT) → Nat → Int → Int → Option (List UInt8)) (rec_194 : (List NodeT) → Nat → Int → Option (List UInt8)) (a0 : List NodeT) (m0 : Nat) (z1 : Int) (z2 : Int) : Option (List UInt8) :=
  (getN a0 m0 z1).bind fun x21 =>
    (if x21.kind = (1 : Int) then
    (s191 n_ x21.n).bind fun r35 =>
      (k151_0 z2 x21 r35)
  else
    (if x21.kind = (2 : Int) then
      (if x21.n = (1 : Int) then
        (k151_0 z2 x21 ([84, 82, 85, 69] : List UInt8))
      else
        (k151_0 z2 x21 ([70, 65, 76, 83, 69] : List UInt8)))
    else
      (if x21.kind = (3 : Int) then
        (s192 n_ x21.r1).bind fun r44 =>
          (k151_0 z2 x21 r44)
      else
        (if x21.kind = (4 : Int) then
          (s192 n_ x21.r1).bind fun r49 =>
            (s192 n_ x21.r2).bind fun r52 =>
            ck (r49.length + ([58] : List UInt8).length ≤ 9223372036854775807) <|
            ck ((r49 ++ ([58] : List UInt8)).length + r52.length ≤ 9223372036854775807) <|
            (k151_0 z2 x21 ((r49 ++ ([58] : List UInt8)) ++ r52))
        else
          (if x21.kind = (5 : Int) then
            (k151_0 z2 x21 ([35, 35] : List UInt8))
          else
            (if x21.kind = (6 : Int) then
              (rec_151 a0 m0 x21.a (4 : Int)).bind fun r61 =>
                ck (([45] : List UInt8).length + r61.length ≤ 9223372036854775807) <|
                (k151_0 z2 x21 (([45] : List UInt8) ++ r61))
            else
              (if x21.kind = (7 : Int) then
                (if (s190 x21) = (1 : Int) then
                  (k151_1 rec_151 a0 m0 z2 x21 (2 : Int))
                else
                  (k151_1 rec_151 a0 m0 z2 x21 (s190 x21)))
              else
                (if x21.kind = (8 : Int) then
                  (rec_194 a0 m0 x21.a).bind fun r84 =>
                    ck ((s195 x21.op).length + ([40] : List UInt8).length ≤ 9223372036854775807) <|
                    ck (((s195 x21.op) ++ ([40] : List UInt8)).length + r84.length ≤ 9223372036854775807) <|
                    ck ((((s195 x21.op) ++ ([40] : List UInt8)) ++ r84).length + ([41] : List UInt8).length ≤ 9223372036854775807) <|
                    (k151_0 z2 x21 ((((s195 x21.op) ++ ([40] : List UInt8)) ++ r84) ++ ([41] : List UInt8)))
                else
                  (k151_0 z2 x21 ([] : List UInt8))))))))))
/-- e2e/formm.args -/
def s194_b (n_ : Nat) (rec_151 : (List NodeT) → Nat → Int → Int → Option (List UInt8)) (rec_194 : (List NodeT) → Nat → Int → Option (List UInt8)) (a0 : List NodeT) (m0 : Nat) (z1 : Int) : Option (List UInt8) :=
  (getN a0 m0 z1).bind fun x21 =>
    (rec_151 a0 m0 x21.a (1 : Int)).bind fun r23 =>
    (if x21.b < (0 : Int) then
    some r23
  else
    (rec_194 a0 m0 x21.b).bind fun r28 =>
      ck (r28.length + ([44] : List UInt8).length ≤ 9223372036854775807) <|
      ck ((r28 ++ ([44] : List UInt8)).length + r23.length ≤ 9223372036854775807) <|
      some ((r28 ++ ([44] : List UInt8)) ++ r23))
def rc151 (n_ : Nat) : Nat → ((List NodeT) → Nat → Int → Int → Option (List UInt8)) × ((List NodeT) → Nat → Int → Option (List UInt8))
  | 0 => ((fun _ _ _ _ => none), (fun _ _ _ => none))
  | k + 1 => (s151_b n_ ((rc151 n_ k).1) ((rc151 n_ k).2), s194_b n_ ((rc151 n_ k).1) ((rc151 n_ k).2))
def s151 (n_ : Nat) : (List NodeT) → Nat → Int → Int → Option (List UInt8) := (rc151 n_ n_).1
def s194 (n_ : Nat) : (List NodeT) → Nat → Int → Option (List UInt8) := (rc151 n_ n_).2
/-- (*e2e/formm.Former).Print -/
def s123 (n_ : Nat) (S0 : FMS) (t1 : TreeV) : Option (FMS × List UInt8 × Int) :=
  (if (24 : Int) < ((t1.nodes.length : Nat) : Int) then
    some ({ S0 with prints := (IntKind.wrap .i64 (S0.prints + (1 : Int))) }, ([] : List UInt8), (1 : Int))
  else
    (s142 n_ t1).bind fun r25 =>
      (if r25 = true then
      (s151 n_ t1.nodes t1.nodes.length t1.root (1 : Int)).bind fun r30 =>
        some ({ S0 with prints := (IntKind.wrap .i64 (S0.prints + (1 : Int))) }, r30, (0 : Int))
    else
      some ({ S0 with prints := (IntKind.wrap .i64 (S0.prints + (1 : Int))) }, ([] : List UInt8), (8 : Int))))
/-- (*e2e/editm.Editor).text -/
def s104 (n_ : Nat) (S0 : EMS) (t1 : TreeV) : Option (EMS × List UInt8) :=
  (s123 n_ S0.f t1).bind fun r22 =>
    ck (([61] : List UInt8).length + r22.2.1.length ≤ 9223372036854775807) <|
    some ({ S0 with f := r22.1 }, ([61] : List UInt8) ++ r22.2.1)
/-- (*e2e/editm.Editor).Edit -/
def k77_5 (x194 : Int) (rec195 : Int → (List (List UInt8)) → EMS → Option (EMS × Int)) (a292 : List (List UInt8)) (S293 : EMS) : Option (EMS × Int) :=
  ck (i64ok (x194 + (1 : Int))) <|
    (rec195 (x194 + (1 : Int)) a292 S293)

def l77_6_st (n_ : Nat) (a189 : List (List UInt8)) (rec360 : Int → EMS → Option (EMS × Int)) (x359 : Int) (S355 : EMS) : Option (EMS × Int) :=
  (if x359 < (24 : Int) then
    (getN a189 24 x359).bind fun x364 =>
      (s93 n_ S355.k x359 x364).bind fun r366 =>
      ck (i64ok (x359 + (1 : Int))) <|
      (rec360 (x359 + (1 : Int)) ({ S355 with k := r366.1 }))
  else
    some (S355, (0 : Int)))
def l77_6 (n_ : Nat) (a189 : List (List UInt8)) : Nat → Int → EMS → Option (EMS × Int)
  | 0 => fun _ _ => none
  | k + 1 => l77_6_st n_ a189 (l77_6 n_ a189 k)

def l77_7_st (n_ : Nat) (z1 : Int) (z2 : Int) (rec195 : Int → (List (List UInt8)) → EMS → Option (EMS × Int)) (x194 : Int) (a189 : List (List UInt8)) (S190 : EMS) : Option (EMS × Int) :=
  (if x194 < (24 : Int) then
    (s101 x194 z1 z2).bind fun r298 =>
      (if r298 < (0 : Int) then
      (k77_5 x194 rec195 a189 S190)
    else
      (s87 S190.k r298).bind fun r303 =>
        (getN a189 24 x194).bind fun x306 =>
        (s102 n_ S190 r303).bind fun r309 =>
        (if r309.2.2 = true then
        ck (0 < r309.2.1.nodes.length) <|
          (s103 n_ r309.2.1 z1 z2).bind fun r324 =>
          ck (0 < r324.nodes.length) <|
          (s104 n_ r309.1 r324).bind fun r336 =>
          (k77_5 x194 rec195 (List.set (List.set a189 (Int.toNat x194) r303) (Int.toNat x194) r336.2) r336.1)
      else
        (k77_5 x194 rec195 (List.set a189 (Int.toNat x194) r303) r309.1)))
  else
    (l77_6 n_ a189 n_ (0 : Int) S190))
def l77_7 (n_ : Nat) (z1 : Int) (z2 : Int) : Nat → Int → (List (List UInt8)) → EMS → Option (EMS × Int)
  | 0 => fun _ _ _ => none
  | k + 1 => l77_7_st n_ z1 z2 (l77_7 n_ z1 z2 k)
def s77 (n_ : Nat) (S0 : EMS) (z1 : Int) (z2 : Int) : Option (EMS × Int) :=
  (if (s94 z1 z2) = true then
    (l77_7 n_ z1 z2 n_ (0 : Int) (List.replicate 24 ([] : List UInt8)) S0)
  else
    some (S0, (9 : Int)))
/-- (*e2e/bookm.Book).Edit -/
def s51 (n_ : Nat) (S0 : BMS) (z1 : Int) (z2 : Int) : Option (BMS × Int) :=
  (s73 n_ S0).bind fun r21 =>
    (s77 n_ S0.e z1 z2).bind fun r26 =>
    (if r26.2 = (0 : Int) then
    (s75 ({ S0 with e := r26.1 }) r21).bind fun r32 =>
      some (r32, r26.2)
  else
    some ({ S0 with e := r26.1 }, r26.2))
/-- e2e/edit.carry -/
def k124_5_4 (i0 : Int) (a81 : List NodeT) : Option (List NodeT × Bool) :=
  (Option.bind a81[Int.toNat i0]? fun x84 =>
    (if x84.r1.col < (0 : Int) then
    some (a81, false)
  else
    (if (25 : Int) < x84.r1.col then
      some (a81, false)
    else
      (if (0 : Int) ≤ x84.r1.row then
        some (a81, decide (x84.r1.row ≤ (98 : Int)))
      else
        some (a81, false)))))

def k124_5_5 (i0 : Int) (z2 : Int) (a62 : List NodeT) : Option (List NodeT × Bool) :=
  (Option.bind a62[Int.toNat i0]? fun x92 =>
    (if x92.r1.ar = true then
    (k124_5_4 i0 a62)
  else
    ck (i64ok (x92.r1.row + z2)) <|
      (k124_5_4 i0 (List.set a62 (Int.toNat i0) ({ x92 with r1 := { x92.r1 with row := x92.r1.row + z2 } })))))
def s124_5 (a0 : List NodeT) (i0 : Int) (z1 : Int) (z2 : Int) : Option (List NodeT × Bool) :=
  (Option.bind a0[Int.toNat i0]? fun x98 =>
    (if x98.r1.ac = true then
    (k124_5_5 i0 z2 a0)
  else
    ck (i64ok (x98.r1.col + z1)) <|
      (k124_5_5 i0 z2 (List.set a0 (Int.toNat i0) ({ x98 with r1 := { x98.r1 with col := x98.r1.col + z1 } })))))
/-- e2e/edit.carry -/
def k124_9_4 (i0 : Int) (a81 : List NodeT) : Option (List NodeT × Bool) :=
  (Option.bind a81[Int.toNat i0]? fun x84 =>
    (if x84.r2.col < (0 : Int) then
    some (a81, false)
  else
    (if (25 : Int) < x84.r2.col then
      some (a81, false)
    else
      (if (0 : Int) ≤ x84.r2.row then
        some (a81, decide (x84.r2.row ≤ (98 : Int)))
      else
        some (a81, false)))))

def k124_9_5 (i0 : Int) (z2 : Int) (a62 : List NodeT) : Option (List NodeT × Bool) :=
  (Option.bind a62[Int.toNat i0]? fun x92 =>
    (if x92.r2.ar = true then
    (k124_9_4 i0 a62)
  else
    ck (i64ok (x92.r2.row + z2)) <|
      (k124_9_4 i0 (List.set a62 (Int.toNat i0) ({ x92 with r2 := { x92.r2 with row := x92.r2.row + z2 } })))))
def s124_9 (a0 : List NodeT) (i0 : Int) (z1 : Int) (z2 : Int) : Option (List NodeT × Bool) :=
  (Option.bind a0[Int.toNat i0]? fun x98 =>
    (if x98.r2.ac = true then
    (k124_9_5 i0 z2 a0)
  else
    ck (i64ok (x98.r2.col + z1)) <|
      (k124_9_5 i0 z2 (List.set a0 (Int.toNat i0) ({ x98 with r2 := { x98.r2 with col := x98.r2.col + z1 } })))))
/-- e2e/edit.carryAll -/
def k105_2 (x50 : Int) (rec51 : Int → (List NodeT) → Option (List NodeT)) (a70 : List NodeT) : Option (List NodeT) :=
  ck (i64ok (x50 + (1 : Int))) <|
    (rec51 (x50 + (1 : Int)) a70)

def l105_3_st (n_ : Nat) (m0 : Nat) (z1 : Int) (z2 : Int) (rec51 : Int → (List NodeT) → Option (List NodeT)) (x50 : Int) (a47 : List NodeT) : Option (List NodeT) :=
  (if x50 < (m0 : Int) then
    (getN a47 m0 x50).bind fun x74 =>
      (if x74.kind = (3 : Int) then
      (s124_5 a47 x50 z1 z2).bind fun r78 =>
        (if r78.2 = true then
        (k105_2 x50 rec51 r78.1)
      else
        (s125 r78.1 x50).bind fun r83 =>
          (k105_2 x50 rec51 r83))
    else
      (if x74.kind = (4 : Int) then
        (s124_5 a47 x50 z1 z2).bind fun r88 =>
          (s124_9 r88.1 x50 z1 z2).bind fun r91 =>
          (if r88.2 = true then
          (if r91.2 = true then
            (k105_2 x50 rec51 r91.1)
          else
            (s125 r91.1 x50).bind fun r98 =>
              (k105_2 x50 rec51 r98))
        else
          (s125 r91.1 x50).bind fun r101 =>
            (k105_2 x50 rec51 r101))
      else
        (k105_2 x50 rec51 a47)))
  else
    some a47)
def l105_3 (n_ : Nat) (m0 : Nat) (z1 : Int) (z2 : Int) : Nat → Int → (List NodeT) → Option (List NodeT)
  | 0 => fun _ _ => none
  | k + 1 => l105_3_st n_ m0 z1 z2 (l105_3 n_ m0 z1 z2 k)
def s105 (n_ : Nat) (a0 : List NodeT) (m0 : Nat) (z1 : Int) (z2 : Int) : Option (List NodeT) :=
  (l105_3 n_ m0 z1 z2 n_ (0 : Int) a0)
/-- (*e2e/edit.Editor).Copy -/
def k78_1 (n_ : Nat) (z2 : Int) (x68 : List UInt8) (S65 : ES) : Option (ES × Int) :=
  (if (40 : Int) < (x68.length : Int) then
    some (S65, (1 : Int))
  else
    (s100 n_ S65 z2 x68).bind fun r71 =>
      some (r71, (0 : Int)))
def s78 (n_ : Nat) (S0 : ES) (z1 : Int) (z2 : Int) : Option (ES × Int) :=
  (if z1 < (0 : Int) then
    some (S0, (9 : Int))
  else
    (if (24 : Int) ≤ z1 then
      some (S0, (9 : Int))
    else
      (if z2 < (0 : Int) then
        some (S0, (9 : Int))
      else
        (if (24 : Int) ≤ z2 then
          some (S0, (9 : Int))
        else
          (s86 S0.k z1).bind fun r29 =>
            (s97 n_ S0 r29).bind fun r32 =>
            (if r32.2.2 = true then
            ck (i64ok ((Int.tmod z2 (4 : Int)) - (Int.tmod z1 (4 : Int)))) <|
              ck (i64ok (Int.tdiv z2 (4 : Int))) <|
              ck (i64ok (Int.tdiv z1 (4 : Int))) <|
              ck (i64ok ((Int.tdiv z2 (4 : Int)) - (Int.tdiv z1 (4 : Int)))) <|
              ck (0 < r32.2.1.nodes.length) <|
              (s105 n_ r32.2.1.nodes r32.2.1.nodes.length ((Int.tmod z2 (4 : Int)) - (Int.tmod z1 (4 : Int))) ((Int.tdiv z2 (4 : Int)) - (Int.tdiv z1 (4 : Int)))).bind fun r83 =>
              ck (r32.2.1.nodes.length = r83.length) <|
              (s99 n_ r32.1 (⟨r83, r32.2.1.root, r32.2.1.err, r32.2.1.pos⟩ : TreeV)).bind fun r87 =>
              (k78_1 n_ z2 r87.2 r87.1)
          else
            (k78_1 n_ z2 r29 r32.1))))))
/-- (*e2e/book.Book).Copy -/
def s52 (n_ : Nat) (S0 : BS) (z1 : Int) (z2 : Int) : Option (BS × Int) :=
  (s70 n_ S0).bind fun r21 =>
    (s78 n_ r21.e z1 z2).bind fun r24 =>
    (if r24.2 = (0 : Int) then
    (s72 n_ ({ r21 with e := r24.1 })).bind fun r29 =>
      some (r29, r24.2)
  else
    some ({ r21 with e := r24.1 }, r24.2))
/-- e2e/api.slide -/
def k152_4 (t105 : RefT) : Option (RefT × Bool) :=
  (if (0 : Int) ≤ t105.col then
    (if t105.col ≤ (25 : Int) then
      (if (0 : Int) ≤ t105.row then
        some (t105, decide (t105.row ≤ (98 : Int)))
      else
        some (t105, false))
    else
      some (t105, false))
  else
    some (t105, false))

def k152_5 (z2 : Int) (t78 : RefT) : Option (RefT × Bool) :=
  (if t78.ar = true then
    (k152_4 t78)
  else
    ck (i64ok (t78.row + z2)) <|
      (k152_4 ({ t78 with row := t78.row + z2 })))
def s152 (z0 : RefT) (z1 : Int) (z2 : Int) : Option (RefT × Bool) :=
  (if z0.ac = true then
    (k152_5 z2 z0)
  else
    ck (i64ok (z0.col + z1)) <|
      (k152_5 z2 ({ z0 with col := z0.col + z1 })))
/-- e2e/api.CopyNode -/
def k126_1 (r28 : RefT × Bool) (x51 : Bool) (t48 : NodeT) : Option NodeT :=
  (if r28.2 = true then
    (if x51 = true then
      some t48
    else
      some s148)
  else
    some s148)
def s126 (z0 : NodeT) (z1 : Int) (z2 : Int) : Option NodeT :=
  (if z0.kind = (3 : Int) then
    (s152 z0.r1 z1 z2).bind fun r65 =>
      (if z0.kind = (4 : Int) then
      (s152 z0.r2 z1 z2).bind fun r102 =>
        (k126_1 r65 r102.2 ({ z0 with r1 := r65.1, r2 := r102.1 }))
    else
      (k126_1 r65 true ({ z0 with r1 := r65.1 })))
  else
    (if z0.kind = (4 : Int) then
      (s152 z0.r1 z1 z2).bind fun r28 =>
        (s152 z0.r2 z1 z2).bind fun r61 =>
        (k126_1 r28 r61.2 ({ z0 with r1 := r28.1, r2 := r61.1 }))
    else
      some z0))
/-- e2e/api.Copied -/
def l106_0_st (n_ : Nat) (t0 : TreeV) (z1 : Int) (z2 : Int) (r23 : List NodeT) (rec52 : Int → (List NodeT) → Option TreeV) (x51 : Int) (a48 : List NodeT) : Option TreeV :=
  (if x51 < ((r23.length : Nat) : Int) then
    (getN a48 r23.length x51).bind fun x56 =>
      (s126 x56 z1 z2).bind fun r58 =>
      ck (i64ok (x51 + (1 : Int))) <|
      (rec52 (x51 + (1 : Int)) (List.set a48 (Int.toNat x51) r58))
  else
    ck (r23.length = a48.length) <|
      some (⟨a48, t0.root, (0 : Int), (0 : Int)⟩ : TreeV))
def l106_0 (n_ : Nat) (t0 : TreeV) (z1 : Int) (z2 : Int) (r23 : List NodeT) : Nat → Int → (List NodeT) → Option TreeV
  | 0 => fun _ _ => none
  | k + 1 => l106_0_st n_ t0 z1 z2 r23 (l106_0 n_ t0 z1 z2 r23 k)
def s106 (n_ : Nat) (t0 : TreeV) (z1 : Int) (z2 : Int) : Option TreeV :=
  (s121 t0.nodes t0.nodes.length).bind fun r23 =>
    ck (0 < r23.length) <|
    (l106_0 n_ t0 z1 z2 r23 n_ (0 : Int) r23)
/-- (*e2e/editm.Editor).Copy -/
def k79_1 (n_ : Nat) (z2 : Int) (x78 : List UInt8) (S74 : EMS) : Option (EMS × Int) :=
  (s93 n_ S74.k z2 x78).bind fun r79 =>
    some ({ S74 with k := r79.1 }, r79.2)
def s79 (n_ : Nat) (S0 : EMS) (z1 : Int) (z2 : Int) : Option (EMS × Int) :=
  (if z1 < (0 : Int) then
    some (S0, (9 : Int))
  else
    (if (24 : Int) ≤ z1 then
      some (S0, (9 : Int))
    else
      (if z2 < (0 : Int) then
        some (S0, (9 : Int))
      else
        (if (24 : Int) ≤ z2 then
          some (S0, (9 : Int))
        else
          (s87 S0.k z1).bind fun r29 =>
            (s102 n_ S0 r29).bind fun r32 =>
            (if r32.2.2 = true then
            ck (i64ok ((Int.tmod z2 (4 : Int)) - (Int.tmod z1 (4 : Int)))) <|
              ck (i64ok (Int.tdiv z2 (4 : Int))) <|
              ck (i64ok (Int.tdiv z1 (4 : Int))) <|
              ck (i64ok ((Int.tdiv z2 (4 : Int)) - (Int.tdiv z1 (4 : Int)))) <|
              ck (0 < r32.2.1.nodes.length) <|
              (s106 n_ r32.2.1 ((Int.tmod z2 (4 : Int)) - (Int.tmod z1 (4 : Int))) ((Int.tdiv z2 (4 : Int)) - (Int.tdiv z1 (4 : Int)))).bind fun r92 =>
              ck (0 < r92.nodes.length) <|
              (s104 n_ r32.1 r92).bind fun r104 =>
              (k79_1 n_ z2 r104.2 r104.1)
          else
            (k79_1 n_ z2 r29 r32.1))))))
/-- (*e2e/bookm.Book).Copy -/
def s53 (n_ : Nat) (S0 : BMS) (z1 : Int) (z2 : Int) : Option (BMS × Int) :=
  (s73 n_ S0).bind fun r21 =>
    (s79 n_ S0.e z1 z2).bind fun r26 =>
    (if r26.2 = (0 : Int) then
    (s75 ({ S0 with e := r26.1 }) r21).bind fun r32 =>
      some (r32, r26.2)
  else
    some ({ S0 with e := r26.1 }, r26.2))
/-! ### by hand: the law's ring -/
def s54 (S0 : DS) (a1 : List (List UInt8)) : Option DS :=
  ck (S0.past.length < 900) (some { S0 with past := (if 6 ≤ S0.past.length then S0.past.tail else S0.past) ++ [a1], fresh := false })
/-- The first i cells are shifted. -/
def sh (V : List Value) (i : Nat) : List Value := V.tail.take i ++ V.drop i
def q54 (z0 : Nat) (R : Value → Heap → Prop) (a' : Option Addr) (m' k' : Nat) (H' : Heap) : Prop :=
  Wr H' z0 3 1 ∧ ∀ H48 : Heap, H48 = hset H' z0 3 (Value.slice a' m' k') → Wr H48 z0 2 1 ∧ ∀ H49 : Heap, H49 = hset H48 z0 2 (Value.bool false) → R (.tuple #[]) H49
/-- e2e/towerlaw.Put -/
def k55_0 (S0 : BS) (x23 : Int) (rec24 : Int → Option Bool) (x32 : List UInt8) : Option Bool :=
  (s33 S0 x23).bind fun r33 =>
    (if (r33 == x32) = true then
    ck (i64ok (x23 + (1 : Int))) <|
      (rec24 (x23 + (1 : Int)))
  else
    some false)

def l55_1_st (n_ : Nat) (S0 : BS) (a1 : List (List UInt8)) (m1 : Nat) (z2 : Int) (z3 : List UInt8) (rec24 : Int → Option Bool) (x23 : Int) : Option Bool :=
  (if x23 < (24 : Int) then
    (getN a1 m1 x23).bind fun x28 =>
      (if x23 = z2 then
      (k55_0 S0 x23 rec24 z3)
    else
      (k55_0 S0 x23 rec24 x28))
  else
    some true)
def l55_1 (n_ : Nat) (S0 : BS) (a1 : List (List UInt8)) (m1 : Nat) (z2 : Int) (z3 : List UInt8) : Nat → Int → Option Bool
  | 0 => fun _ => none
  | k + 1 => l55_1_st n_ S0 a1 m1 z2 z3 (l55_1 n_ S0 a1 m1 z2 z3 k)
def s55 (n_ : Nat) (S0 : BS) (a1 : List (List UInt8)) (m1 : Nat) (z2 : Int) (z3 : List UInt8) : Option Bool :=
  (l55_1 n_ S0 a1 m1 z2 z3 n_ (0 : Int))
/-- e2e/towerlaw.Command -/
def k27_2 (n_ : Nat) (S2 : DS) (z3 : OpT) (z4 : List UInt8) (r22 : List (List UInt8)) (x102 : Int) (x103 : Int) (S97 : BMS) (S99 : BS) : Option (BS × BMS × DS × Bool) :=
  (if x102 = x103 then
    (if x102 = (0 : Int) then
      (s54 S2 r22).bind fun r108 =>
        (if z3.kind = (2 : Int) then
        (if r108.quiet = true then
          some (S99, S97, { r108 with next := [] }, true)
        else
          (s55 n_ S99 r22 24 z3.a z4).bind fun r122 =>
            some (S99, S97, { r108 with next := [] }, r122))
      else
        some (S99, S97, { r108 with next := [] }, true))
    else
      some (S99, S97, S2, true))
  else
    some (S99, S97, S2, false))
def s27 (n_ : Nat) (S0 : BS) (S1 : BMS) (S2 : DS) (z3 : OpT) (z4 : List UInt8) : Option (BS × BMS × DS × Bool) :=
  (s47 n_ S1).bind fun r22 =>
    (if z3.kind = (2 : Int) then
    (s48 n_ S0 z3.a z4).bind fun r127 =>
      (s49 n_ S1 z3.a z4).bind fun r130 =>
      (k27_2 n_ S2 z3 z4 r22 r127.2 r130.2 r130.1 r127.1)
  else
    (if z3.kind = (3 : Int) then
      (s50 n_ S0 z3.a z3.b).bind fun r136 =>
        (s51 n_ S1 z3.a z3.b).bind fun r139 =>
        (k27_2 n_ S2 z3 z4 r22 r136.2 r139.2 r139.1 r136.1)
    else
      (if z3.kind = (4 : Int) then
        (s52 n_ S0 z3.a z3.b).bind fun r145 =>
          (s53 n_ S1 z3.a z3.b).bind fun r148 =>
          (k27_2 n_ S2 z3 z4 r22 r145.2 r148.2 r148.1 r145.1)
      else
        (k27_2 n_ S2 z3 z4 r22 (0 : Int) (0 : Int) S1 S0))))
/-- (*e2e/book.Book).lay -/
def k80_2 (x53 : Int) (rec54 : Int → BS → Option BS) (S74 : BS) : Option BS :=
  ck (i64ok (x53 + (1 : Int))) <|
    (rec54 (x53 + (1 : Int)) S74)

def l80_3_st (n_ : Nat) (z1 : Int) (z2 : Int) (x21 : BitVec 32) (rec54 : Int → BS → Option BS) (x53 : Int) (S50 : BS) : Option BS :=
  (if x53 < (24 : Int) then
    ck (0 ≤ x53 ∧ x53 ≤ 18446744073709551615) <|
      ck (0 ≤ x53) <|
      (if (((x21 >>> Int.toNat x53) &&& (1 : BitVec 32)).toNat : Int) = (1 : Int) then
      (s69 z1 x53).bind fun r82 =>
        ck (i64ok (r82 + z2)) <|
        (getN S50.pool 288 (r82 + z2)).bind fun x86 =>
        (s71 n_ S50.e x53 x86).bind fun r88 =>
        (k80_2 x53 rec54 ({ S50 with e := r88.1 }))
    else
      (k80_2 x53 rec54 S50))
  else
    some S50)
def l80_3 (n_ : Nat) (z1 : Int) (z2 : Int) (x21 : BitVec 32) : Nat → Int → BS → Option BS
  | 0 => fun _ _ => none
  | k + 1 => l80_3_st n_ z1 z2 x21 (l80_3 n_ z1 z2 x21 k)
def s80 (n_ : Nat) (S0 : BS) (z1 : Int) (z2 : Int) : Option BS :=
  (getN S0.turned 6 z1).bind fun x21 =>
    (l80_3 n_ z1 z2 x21 n_ (0 : Int) S0)
/-- (*e2e/book.Book).Undo -/
def s56 (n_ : Nat) (S0 : BS) : Option (BS × Int) :=
  (if S0.undos = (0 : Int) then
    some (S0, (11 : Int))
  else
    ck (i64ok (S0.undos - (1 : Int))) <|
      ck (i64ok (S0.redos + (1 : Int))) <|
      (s43 ({ S0 with undos := S0.undos - (1 : Int), redos := S0.redos + (1 : Int) }) (S0.undos - (1 : Int))).bind fun r27 =>
      (s80 n_ ({ S0 with undos := S0.undos - (1 : Int), redos := S0.redos + (1 : Int) }) r27 (0 : Int)).bind fun r30 =>
      some (r30, (0 : Int)))
/-- (*e2e/bookm.Book).put -/
def l81_0_st (n_ : Nat) (a1 : List (List UInt8)) (m1 : Nat) (rec40 : Int → BMS → Option BMS) (x39 : Int) (S35 : BMS) : Option BMS :=
  (if x39 < (24 : Int) then
    (getN a1 m1 x39).bind fun x44 =>
      (s74 n_ S35.e x39 x44).bind fun r46 =>
      ck (i64ok (x39 + (1 : Int))) <|
      (rec40 (x39 + (1 : Int)) ({ S35 with e := r46.1 }))
  else
    some S35)
def l81_0 (n_ : Nat) (a1 : List (List UInt8)) (m1 : Nat) : Nat → Int → BMS → Option BMS
  | 0 => fun _ _ => none
  | k + 1 => l81_0_st n_ a1 m1 (l81_0 n_ a1 m1 k)
def s81 (n_ : Nat) (S0 : BMS) (a1 : List (List UInt8)) (m1 : Nat) : Option BMS :=
  (l81_0 n_ a1 m1 n_ (0 : Int) S0)
/-- (*e2e/bookm.Book).put -/
def l81x_0_st (n_ : Nat) (a1 : List (List UInt8)) (m1 : Nat) (rec40 : Int → BXS → Option BXS) (x39 : Int) (S35 : BXS) : Option BXS :=
  (if x39 < (24 : Int) then
    (getN a1 m1 x39).bind fun x44 =>
      (s74 n_ S35.e x39 x44).bind fun r46 =>
      ck (i64ok (x39 + (1 : Int))) <|
      (rec40 (x39 + (1 : Int)) ({ S35 with e := r46.1 }))
  else
    some S35)
def l81x_0 (n_ : Nat) (a1 : List (List UInt8)) (m1 : Nat) : Nat → Int → BXS → Option BXS
  | 0 => fun _ _ => none
  | k + 1 => l81x_0_st n_ a1 m1 (l81x_0 n_ a1 m1 k)
def s81x (n_ : Nat) (S0 : BXS) (a1 : List (List UInt8)) (m1 : Nat) : Option BXS :=
  (l81x_0 n_ a1 m1 n_ (0 : Int) S0)
def s57 (n_ : Nat) (S0 : BMS) : Option (BMS × Int) :=
  if h : S0.past = [] then some (S0, (11 : Int))
  else
    (s73 n_ S0).bind fun now =>
    ck (S0.next.length < 900 ∧ S0.past.length < 900) <|
    (s81x n_ ⟨S0.e, .slice none 0 0, .slice none 0 0⟩ (S0.past.getLast h) 24).bind fun r =>
    some ({ S0 with e := r.e, past := S0.past.dropLast, next := S0.next ++ [now] }, (0 : Int))
def q57 (z0 : Nat) (R : Value → Heap → Prop) (a' : Option Addr) (m' k' : Nat) (H' : Heap) : Prop :=
  Wr H' z0 2 1 ∧ ∀ H20 : Heap, H20 = hset H' z0 2 (Value.slice a' m' k') → ∃ (a21 : Option Addr) (m22 k23 : Nat), rd H20 z0 1 = some (Value.slice a21 m22 k23) ∧ ∃ (a24 : Option Addr) (m25 k26 : Nat), rd H20 z0 1 = some (Value.slice a24 m25 k26) ∧ i64ok ((m25 : Int) - (1 : Int)) ∧ ∃ p27 o28 : Nat, (a21 : Option Addr) = some ⟨p27, o28, none⟩ ∧ 0 ≤ ((m25 : Int) - (1 : Int)) ∧ ((m25 : Int) - (1 : Int)) < (m22 : Nat) ∧ (true = true) ∧ ∃ (a29 : Option Addr) (m30 k31 : Nat), rd H20 p27 (o28 + Int.toNat ((m25 : Int) - (1 : Int)) * 1) = some (Value.slice a29 m30 k31) ∧ HCalls Tryz.prog 81 #[Value.pointer (some ⟨z0, 0, none⟩), Value.slice a29 m30 k31] H20 fun v32 H33 => ∃ (a34 : Option Addr) (m35 k36 : Nat), rd H33 z0 1 = some (Value.slice a34 m35 k36) ∧ ∃ (a37 : Option Addr) (m38 k39 : Nat), rd H33 z0 1 = some (Value.slice a37 m38 k39) ∧ i64ok ((m38 : Int) - (1 : Int)) ∧ 0 ≤ ((m38 : Int) - (1 : Int)) ∧ ((m38 : Int) - (1 : Int)) ≤ (k36 : Nat) ∧ Wr H33 z0 1 1 ∧ ∀ H40 : Heap, H40 = hset H33 z0 1 (Value.slice a34 (Int.toNat ((m38 : Int) - (1 : Int))) k36) → R (I (0 : Int)) H40
/-- e2e/towerlaw.SameTexts -/
def l58_0_st (n_ : Nat) (S0 : BS) (a1 : List (List UInt8)) (m1 : Nat) (rec24 : Int → Option Bool) (x23 : Int) : Option Bool :=
  (if x23 < (24 : Int) then
    (getN a1 m1 x23).bind fun x28 =>
      (s33 S0 x23).bind fun r30 =>
      (if (r30 == x28) = true then
      ck (i64ok (x23 + (1 : Int))) <|
        (rec24 (x23 + (1 : Int)))
    else
      some false)
  else
    some true)
def l58_0 (n_ : Nat) (S0 : BS) (a1 : List (List UInt8)) (m1 : Nat) : Nat → Int → Option Bool
  | 0 => fun _ => none
  | k + 1 => l58_0_st n_ S0 a1 m1 (l58_0 n_ S0 a1 m1 k)
def s58 (n_ : Nat) (S0 : BS) (a1 : List (List UInt8)) (m1 : Nat) : Option Bool :=
  (l58_0 n_ S0 a1 m1 n_ (0 : Int))
/-! ### by hand: the law's Back and Forth -/
def s28 (n_ : Nat) (S0 : BS) (S1 : BMS) (S2 : DS) : Option (BS × BMS × DS × Bool) :=
  (s47 n_ S1).bind fun now =>
  (s56 n_ S0).bind fun r =>
  (s57 n_ S1).bind fun q =>
  if r.2 = q.2 then
    if h : S2.past = [] then some (r.1, q.1, S2, decide (r.2 = (11 : Int)))
    else if r.2 = (0 : Int) then
      ck (S2.past.length < 900 ∧ S2.next.length < 900) <|
      (s58 n_ r.1 (S2.past.getLast h) 24).bind fun t =>
      some (r.1, q.1, { S2 with past := S2.past.dropLast, next := S2.next ++ [now], fresh := false }, t)
    else some (r.1, q.1, S2, false)
  else some (r.1, q.1, S2, false)
def q28 (z0 z2 : Nat) (a23 : Option Addr) (R : Value → Heap → Prop) (a' : Option Addr) (m' k' : Nat) (H' : Heap) : Prop :=
  Wr H' z2 4 1 ∧ ∀ H44 : Heap, H44 = hset H' z2 4 (Value.slice a' m' k') → Wr H44 z2 2 1 ∧ ∀ H45 : Heap, H45 = hset H44 z2 2 (Value.bool false) → HCalls Tryz.prog 58 #[Value.pointer (some ⟨z0, 0, none⟩), Value.slice a23 24 24] H45 fun v46 H47 => ∃ q48 : Bool, v46 = Value.bool q48 ∧ R (Value.bool q48) H47
/-- (*e2e/book.Book).Redo -/
def s59 (n_ : Nat) (S0 : BS) : Option (BS × Int) :=
  (if S0.redos = (0 : Int) then
    some (S0, (11 : Int))
  else
    (s43 S0 S0.undos).bind fun r23 =>
      (s80 n_ S0 r23 (1 : Int)).bind fun r26 =>
      ck (i64ok (r26.undos + (1 : Int))) <|
      ck (i64ok (r26.redos - (1 : Int))) <|
      some ({ r26 with undos := r26.undos + (1 : Int), redos := r26.redos - (1 : Int) }, (0 : Int)))
def s60 (n_ : Nat) (S0 : BMS) : Option (BMS × Int) :=
  if h : S0.next = [] then some (S0, (11 : Int))
  else
    (s73 n_ S0).bind fun now =>
    ck (S0.past.length < 900 ∧ S0.next.length < 900) <|
    (s81x n_ ⟨S0.e, .slice none 0 0, .slice none 0 0⟩ (S0.next.getLast h) 24).bind fun r =>
    some ({ S0 with e := r.e, next := S0.next.dropLast, past := S0.past ++ [now] }, (0 : Int))
def q60 (z0 : Nat) (R : Value → Heap → Prop) (a' : Option Addr) (m' k' : Nat) (H' : Heap) : Prop :=
  Wr H' z0 1 1 ∧ ∀ H20 : Heap, H20 = hset H' z0 1 (Value.slice a' m' k') → ∃ (a21 : Option Addr) (m22 k23 : Nat), rd H20 z0 2 = some (Value.slice a21 m22 k23) ∧ ∃ (a24 : Option Addr) (m25 k26 : Nat), rd H20 z0 2 = some (Value.slice a24 m25 k26) ∧ i64ok ((m25 : Int) - (1 : Int)) ∧ ∃ p27 o28 : Nat, (a21 : Option Addr) = some ⟨p27, o28, none⟩ ∧ 0 ≤ ((m25 : Int) - (1 : Int)) ∧ ((m25 : Int) - (1 : Int)) < (m22 : Nat) ∧ (true = true) ∧ ∃ (a29 : Option Addr) (m30 k31 : Nat), rd H20 p27 (o28 + Int.toNat ((m25 : Int) - (1 : Int)) * 1) = some (Value.slice a29 m30 k31) ∧ HCalls Tryz.prog 81 #[Value.pointer (some ⟨z0, 0, none⟩), Value.slice a29 m30 k31] H20 fun v32 H33 => ∃ (a34 : Option Addr) (m35 k36 : Nat), rd H33 z0 2 = some (Value.slice a34 m35 k36) ∧ ∃ (a37 : Option Addr) (m38 k39 : Nat), rd H33 z0 2 = some (Value.slice a37 m38 k39) ∧ i64ok ((m38 : Int) - (1 : Int)) ∧ 0 ≤ ((m38 : Int) - (1 : Int)) ∧ ((m38 : Int) - (1 : Int)) ≤ (k36 : Nat) ∧ Wr H33 z0 2 1 ∧ ∀ H40 : Heap, H40 = hset H33 z0 2 (Value.slice a34 (Int.toNat ((m38 : Int) - (1 : Int))) k36) → R (I (0 : Int)) H40
def s29 (n_ : Nat) (S0 : BS) (S1 : BMS) (S2 : DS) : Option (BS × BMS × DS × Bool) :=
  (s47 n_ S1).bind fun was =>
  (s59 n_ S0).bind fun r =>
  (s60 n_ S1).bind fun q =>
  if r.2 = q.2 then
    if h : S2.next = [] then some (r.1, q.1, S2, decide (r.2 = (11 : Int)))
    else if r.2 = (0 : Int) then
      ck (S2.next.length < 900) <|
      (s54 { S2 with next := S2.next.dropLast } was).bind fun D =>
      (s58 n_ r.1 (S2.next.getLast h) 24).bind fun t =>
      some (r.1, q.1, D, t)
    else some (r.1, q.1, S2, false)
  else some (r.1, q.1, S2, false)
/-- e2e/book.pair -/
def s83 (z0 : List UInt8) (z1 : Int) : Option Int :=
  ck (0 ≤ z1 ∧ z1 < (z0.length : Int)) <|
    ck (i64ok (z1 + (1 : Int))) <|
    ck (0 ≤ (z1 + (1 : Int)) ∧ (z1 + (1 : Int)) < (z0.length : Int)) <|
    (if ((List.getD z0 (Int.toNat z1) 0).toNat : Int) < (48 : Int) then
    some (-1 : Int)
  else
    (if (57 : Int) < ((List.getD z0 (Int.toNat z1) 0).toNat : Int) then
      some (-1 : Int)
    else
      (if ((List.getD z0 (Int.toNat (z1 + (1 : Int))) 0).toNat : Int) < (48 : Int) then
        some (-1 : Int)
      else
        (if (57 : Int) < ((List.getD z0 (Int.toNat (z1 + (1 : Int))) 0).toNat : Int) then
          some (-1 : Int)
        else
          ck (0 ≤ ((List.getD z0 (Int.toNat z1) 0).toNat : Int) - (48 : Int) ∧ ((List.getD z0 (Int.toNat z1) 0).toNat : Int) - (48 : Int) ≤ 255) <|
            ck (i64ok (((List.getD z0 (Int.toNat z1) 0).toNat : Int) - (48 : Int))) <|
            ck (i64ok ((((List.getD z0 (Int.toNat z1) 0).toNat : Int) - (48 : Int)) * (10 : Int))) <|
            ck (0 ≤ ((List.getD z0 (Int.toNat (z1 + (1 : Int))) 0).toNat : Int) - (48 : Int) ∧ ((List.getD z0 (Int.toNat (z1 + (1 : Int))) 0).toNat : Int) - (48 : Int) ≤ 255) <|
            ck (i64ok (((List.getD z0 (Int.toNat (z1 + (1 : Int))) 0).toNat : Int) - (48 : Int))) <|
            ck (i64ok (((((List.getD z0 (Int.toNat z1) 0).toNat : Int) - (48 : Int)) * (10 : Int)) + (((List.getD z0 (Int.toNat (z1 + (1 : Int))) 0).toNat : Int) - (48 : Int)))) <|
            some (((((List.getD z0 (Int.toNat z1) 0).toNat : Int) - (48 : Int)) * (10 : Int)) + (((List.getD z0 (Int.toNat (z1 + (1 : Int))) 0).toNat : Int) - (48 : Int)))))))
/-- e2e/book.judge -/
def l82_0_st (n_ : Nat) (z0 : List UInt8) (rec25 : Int → Int → Option Bool) (x23 : Int) (x24 : Int) : Option Bool :=
  (if x24 < (z0.length : Int) then
    ck (i64ok ((z0.length : Int) - x24)) <|
      (if ((z0.length : Int) - x24) < (4 : Int) then
      some false
    else
      (s83 z0 x24).bind fun r32 =>
        ck (i64ok (x24 + (2 : Int))) <|
        (s83 z0 (x24 + (2 : Int))).bind fun r36 =>
        (if r32 ≤ x23 then
        some false
      else
        (if (24 : Int) ≤ r32 then
          some false
        else
          (if r36 < (1 : Int) then
            some false
          else
            (if (40 : Int) < r36 then
              some false
            else
              ck (i64ok (((z0.length : Int) - x24) - (4 : Int))) <|
                (if (((z0.length : Int) - x24) - (4 : Int)) < r36 then
                some false
              else
                ck (i64ok (x24 + (4 : Int))) <|
                  ck (i64ok ((x24 + (4 : Int)) + r36)) <|
                  (rec25 r32 ((x24 + (4 : Int)) + r36))))))))
  else
    some true)
def l82_0 (n_ : Nat) (z0 : List UInt8) : Nat → Int → Int → Option Bool
  | 0 => fun _ _ => none
  | k + 1 => l82_0_st n_ z0 (l82_0 n_ z0 k)
def s82 (n_ : Nat) (z0 : List UInt8) : Option Bool :=
  (l82_0 n_ z0 n_ (-1 : Int) (0 : Int))
/-- (*e2e/book.Book).forget -/
def l84_0_st (n_ : Nat) (rec40 : Int → BS → Option BS) (x39 : Int) (S36 : BS) : Option BS :=
  ck (i64ok (S36.undos + S36.redos)) <|
    (if x39 < (S36.undos + S36.redos) then
    (s43 S36 x39).bind fun r45 =>
      (s91 n_ S36 r45).bind fun r48 =>
      ck (i64ok (x39 + (1 : Int))) <|
      (rec40 (x39 + (1 : Int)) r48)
  else
    some ({ S36 with base := (0 : Int), undos := (0 : Int), redos := (0 : Int) }))
def l84_0 (n_ : Nat)  : Nat → Int → BS → Option BS
  | 0 => fun _ _ => none
  | k + 1 => l84_0_st n_ (l84_0 n_ k)
def s84 (n_ : Nat) (S0 : BS) : Option BS :=
  (l84_0 n_ n_ (0 : Int) S0)
/-- (*e2e/book.Book).Load -/
def k61_2 (x69 : Int) (rec70 : Int → Int → Int → BS → Option (BS × Int)) (x98 : Int) (x99 : Int) (S95 : BS) : Option (BS × Int) :=
  ck (i64ok (x69 + (1 : Int))) <|
    (rec70 x98 x99 (x69 + (1 : Int)) S95)

def k61_3 (n_ : Nat) (x69 : Int) (S64 : BS) (rec70 : Int → Int → Int → BS → Option (BS × Int)) (x106 : Int) (x107 : Int) (x108 : List UInt8) : Option (BS × Int) :=
  (s64 S64.e x69).bind fun r109 =>
    (if (r109 == x108) = true then
    (k61_2 x69 rec70 x106 x107 S64)
  else
    (s71 n_ S64.e x69 x108).bind fun r114 =>
      (k61_2 x69 rec70 x106 x107 ({ S64 with e := r114.1 })))

def k61_4 (n_ : Nat) (z1 : List UInt8) (x67 : Int) (x69 : Int) (S64 : BS) (rec70 : Int → Int → Int → BS → Option (BS × Int)) (x103 : Int) : Option (BS × Int) :=
  (if x103 = x69 then
    ck (i64ok (x67 + (2 : Int))) <|
      (s83 z1 (x67 + (2 : Int))).bind fun r120 =>
      ck (i64ok (x67 + (4 : Int))) <|
      ck (i64ok ((x67 + (4 : Int)) + r120)) <|
      ck (0 ≤ (x67 + (4 : Int)) ∧ (x67 + (4 : Int)) ≤ ((x67 + (4 : Int)) + r120) ∧ ((x67 + (4 : Int)) + r120) ≤ (z1.length : Int)) <|
      (k61_3 n_ x69 S64 rec70 ((x67 + (4 : Int)) + r120) (-1 : Int) (List.drop (Int.toNat (x67 + (4 : Int))) (List.take (Int.toNat ((x67 + (4 : Int)) + r120)) z1)))
  else
    (k61_3 n_ x69 S64 rec70 x67 x103 ([] : List UInt8)))

def l61_5_st (n_ : Nat) (z1 : List UInt8) (rec70 : Int → Int → Int → BS → Option (BS × Int)) (x67 : Int) (x68 : Int) (x69 : Int) (S64 : BS) : Option (BS × Int) :=
  (if x69 < (24 : Int) then
    (if x68 < (0 : Int) then
      (if x67 < (z1.length : Int) then
        (s83 z1 x67).bind fun r130 =>
          (k61_4 n_ z1 x67 x69 S64 rec70 r130)
      else
        (k61_4 n_ z1 x67 x69 S64 rec70 x68))
    else
      (k61_4 n_ z1 x67 x69 S64 rec70 x68))
  else
    (s84 n_ S64).bind fun r133 =>
      some (r133, (0 : Int)))
def l61_5 (n_ : Nat) (z1 : List UInt8) : Nat → Int → Int → Int → BS → Option (BS × Int)
  | 0 => fun _ _ _ _ => none
  | k + 1 => l61_5_st n_ z1 (l61_5 n_ z1 k)
def s61 (n_ : Nat) (S0 : BS) (z1 : List UInt8) : Option (BS × Int) :=
  (if (1056 : Int) < (z1.length : Int) then
    some (S0, (1 : Int))
  else
    (s82 n_ z1).bind fun r23 =>
      (if r23 = true then
      (l61_5 n_ z1 n_ (0 : Int) (-1 : Int) (0 : Int) S0)
    else
      some (S0, (12 : Int))))
/-- e2e/bookm.num -/
def s85 (z0 : List UInt8) (z1 : Int) : Option Int :=
  ck (0 ≤ z1 ∧ z1 < (z0.length : Int)) <|
    (if ((List.getD z0 (Int.toNat z1) 0).toNat : Int) < (48 : Int) then
    some (-1 : Int)
  else
    (if (57 : Int) < ((List.getD z0 (Int.toNat z1) 0).toNat : Int) then
      some (-1 : Int)
    else
      ck (i64ok (z1 + (1 : Int))) <|
        ck (0 ≤ (z1 + (1 : Int)) ∧ (z1 + (1 : Int)) < (z0.length : Int)) <|
        (if ((List.getD z0 (Int.toNat (z1 + (1 : Int))) 0).toNat : Int) < (48 : Int) then
        some (-1 : Int)
      else
        (if (57 : Int) < ((List.getD z0 (Int.toNat (z1 + (1 : Int))) 0).toNat : Int) then
          some (-1 : Int)
        else
          ck (0 ≤ ((List.getD z0 (Int.toNat z1) 0).toNat : Int) - (48 : Int) ∧ ((List.getD z0 (Int.toNat z1) 0).toNat : Int) - (48 : Int) ≤ 255) <|
            ck (i64ok (((List.getD z0 (Int.toNat z1) 0).toNat : Int) - (48 : Int))) <|
            ck (i64ok ((((List.getD z0 (Int.toNat z1) 0).toNat : Int) - (48 : Int)) * (10 : Int))) <|
            ck (0 ≤ ((List.getD z0 (Int.toNat (z1 + (1 : Int))) 0).toNat : Int) - (48 : Int) ∧ ((List.getD z0 (Int.toNat (z1 + (1 : Int))) 0).toNat : Int) - (48 : Int) ≤ 255) <|
            ck (i64ok (((List.getD z0 (Int.toNat (z1 + (1 : Int))) 0).toNat : Int) - (48 : Int))) <|
            ck (i64ok (((((List.getD z0 (Int.toNat z1) 0).toNat : Int) - (48 : Int)) * (10 : Int)) + (((List.getD z0 (Int.toNat (z1 + (1 : Int))) 0).toNat : Int) - (48 : Int)))) <|
            some (((((List.getD z0 (Int.toNat z1) 0).toNat : Int) - (48 : Int)) * (10 : Int)) + (((List.getD z0 (Int.toNat (z1 + (1 : Int))) 0).toNat : Int) - (48 : Int)))))))
/-- (*e2e/bookm.Book).Load -/
def l62_0_st (n_ : Nat) (S0 : BMS) (z1 : List UInt8) (rec64 : Int → Int → (List (List UInt8)) → Option (BMS × Int)) (x62 : Int) (x63 : Int) (a59 : List (List UInt8)) : Option (BMS × Int) :=
  (if x63 < (z1.length : Int) then
    ck (i64ok ((z1.length : Int) - x63)) <|
      (if ((z1.length : Int) - x63) < (4 : Int) then
      some (S0, (12 : Int))
    else
      (s85 z1 x63).bind fun r71 =>
        ck (i64ok (x63 + (2 : Int))) <|
        (s85 z1 (x63 + (2 : Int))).bind fun r75 =>
        (if r71 ≤ x62 then
        some (S0, (12 : Int))
      else
        (if (24 : Int) ≤ r71 then
          some (S0, (12 : Int))
        else
          (if r75 < (1 : Int) then
            some (S0, (12 : Int))
          else
            (if (40 : Int) < r75 then
              some (S0, (12 : Int))
            else
              ck (i64ok (((z1.length : Int) - x63) - (4 : Int))) <|
                (if (((z1.length : Int) - x63) - (4 : Int)) < r75 then
                some (S0, (12 : Int))
              else
                ck (i64ok (x63 + (4 : Int))) <|
                  ck (i64ok ((x63 + (4 : Int)) + r75)) <|
                  ck (0 ≤ (x63 + (4 : Int)) ∧ (x63 + (4 : Int)) ≤ ((x63 + (4 : Int)) + r75) ∧ ((x63 + (4 : Int)) + r75) ≤ (z1.length : Int)) <|
                  (getN a59 24 r71).bind fun x92 =>
                  (rec64 r71 ((x63 + (4 : Int)) + r75) (List.set a59 (Int.toNat r71) (List.drop (Int.toNat (x63 + (4 : Int))) (List.take (Int.toNat ((x63 + (4 : Int)) + r75)) z1))))))))))
  else
    (s81 n_ S0 a59 24).bind fun r95 =>
      some ({ r95 with past := [], next := [] }, (0 : Int)))
def l62_0 (n_ : Nat) (S0 : BMS) (z1 : List UInt8) : Nat → Int → Int → (List (List UInt8)) → Option (BMS × Int)
  | 0 => fun _ _ _ => none
  | k + 1 => l62_0_st n_ S0 z1 (l62_0 n_ S0 z1 k)
def s62 (n_ : Nat) (S0 : BMS) (z1 : List UInt8) : Option (BMS × Int) :=
  (if (1056 : Int) < (z1.length : Int) then
    some (S0, (1 : Int))
  else
    (l62_0 n_ S0 z1 n_ (-1 : Int) (0 : Int) (List.replicate 24 ([] : List UInt8))))
/-- e2e/towerlaw.Loaded -/
def k30_2 (n_ : Nat) (z4 : Bool) (r21 : List (List UInt8)) (r26 : BS × Int) (r29 : BMS × Int) (S76 : BS) (S77 : DS) : Option (BS × BMS × DS × Bool) :=
  (if z4 = true then
    (if r26.2 = (0 : Int) then
      (s58 n_ S76 r21 24).bind fun r85 =>
        some (S76, r29.1, S77, r85)
    else
      some (S76, r29.1, S77, false))
  else
    some (S76, r29.1, S77, true))
def s30 (n_ : Nat) (S0 : BS) (S1 : BMS) (S2 : DS) (z3 : List UInt8) (z4 : Bool) : Option (BS × BMS × DS × Bool) :=
  (s47 n_ S1).bind fun r21 =>
    (s61 n_ S0 z3).bind fun r26 =>
    (s62 n_ S1 z3).bind fun r29 =>
    (if r26.2 = r29.2 then
    (if r26.2 = (0 : Int) then
      (if S2.quiet = true then
        (k30_2 n_ z4 r21 r26 r29 r26.1 ({ S2 with past := [], next := [] }))
      else
        (s41 n_ r26.1).bind fun r94 =>
          (if (r94.2 == z3) = true then
          (k30_2 n_ z4 r21 r26 r29 r94.1 ({ S2 with past := [], next := [] }))
        else
          some (r94.1, r29.1, { S2 with past := [], next := [] }, false)))
    else
      (k30_2 n_ z4 r21 r26 r29 r26.1 S2))
  else
    some (r26.1, r29.1, S2, false))
/-- e2e/towerlaw.Play -/
def s11 (n_ : Nat) (S0 : BS) (S1 : BMS) (S2 : DS) (z3 : OpT) : Option (BS × BMS × DS × Bool) :=
  (if z3.kind = (1 : Int) then
    (s25 S2.text z3.s (1056 : Int)).bind fun r24 =>
      some (S0, S1, { S2 with text := r24 }, true)
  else
    (if z3.kind = (2 : Int) then
      (s26 S2.text z3.s (40 : Int)).bind fun r30 =>
        (s27 n_ S0 S1 ({ S2 with text := ([] : List UInt8) }) z3 r30).bind fun r34 =>
        some (r34.1, r34.2.1, r34.2.2.1, r34.2.2.2)
    else
      (if z3.kind = (3 : Int) then
        (s27 n_ S0 S1 S2 z3 ([] : List UInt8)).bind fun r41 =>
          some (r41.1, r41.2.1, r41.2.2.1, r41.2.2.2)
      else
        (if z3.kind = (4 : Int) then
          (s27 n_ S0 S1 S2 z3 ([] : List UInt8)).bind fun r48 =>
            some (r48.1, r48.2.1, r48.2.2.1, r48.2.2.2)
        else
          (if z3.kind = (5 : Int) then
            (s28 n_ S0 S1 S2).bind fun r55 =>
              some (r55.1, r55.2.1, r55.2.2.1, r55.2.2.2)
          else
            (if z3.kind = (6 : Int) then
              (s29 n_ S0 S1 S2).bind fun r62 =>
                some (r62.1, r62.2.1, r62.2.2.1, r62.2.2.2)
            else
              (if z3.kind = (7 : Int) then
                (s23 n_ S0 S1).bind fun r69 =>
                  some (r69.1, S1, { S2 with saved := r69.2.1, fresh := true }, r69.2.2)
              else
                (if z3.kind = (8 : Int) then
                  (s26 S2.text z3.s (1056 : Int)).bind fun r76 =>
                    (s30 n_ S0 S1 ({ S2 with text := ([] : List UInt8), fresh := false }) r76 false).bind fun r81 =>
                    some (r81.1, r81.2.1, r81.2.2.1, r81.2.2.2)
                else
                  (if z3.kind = (9 : Int) then
                    (s30 n_ S0 S1 S2 S2.saved S2.fresh).bind fun r88 =>
                      some (r88.1, r88.2.1, r88.2.2.1, r88.2.2.2)
                  else
                    (if z3.kind = (10 : Int) then
                      (s19 S0 S1 z3.a).bind fun r95 =>
                        some (S0, S1, S2, r95)
                    else
                      (if z3.kind = (11 : Int) then
                        (s20 S0 S1 z3.a).bind fun r100 =>
                          some (S0, S1, S2, r100)
                      else
                        (if z3.kind = (12 : Int) then
                          some (S0, S1, S2, (s21 S0 S1 S2))
                        else
                          (if z3.kind = (13 : Int) then
                            some (S0, S1, S2, (s22 S0 S1 S2))
                          else
                            (if z3.kind = (14 : Int) then
                              (s24 n_ S0).bind fun r111 =>
                                some (S0, S1, S2, r111)
                            else
                              some (S0, S1, S2, true)))))))))))))))
end Go.Proofs.Qxb6500272aGreat
