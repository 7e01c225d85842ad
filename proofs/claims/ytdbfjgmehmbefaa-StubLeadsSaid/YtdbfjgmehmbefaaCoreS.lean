/- Package core in plain words: what an instruction wishes, and what it does. -/
import Derived.Test.YtdbfjgmehmbefaaCore5
namespace Go.Proofs.Ytdbfjgmehmbefaa
open Go.RowKit

def lowL (x n : Int) : Int := if n = 1 then x % 256 else if n = 2 then x % 65536 else x
def memB (op : Int) : Bool := decide (48 ≤ op ∧ op ≤ 58)
def wrB (op : Int) : Bool := decide (op = 49 ∨ op = 51 ∨ op = 53 ∨ op = 56 ∨ op = 58)
def atL (s : St) (i : In) : Int := if i.op = 56 then (s.R 7 - 4) % 4294967296 else if i.op = 57 then s.R 7 else (s.R i.b.toNat + i.imm) % 4294967296
/-- What an instruction of memory that may be wishes. -/
def wishL (s : St) (i : In) : Ac × Fl :=
  if atL s i % cszL i.op = 0 then (if wrB i.op then ⟨3, atL s i, cszL i.op, lowL (s.R i.a.toNat) (cszL i.op)⟩ else ⟨2, atL s i, cszL i.op, 0⟩, fl0) else (ac0, ⟨4, atL s i⟩)
def wantL (s : St) (i : In) : Ac × Fl := if memB i.op && mayB i false then wishL s i else (ac0, fl0)

/-- Another status, in plain words. -/
def plusS (s : St) (f : Int) : St := turnS s f
def partedL (t : St) (i : In) (was : St) : St × Fl :=
  if t.R i.b.toNat = 0 then (was, ⟨3, 0⟩)
  else if i.op = 30 then (turnS (t.setR i.a.toNat (t.R i.a.toNat % t.R i.b.toNat)) (zn (t.R i.a.toNat % t.R i.b.toNat)), fl0)
  else (turnS (t.setR i.a.toNat (t.R i.a.toNat / t.R i.b.toNat)) (zn (t.R i.a.toNat / t.R i.b.toNat)), fl0)
/-- The second number of an operation of two. -/
def secL (t : St) (i : In) : Int := if i.op = 33 then i.imm % 4294967296 else t.R i.b.toNat
def summedL (t : St) (i : In) : St := turnS (if keepB i.op then t.setR i.a.toNat (sumL i.op (t.R i.a.toNat) (secL t i)).1 else t) (sumL i.op (t.R i.a.toNat) (secL t i)).2
def plainL (t : St) (i : In) (v : Int) (was : St) : St × Fl :=
  if i.op = 16 then (t.setR i.a.toNat (t.R i.b.toNat), fl0)
  else if i.op = 32 then (t.setR i.a.toNat (i.imm % 4294967296), fl0)
  else if i.op = 25 ∨ i.op = 30 then partedL t i was
  else if memB i.op then (movedL t i v, fl0)
  else if isSum i.op then (summedL t i, fl0)
  else (t, fl0)
/-- The state behind a jump. -/
def jumpL (s : St) (i : In) (next : Int) : St :=
  if i.op = 73 then s.setPc (s.R i.a.toNat)
  else if i.op = 74 then ((s.setPc next).setR 6 next).setPc (s.R i.a.toNat)
  else if i.op = 72 then ((s.setPc next).setR 6 next).setPc ((next + i.imm) % 4294967296)
  else if holdsL (i.op - 64) s.ps then s.setPc ((next + i.imm) % 4294967296)
  else s.setPc next
def noneB (i : In) : Bool := !mayB i false || decide (1 ≤ i.op ∧ i.op ≤ 3) || decide (96 ≤ i.op)
def nextL (s : St) (i : In) : Int := (s.pc + (formL i.op false).n) % 4294967296
/-- The state behind an instruction, and its fault. -/
def doL (s : St) (i : In) (v : Int) : St × Fl :=
  if noneB i then (s, ⟨1, s.pc⟩)
  else if (wantL s i).2.c ≠ 0 then (s, (wantL s i).2)
  else if i.op = 80 then (s, ⟨8, i.imm % 4294967296⟩)
  else if 64 ≤ i.op ∧ i.op ≤ 74 then (jumpL s i (nextL s i), fl0)
  else plainL (s.setPc (nextL s i)) i v s
end Go.Proofs.Ytdbfjgmehmbefaa
