/- A processor's state as a whole block. -/
import Derived.Test.YtdbfjgmehmbefaaCore2
import Derived.Test.YtdbfjgmehmbefaaRows0
namespace Go.Proofs.Ytdbfjgmehmbefaa
open Go.RowKit
/-- A register more. -/
def St.setR (s : St) (k : Nat) (v : Int) : St := { s with R := fun j => if j = k then v else s.R j }
def St.setPc (s : St) (v : Int) : St := { s with pc := v }
def St.setPs (s : St) (v : Int) : St := { s with ps := v }
structure St.Ok (s : St) : Prop where
  r0 : ∀ k, 0 ≤ s.R k
  r1 : ∀ k, s.R k < 4294967296
  pc0 : 0 ≤ s.pc
  pc1 : s.pc < 4294967296
  ps0 : 0 ≤ s.ps
  ps1 : s.ps < 4294967296
theorem sa_size (s : St) : (stA s).size = 19 := id rfl
theorem sa_one (s : St) : Ones (stA s) := by simp [Ones, stA, Value.oneCell']
theorem sa_pc (s : St) : (stA s)[8]? = some (.int .u32 s.pc) := rfl
theorem sa_ps (s : St) : (stA s)[9]? = some (.int .u32 s.ps) := rfl
theorem sg_pc (s : St) (h) : (stA s)[8]'h = .int .u32 s.pc := rfl
theorem sg_ps (s : St) (h) : (stA s)[9]'h = .int .u32 s.ps := rfl
theorem sa_r6 (s : St) : (stA s)[6]? = some (.int .u32 (s.R 6)) := rfl
theorem sa_r7 (s : St) : (stA s)[7]? = some (.int .u32 (s.R 7)) := rfl
theorem sg_r6 (s : St) (h) : (stA s)[6]'h = .int .u32 (s.R 6) := rfl
theorem sg_r7 (s : St) (h) : (stA s)[7]'h = .int .u32 (s.R 7) := rfl
theorem lt8 {k : Nat} (h : k < 8) : k = 0 ∨ k = 1 ∨ k = 2 ∨ k = 3 ∨ k = 4 ∨ k = 5 ∨ k = 6 ∨ k = 7 := by omega
theorem sa_r (s : St) (k : Nat) (hk : k < 8) : (stA s)[k]? = some (.int .u32 (s.R k)) := by
  rcases lt8 hk with rfl | rfl | rfl | rfl | rfl | rfl | rfl | rfl <;> rfl
theorem sg_r (s : St) (k : Nat) (h) (hk : k < 8) : (stA s)[k]'h = .int .u32 (s.R k) := by
  rcases lt8 hk with rfl | rfl | rfl | rfl | rfl | rfl | rfl | rfl <;> rfl
theorem ss_pc (s : St) (f : Int) : (stA s).setIfInBounds 8 (.int .u32 f) = stA (s.setPc f) := rfl
theorem ss_ps (s : St) (f : Int) : (stA s).setIfInBounds 9 (.int .u32 f) = stA (s.setPs f) := rfl
theorem ss_r6 (s : St) (f : Int) : (stA s).setIfInBounds 6 (.int .u32 f) = stA (s.setR 6 f) := rfl
theorem ss_r7 (s : St) (f : Int) : (stA s).setIfInBounds 7 (.int .u32 f) = stA (s.setR 7 f) := rfl
theorem ss_r (s : St) (k : Nat) (f : Int) (hk : k < 8) : (stA s).setIfInBounds k (.int .u32 f) = stA (s.setR k f) := by
  rcases lt8 hk with rfl | rfl | rfl | rfl | rfl | rfl | rfl | rfl <;> rfl
def st0 : St := ⟨fun _ => 0, 0, 0, fun _ => 0, false⟩
theorem st0_eq : #[Value.int .u32 0, .int .u32 0, .int .u32 0, .int .u32 0, .int .u32 0, .int .u32 0, .int .u32 0, .int .u32 0, .int .u32 0, .int .u32 0, .int .u32 0, .int .u32 0, .int .u32 0, .int .u32 0, .int .u32 0, .int .u32 0, .int .u32 0, .int .u32 0, .bool false] = stA st0 := rfl
theorem x_ldS (ρ : Operand → Value) (dst : Option Tmp) (x : Operand) (ty : TypeId) (pos : String) (after : Array Edge) (guard : Option (Nat × Bool)) :
    execOp ρ { dst, op := .load 25 x, type := ty, pos, after, guard } = ldRow 25 (ρ x) := rfl
theorem x_stS (ρ : Operand → Value) (dst : Option Tmp) (x y : Operand) (ty : TypeId) (pos : String) (after : Array Edge) (guard : Option (Nat × Bool)) :
    execOp ρ { dst, op := .store 25 x y, type := ty, pos, after, guard } = stRow 25 (ρ x) (ρ y) := rfl
theorem infoS : (Try.prog.info? 25).map (·.size) = some (18 + 1) := by kernel_rfl
theorem ld_S (w : World) (g : Nat) (h : (rowAt w g).size = 19) : (ldRow 25 (.pointer (some ⟨g, 0, none⟩))).run Try.prog w = .ok (.value (.agg (rowAt w g))) w :=
  ldRow_run w _ g 18 _ Try.underlying25 rfl infoS h
theorem st_S (w : World) (g : Nat) (A : Array Value) (h : (rowAt w g).size = 19) (hA : A.size = 19) (h1 : Ones A) : (stRow 25 (.pointer (some ⟨g, 0, none⟩)) (.agg A)).run Try.prog w = .ok .skip (w.setRow g A) :=
  stRow_run w _ g 18 A infoS h hA h1
theorem x_ldI (ρ : Operand → Value) (dst : Option Tmp) (x : Operand) (ty : TypeId) (pos : String) (after : Array Edge) (guard : Option (Nat × Bool)) :
    execOp ρ { dst, op := .load 27 x, type := ty, pos, after, guard } = ldRow 27 (ρ x) := rfl
theorem x_stI (ρ : Operand → Value) (dst : Option Tmp) (x y : Operand) (ty : TypeId) (pos : String) (after : Array Edge) (guard : Option (Nat × Bool)) :
    execOp ρ { dst, op := .store 27 x y, type := ty, pos, after, guard } = stRow 27 (ρ x) (ρ y) := rfl
theorem infoI : (Try.prog.info? 27).map (·.size) = some (3 + 1) := by kernel_rfl
theorem ld_I (w : World) (g : Nat) (h : (rowAt w g).size = 4) : (ldRow 27 (.pointer (some ⟨g, 0, none⟩))).run Try.prog w = .ok (.value (.agg (rowAt w g))) w :=
  ldRow_run w _ g 3 _ Try.underlying27 rfl infoI h
theorem st_I (w : World) (g : Nat) (A : Array Value) (h : (rowAt w g).size = 4) (hA : A.size = 4) (h1 : Ones A) : (stRow 27 (.pointer (some ⟨g, 0, none⟩)) (.agg A)).run Try.prog w = .ok .skip (w.setRow g A) :=
  stRow_run w _ g 3 A infoI h hA h1
theorem x_ldA (ρ : Operand → Value) (dst : Option Tmp) (x : Operand) (ty : TypeId) (pos : String) (after : Array Edge) (guard : Option (Nat × Bool)) :
    execOp ρ { dst, op := .load 29 x, type := ty, pos, after, guard } = ldRow 29 (ρ x) := rfl
theorem x_stA (ρ : Operand → Value) (dst : Option Tmp) (x y : Operand) (ty : TypeId) (pos : String) (after : Array Edge) (guard : Option (Nat × Bool)) :
    execOp ρ { dst, op := .store 29 x y, type := ty, pos, after, guard } = stRow 29 (ρ x) (ρ y) := rfl
theorem infoA : (Try.prog.info? 29).map (·.size) = some (3 + 1) := by kernel_rfl
theorem ld_A (w : World) (g : Nat) (h : (rowAt w g).size = 4) : (ldRow 29 (.pointer (some ⟨g, 0, none⟩))).run Try.prog w = .ok (.value (.agg (rowAt w g))) w :=
  ldRow_run w _ g 3 _ Try.underlying29 rfl infoA h
theorem st_A (w : World) (g : Nat) (A : Array Value) (h : (rowAt w g).size = 4) (hA : A.size = 4) (h1 : Ones A) : (stRow 29 (.pointer (some ⟨g, 0, none⟩)) (.agg A)).run Try.prog w = .ok .skip (w.setRow g A) :=
  stRow_run w _ g 3 A infoA h hA h1
theorem x_ldF (ρ : Operand → Value) (dst : Option Tmp) (x : Operand) (ty : TypeId) (pos : String) (after : Array Edge) (guard : Option (Nat × Bool)) :
    execOp ρ { dst, op := .load 31 x, type := ty, pos, after, guard } = ldRow 31 (ρ x) := rfl
theorem x_stF (ρ : Operand → Value) (dst : Option Tmp) (x y : Operand) (ty : TypeId) (pos : String) (after : Array Edge) (guard : Option (Nat × Bool)) :
    execOp ρ { dst, op := .store 31 x y, type := ty, pos, after, guard } = stRow 31 (ρ x) (ρ y) := rfl
theorem infoF : (Try.prog.info? 31).map (·.size) = some (1 + 1) := by kernel_rfl
theorem ld_F (w : World) (g : Nat) (h : (rowAt w g).size = 2) : (ldRow 31 (.pointer (some ⟨g, 0, none⟩))).run Try.prog w = .ok (.value (.agg (rowAt w g))) w :=
  ldRow_run w _ g 1 _ Try.underlying31 rfl infoF h
theorem st_F (w : World) (g : Nat) (A : Array Value) (h : (rowAt w g).size = 2) (hA : A.size = 2) (h1 : Ones A) : (stRow 31 (.pointer (some ⟨g, 0, none⟩)) (.agg A)).run Try.prog w = .ok .skip (w.setRow g A) :=
  stRow_run w _ g 1 A infoF h hA h1
/-- An access, and a fault. -/
structure Ac where
  k : Int
  a : Int
  n : Int
  v : Int
structure Fl where
  c : Int
  a : Int
def acA (x : Ac) : Array Value := #[.int .i64 x.k, .int .u32 x.a, .int .i64 x.n, .int .u32 x.v]
def flA (x : Fl) : Array Value := #[.int .i64 x.c, .int .u32 x.a]
def ac0 : Ac := ⟨0, 0, 0, 0⟩
def fl0 : Fl := ⟨0, 0⟩
theorem ac_size (x : Ac) : (acA x).size = 4 := id rfl
theorem fl_size (x : Fl) : (flA x).size = 2 := id rfl
theorem ac_one (x : Ac) : Ones (acA x) := by simp [Ones, acA, Value.oneCell']
theorem fl_one (x : Fl) : Ones (flA x) := by simp [Ones, flA, Value.oneCell']
theorem fl_c (x : Fl) : (flA x)[0]? = some (.int .i64 x.c) := rfl
theorem fl_a (x : Fl) : (flA x)[1]? = some (.int .u32 x.a) := rfl
theorem fg_c (x : Fl) (h) : (flA x)[0]'h = .int .i64 x.c := rfl
theorem fg_a (x : Fl) (h) : (flA x)[1]'h = .int .u32 x.a := rfl
end Go.Proofs.Ytdbfjgmehmbefaa
