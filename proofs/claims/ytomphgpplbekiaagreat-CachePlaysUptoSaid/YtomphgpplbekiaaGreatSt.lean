/- Results in a variable's cells: two such and one other; one such and three others. No program is named here. Whole stores of structs into blocks of their own. -/
import Derived.Test.YtomphgpplbekiaaGreatRows0
import Derived.Test.YtomphgpplbekiaaGreatRows
namespace Go.Proofs.YtomphgpplbekiaaGreat
open Go.RowKit
theorem post_cct {P : Program} {fn : Func} {R : Ending → World → Prop} {a : Act} {w : World} {p p' u : Tmp} {t t' : TypeId} {b b' n n' : Nat} {d d' : TypeDesc} {A A' : Array Value} {v : Value} (h : fn.results = #[.cell p t, .cell p' t', .tmp u]) (hu : P.underlying t = some d) (hd : isAggD d = true) (hi : (P.info? t).map (·.size) = some (n + 1))
    (hu' : P.underlying t' = some d') (hd' : isAggD d' = true) (hi' : (P.info? t').map (·.size) = some (n' + 1))
    (hp : a.tmps.getD p undef = .pointer (some ⟨b, 0, none⟩)) (hp' : a.tmps.getD p' undef = .pointer (some ⟨b', 0, none⟩)) (hv : a.tmps.getD u undef = v) (hf : a.defers = []) (he : rowAt w b = A) (he' : rowAt w b' = A') (hs : A.size = n + 1) (hs' : A'.size = n' + 1) (hR : R (.returned (.tuple #[.agg A, .agg A', v])) w) : bodyPost P fn R .ret a w := by
  subst he
  subst he'
  subst hv
  obtain ⟨t1, hb⟩ := row_block hs
  obtain ⟨t2, hb'⟩ := row_block hs'
  refine bodyPost_ret ?_ hf hR
  have h1 := run_rescell (P := P) hb hu hd (by rw [hs]; exact hi)
  have h2 := run_rescell (P := P) hb' hu' hd' (by rw [hs']; exact hi')
  have hq : a.tmps[p]?.getD undef = .pointer (some ⟨b, 0, none⟩) := by simpa using hp
  have hq' : a.tmps[p']?.getD undef = .pointer (some ⟨b', 0, none⟩) := by simpa using hp'
  simp [results, h, hq, hq', run_asAddr, h1, h2]
theorem post_cttt {P : Program} {fn : Func} {R : Ending → World → Prop} {a : Act} {w : World} {p u u' u'' : Tmp} {t : TypeId} {b n : Nat} {d : TypeDesc} {A : Array Value} {v v' v'' : Value} (h : fn.results = #[.cell p t, .tmp u, .tmp u', .tmp u'']) (hu : P.underlying t = some d) (hd : isAggD d = true) (hi : (P.info? t).map (·.size) = some (n + 1))
    (hp : a.tmps.getD p undef = .pointer (some ⟨b, 0, none⟩)) (hv : a.tmps.getD u undef = v) (hv' : a.tmps.getD u' undef = v') (hv'' : a.tmps.getD u'' undef = v'') (hf : a.defers = []) (he : rowAt w b = A) (hs : A.size = n + 1) (hR : R (.returned (.tuple #[.agg A, v, v', v''])) w) : bodyPost P fn R .ret a w := by
  subst he
  subst hv
  subst hv'
  subst hv''
  obtain ⟨t1, hb⟩ := row_block hs
  refine bodyPost_ret ?_ hf hR
  have h1 := run_rescell (P := P) hb hu hd (by rw [hs]; exact hi)
  have hq : a.tmps[p]?.getD undef = .pointer (some ⟨b, 0, none⟩) := by simpa using hp
  simp [results, h, hq, run_asAddr, h1]
end Go.Proofs.YtomphgpplbekiaaGreat
namespace Go.Proofs.YtomphgpplbekiaaGreat
open Go.RowKit
theorem x_stKy (ρ : Operand → Value) (dst : Option Tmp) (x y : Operand) (ty : TypeId) (pos : String) (after : Array Edge) (guard : Option (Nat × Bool)) :
    execOp ρ { dst, op := .store 31 x y, type := ty, pos, after, guard } = stRow 31 (ρ x) (ρ y) := rfl
theorem infoKy : (Tryz.prog.info? 31).map (·.size) = some (1 + 1) := by kernel_rfl
theorem st_Ky (w : World) (g : Nat) (A : Array Value) (h : (rowAt w g).size = 2) (hA : A.size = 2) (h1 : Ones A) : (stRow 31 (.pointer (some ⟨g, 0, none⟩)) (.agg A)).run Tryz.prog w = .ok .skip (w.setRow g A) :=
  stRow_run w _ _ 1 _ infoKy h hA h1
theorem x_stRw (ρ : Operand → Value) (dst : Option Tmp) (x y : Operand) (ty : TypeId) (pos : String) (after : Array Edge) (guard : Option (Nat × Bool)) :
    execOp ρ { dst, op := .store 49 x y, type := ty, pos, after, guard } = stRow 49 (ρ x) (ρ y) := rfl
theorem infoRw : (Tryz.prog.info? 49).map (·.size) = some (3 + 1) := by kernel_rfl
theorem st_Rw (w : World) (g : Nat) (A : Array Value) (h : (rowAt w g).size = 4) (hA : A.size = 4) (h1 : Ones A) : (stRow 49 (.pointer (some ⟨g, 0, none⟩)) (.agg A)).run Tryz.prog w = .ok .skip (w.setRow g A) :=
  stRow_run w _ _ 3 _ infoRw h hA h1
theorem x_stLd (ρ : Operand → Value) (dst : Option Tmp) (x y : Operand) (ty : TypeId) (pos : String) (after : Array Edge) (guard : Option (Nat × Bool)) :
    execOp ρ { dst, op := .store 112 x y, type := ty, pos, after, guard } = stRow 112 (ρ x) (ρ y) := rfl
theorem infoLd : (Tryz.prog.info? 112).map (·.size) = some (7 + 1) := by kernel_rfl
theorem st_Ld (w : World) (g : Nat) (A : Array Value) (h : (rowAt w g).size = 8) (hA : A.size = 8) (h1 : Ones A) : (stRow 112 (.pointer (some ⟨g, 0, none⟩)) (.agg A)).run Tryz.prog w = .ok .skip (w.setRow g A) :=
  stRow_run w _ _ 7 _ infoLd h hA h1
theorem x_stOu (ρ : Operand → Value) (dst : Option Tmp) (x y : Operand) (ty : TypeId) (pos : String) (after : Array Edge) (guard : Option (Nat × Bool)) :
    execOp ρ { dst, op := .store 43 x y, type := ty, pos, after, guard } = stRow 43 (ρ x) (ρ y) := rfl
theorem infoOu : (Tryz.prog.info? 43).map (·.size) = some (3 + 1) := by kernel_rfl
theorem st_Ou (w : World) (g : Nat) (A : Array Value) (h : (rowAt w g).size = 4) (hA : A.size = 4) (h1 : Ones A) : (stRow 43 (.pointer (some ⟨g, 0, none⟩)) (.agg A)).run Tryz.prog w = .ok .skip (w.setRow g A) :=
  stRow_run w _ _ 3 _ infoOu h hA h1
theorem x_stRb (ρ : Operand → Value) (dst : Option Tmp) (x y : Operand) (ty : TypeId) (pos : String) (after : Array Edge) (guard : Option (Nat × Bool)) :
    execOp ρ { dst, op := .store 62 x y, type := ty, pos, after, guard } = stRow 62 (ρ x) (ρ y) := rfl
theorem infoRb : (Tryz.prog.info? 62).map (·.size) = some (7 + 1) := by kernel_rfl
theorem st_Rb (w : World) (g : Nat) (A : Array Value) (h : (rowAt w g).size = 8) (hA : A.size = 8) (h1 : Ones A) : (stRow 62 (.pointer (some ⟨g, 0, none⟩)) (.agg A)).run Tryz.prog w = .ok .skip (w.setRow g A) :=
  stRow_run w _ _ 7 _ infoRb h hA h1
theorem x_stCd (ρ : Operand → Value) (dst : Option Tmp) (x y : Operand) (ty : TypeId) (pos : String) (after : Array Edge) (guard : Option (Nat × Bool)) :
    execOp ρ { dst, op := .store 60 x y, type := ty, pos, after, guard } = stRow 60 (ρ x) (ρ y) := rfl
theorem infoCd : (Tryz.prog.info? 60).map (·.size) = some (1 + 1) := by kernel_rfl
theorem st_Cd (w : World) (g : Nat) (A : Array Value) (h : (rowAt w g).size = 2) (hA : A.size = 2) (h1 : Ones A) : (stRow 60 (.pointer (some ⟨g, 0, none⟩)) (.agg A)).run Tryz.prog w = .ok .skip (w.setRow g A) :=
  stRow_run w _ _ 1 _ infoCd h hA h1
theorem x_stBk (ρ : Operand → Value) (dst : Option Tmp) (x y : Operand) (ty : TypeId) (pos : String) (after : Array Edge) (guard : Option (Nat × Bool)) :
    execOp ρ { dst, op := .store 36 x y, type := ty, pos, after, guard } = stRow 36 (ρ x) (ρ y) := rfl
theorem infoBk : (Tryz.prog.info? 36).map (·.size) = some (6 + 1) := by kernel_rfl
theorem st_Bk (w : World) (g : Nat) (A : Array Value) (h : (rowAt w g).size = 7) (hA : A.size = 7) (h1 : Ones A) : (stRow 36 (.pointer (some ⟨g, 0, none⟩)) (.agg A)).run Tryz.prog w = .ok .skip (w.setRow g A) :=
  stRow_run w _ _ 6 _ infoBk h hA h1
theorem x_stLk (ρ : Operand → Value) (dst : Option Tmp) (x y : Operand) (ty : TypeId) (pos : String) (after : Array Edge) (guard : Option (Nat × Bool)) :
    execOp ρ { dst, op := .store 128 x y, type := ty, pos, after, guard } = stRow 128 (ρ x) (ρ y) := rfl
theorem infoLk : (Tryz.prog.info? 128).map (·.size) = some (4 + 1) := by kernel_rfl
theorem st_Lk (w : World) (g : Nat) (A : Array Value) (h : (rowAt w g).size = 5) (hA : A.size = 5) (h1 : Ones A) : (stRow 128 (.pointer (some ⟨g, 0, none⟩)) (.agg A)).run Tryz.prog w = .ok .skip (w.setRow g A) :=
  stRow_run w _ _ 4 _ infoLk h hA h1
end Go.Proofs.YtomphgpplbekiaaGreat
