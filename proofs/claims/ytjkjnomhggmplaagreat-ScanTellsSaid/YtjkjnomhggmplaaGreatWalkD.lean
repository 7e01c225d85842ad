/- Package walk: Look. -/
import Derived.Test.YtjkjnomhggmplaaGreatWalk
import Derived.Test.YtjkjnomhggmplaaGreatRa
import Derived.Laws.Shifts
namespace Go.Proofs.YtjkjnomhggmplaaGreat
open Go.RowKit

def wordO (R : RamAt) (M : List Int) (a : Nat) : Option Nat := if a % 4 = 0 ∧ a < 64 * R.n then some (R.word M a).toNat else none
theorem word_bd {w : World} {R : RamAt} {M : List Int} (H : IsRam w R M) {a : Nat} (h : a % 4 = 0 ∧ a < 64 * R.n) : 0 ≤ R.word M a ∧ R.word M a < 4294967296 := by
  have b0 := H.byte h.2
  have b1 := H.byte (show a + 1 < 64 * R.n by omega)
  have b2 := H.byte (show a + 2 < 64 * R.n by omega)
  have b3 := H.byte (show a + 3 < 64 * R.n by omega)
  unfold RamAt.word
  omega
theorem wordO_lt {w : World} {R : RamAt} {M : List Int} (H : IsRam w R M) {a e : Nat} (h : wordO R M a = some e) : e < 4294967296 := by
  unfold wordO at h
  split at h
  · rename_i hc
    have := word_bd H hc
    simp only [Option.some.injEq] at h
    omega
  · cases h
theorem word_some {R : RamAt} {M : List Int} (w : World) (H : IsRam w R M) (a e : Nat) (ha2 : a < 4294967296) (h : wordO R M a = some e) :
    Calls Tryz.prog 103 #[.pointer (some ⟨R.b, 0, none⟩), .int .u32 a] w fun x w' => x = .returned (.tuple #[.int .u32 e, .bool true]) ∧ Same w w' := by
  refine (word_ram w H a ha2).mono ?_
  unfold wordO at h
  split at h
  · rename_i hc
    have hb := word_bd H hc
    simp only [Option.some.injEq] at h
    rintro x w' ⟨rfl, hk⟩
    rw [if_pos hc]
    refine ⟨?_, hk⟩
    rw [show (e : Int) = R.word M a from by omega]
  · cases h
theorem word_none {R : RamAt} {M : List Int} (w : World) (H : IsRam w R M) (a : Nat) (ha2 : a < 4294967296) (h : wordO R M a = none) :
    Calls Tryz.prog 103 #[.pointer (some ⟨R.b, 0, none⟩), .int .u32 a] w fun x w' => x = .returned (.tuple #[.int .u32 0, .bool false]) ∧ Same w w' := by
  refine (word_ram w H a ha2).mono ?_
  unfold wordO at h
  split at h
  · cases h
  · rename_i hc
    rintro x w' ⟨rfl, hk⟩
    rw [if_neg hc]
    exact ⟨rfl, hk⟩

/-- Where an address leads. -/
structure WayN where
  bits : Nat
  at_ : Nat
  ent : Nat
  dir : Nat
  tab : Nat
  page : Nat
def place0 (root va : Nat) : Nat := root - root % 64 + 4 * (va / 1024)
def place1 (e va : Nat) : Nat := e - e % 64 + 4 * (va / 64 % 16)
def place2 (e va : Nat) : Nat := e - e % 64 + va % 64
def bitsN (x y : Nat) : Nat := accN x y 2 ||| (y &&& 16)
def lookL (R : RamAt) (M : List Int) (root va : Nat) : Option WayN :=
  if 16 ≤ va / 1024 then none else
  match wordO R M (place0 root va) with
  | none => none
  | some e0 => if e0 % 2 = 0 then none else
    match wordO R M (place1 e0 va) with
    | none => none
    | some e1 => if e1 % 2 = 0 then none else
      if 64 * R.n ≤ place2 e1 va then none else
      some ⟨bitsN e0 e1, place2 e1 va, place1 e0 va, place0 root va / 64, place1 e0 va / 64, place2 e1 va / 64⟩
def wayA (x : WayN) : Array Value := #[.int .u32 (x.bits : Nat), .int .u32 (x.at_ : Nat), .int .u32 (x.ent : Nat), .int .i64 (x.dir : Nat), .int .i64 (x.tab : Nat), .int .i64 (x.page : Nat)]
def way0 : WayN := ⟨0, 0, 0, 0, 0, 0⟩
structure LookSt (w : World) (e0 e1 p0 p1 : Nat) (wr : World) : Prop where
  h0 : wr.heap[w.heap.size]? = some (.cells (wayA way0) 178 (0, 0))
  h1 : wr.heap[w.heap.size + 1]? = some (.cells #[.int .u32 (e0 : Nat), .int .u32 (e1 : Nat)] 219 (0, 0))
  h2 : wr.heap[w.heap.size + 1 + 1]? = some (.cells #[.int .u32 (p0 : Nat), .int .u32 (p1 : Nat)] 219 (0, 0))
  same : Same w wr
theorem LookSt.keeps {w wr w' : World} {e0 e1 p0 p1 : Nat} (h : LookSt w e0 e1 p0 p1 wr) (k : Same wr w') : LookSt w e0 e1 p0 p1 w' :=
  ⟨k.get h.h0 id, k.get h.h1 id, k.get h.h2 id, h.same.trans k⟩
theorem LookSt.setP0 {w wr : World} {e0 e1 p0 p1 : Nat} (h : LookSt w e0 e1 p0 p1 wr) (x : Nat) : LookSt w e0 e1 x p1 (wr.setCell ⟨w.heap.size + 1 + 1, 0, none⟩ (.int .u32 (x : Nat))) :=
  ⟨block_other _ h.h0 (by simp; omega), block_other _ h.h1 (by simp), block_set h.h2 0 _, Keeps.setCell h.same (fun e => by simp at e; omega) _⟩
theorem LookSt.setP1 {w wr : World} {e0 e1 p0 p1 : Nat} (h : LookSt w e0 e1 p0 p1 wr) (x : Nat) : LookSt w e0 e1 p0 x (wr.setCell ⟨w.heap.size + 1 + 1, 1, none⟩ (.int .u32 (x : Nat))) :=
  ⟨block_other _ h.h0 (by simp; omega), block_other _ h.h1 (by simp), block_set h.h2 1 _, Keeps.setCell h.same (fun e => by simp at e; omega) _⟩
theorem LookSt.setE0 {w wr : World} {e0 e1 p0 p1 : Nat} (h : LookSt w e0 e1 p0 p1 wr) (x : Nat) : LookSt w x e1 p0 p1 (wr.setCell ⟨w.heap.size + 1, 0, none⟩ (.int .u32 (x : Nat))) :=
  ⟨block_other _ h.h0 (by simp), block_set h.h1 0 _, block_other _ h.h2 (by simp), Keeps.setCell h.same (fun e => by simp at e; omega) _⟩
theorem LookSt.setE1 {w wr : World} {e0 e1 p0 p1 : Nat} (h : LookSt w e0 e1 p0 p1 wr) (x : Nat) : LookSt w e0 x p0 p1 (wr.setCell ⟨w.heap.size + 1, 1, none⟩ (.int .u32 (x : Nat))) :=
  ⟨block_other _ h.h0 (by simp), block_set h.h1 1 _, block_other _ h.h2 (by simp), Keeps.setCell h.same (fun e => by simp at e; omega) _⟩
theorem x_stW (ρ : Operand → Value) (dst : Option Tmp) (x y : Operand) (ty : TypeId) (pos : String) (after : Array Edge) (guard : Option (Nat × Bool)) :
    execOp ρ { dst, op := .store 178 x y, type := ty, pos, after, guard } = stRow 178 (ρ x) (ρ y) := rfl
theorem LookSt.store {w wr : World} {e0 e1 p0 p1 : Nat} (h : LookSt w e0 e1 p0 p1 wr) (x : WayN) :
    (stRow 178 (.pointer (some ⟨w.heap.size, 0, none⟩)) (.agg (wayA x))).run Tryz.prog wr = .ok .skip (wr.setRow w.heap.size (wayA x)) :=
  stRow_run wr _ _ 5 (wayA x) (by kernel_rfl) (by rw [rowAt_of h.h0]; rfl) rfl (by simp [Ones, wayA, Value.oneCell'])
theorem LookSt.row {w wr : World} {e0 e1 p0 p1 : Nat} (h : LookSt w e0 e1 p0 p1 wr) (x : WayN) : (wr.setRow w.heap.size (wayA x)).heap[w.heap.size]? = some (.cells (wayA x) 178 (0, 0)) := by
  simp [World.setRow, Array.getElem?_modify, h.h0]
def LookRel (R : RamAt) (M : List Int) (root va : Nat) (w : World) (t10 t30 : Value) (wr : World) : Prop :=
  (t30 = .int .i64 0 ∧ t10 = .int .u32 (root : Nat) ∧ LookSt w 0 0 0 0 wr) ∨
  (∃ e0, wordO R M (place0 root va) = some e0 ∧ e0 % 2 ≠ 0 ∧ t30 = .int .i64 1 ∧ t10 = .int .u32 (e0 : Nat) ∧ LookSt w e0 0 (place0 root va) 0 wr) ∨
  (∃ e0 e1, wordO R M (place0 root va) = some e0 ∧ e0 % 2 ≠ 0 ∧ wordO R M (place1 e0 va) = some e1 ∧ e1 % 2 ≠ 0 ∧ t30 = .int .i64 2 ∧ t10 = .int .u32 (e1 : Nat) ∧ LookSt w e0 e1 (place0 root va) (place1 e0 va) wr)
set_option maxRecDepth 100000 in
set_option maxHeartbeats 4000000 in
theorem look_far (p : Value) (w : World) (root va : Nat) (_hr : root < 4294967296) (hv : va < 4294967296) (hd : 16 ≤ va / 1024) :
    Calls Tryz.prog 72 #[p, .int .u32 root, .int .i64 16, .int .u32 va] w fun x w' => x = .returned (.tuple #[.agg (wayA way0), .bool false]) ∧ Same w w' := by
  have q0 : decide ((16 : Int) ≤ (va : Int) / 1024) = true := by simp; omega
  have e0 := wrapI ((va : Int) / 1024) (by omega) (by omega)
  go_enter Tryz.func72, Tryz.ntmps72
  go_wp2_with fail
  exact bodyPost_ret (results_ct rfl rfl (block_new _ _) Tryz.underlying178 rfl (by kernel_rfl)) rfl ⟨rfl, (Keeps.refl _ _).alloc _⟩
attribute [local go_sem ↓] x_stW
set_option maxRecDepth 100000 in
set_option maxHeartbeats 4000000 in
theorem look_any {R : RamAt} {M : List Int} (w : World) (H : IsRam w R M) (root va : Nat) (hr : root < 4294967296) (hv : va < 4294967296) :
    Calls Tryz.prog 72 #[.pointer (some ⟨R.b, 0, none⟩), .int .u32 root, .int .i64 16, .int .u32 va] w fun x w' => x = .returned (.tuple #[.agg (wayA ((lookL R M root va).getD way0)), .bool (lookL R M root va).isSome]) ∧ Same w w' := by
  have HH := hidE H
  have n2 := H.n2
  clear H
  generalize hL : lookL R M root va = L
  have HL := hidE hL
  clear hL
  by_cases hd : 16 ≤ va / 1024
  · obtain rfl : none = L := by have h := HL.out; unfold lookL at h; rw [if_pos hd] at h; exact h
    exact look_far _ w root va hr hv hd
  have q0 : decide ((16 : Int) ≤ (va : Int) / 1024) = false := by simp; omega
  have e0 := wrapI ((va : Int) / 1024) (by omega) (by omega)
  have e1 : bits .and .u32 ((va : Int) / 64) 15 = (va : Int) / 64 % 16 := and_15 _ (by omega) (by omega)
  have e2 : bits .andNot .u32 (root : Int) 63 = (root : Int) - root % 64 := andNot_63 _ (by omega) (by omega)
  have e3 : IntKind.u32.wrap (4 * ((va : Int) / 1024)) = 4 * ((va : Int) / 1024) := by simp [IntKind.wrap, IntKind.bits, IntKind.signed]; omega
  have e4 : IntKind.u32.wrap ((root : Int) - root % 64 + 4 * ((va : Int) / 1024)) = (place0 root va : Nat) := by unfold place0; simp [IntKind.wrap, IntKind.bits, IntKind.signed]; omega
  have e5 : IntKind.u32.wrap (4 * ((va : Int) / 64 % 16)) = 4 * ((va : Int) / 64 % 16) := by simp [IntKind.wrap, IntKind.bits, IntKind.signed]; omega
  have hp0 : place0 root va < 4294967296 := by unfold place0; omega
  have i0 : ∀ (x y : Value) (w : World), (Instr.index 219 (.agg #[x, y]) (.int .i64 0)).run Tryz.prog w = .ok x w := fun _ _ _ => by kernel_rfl
  have i1 : ∀ (x y : Value) (w : World), (Instr.index 219 (.agg #[x, y]) (.int .i64 1)).run Tryz.prog w = .ok y w := fun _ _ _ => by kernel_rfl
  go_enter Tryz.func72, Tryz.ntmps72
  go_wp2_with fail
  go_loopw [10, 30] (fun t10 t30 wr => LookRel R M root va w t10 t30 wr) (fun _ t30 _ => 2 - (intOf t30).toNat)
  case atStart => exact .inl ⟨rfl, rfl, block_old _ (block_old _ (block_new _ _)), block_old _ (block_atR _ (by simp)), block_atR _ (by simp), (((Keeps.refl _ _).alloc _).alloc _).alloc _⟩
  case round =>
    rcases hrel with ⟨rfl, rfl, hS⟩ | ⟨x0, ho0, hm0, rfl, rfl, hS⟩ | ⟨x0, x1, ho0, hm0, ho1, hm1, rfl, rfl, hS⟩
    · have f2 := frozen_of hS.h2
      have c2 := cell_of hS.h2
      have HS := hidE hS
      clear hS
      go_wp2_with fail
      cases hw : wordO R M (place0 root va) with
      | none =>
        refine (word_none _ (HH.out.same (HS.out.setP0 _).same) _ hp0 hw).mono ?_
        rintro _ w2 ⟨rfl, hk⟩
        have HS2 := hidE ((HS.out.setP0 _).keeps hk)
        have hst := HS2.out.store way0
        simp only [wayA, way0, Int.ofNat_zero] at hst
        obtain rfl : none = L := by have h := HL.out; unfold lookL at h; rw [if_neg hd] at h; simpa only [hw] using h
        clear hk HS
        go_wp2
        exact bodyPost_ret (results_ct rfl rfl (HS2.out.row way0) Tryz.underlying178 rfl (by kernel_rfl)) rfl ⟨rfl, Keeps.setRow HS2.out.same (fun h => absurd h (Nat.lt_irrefl _)) _⟩
      | some x0 =>
        have hx0 := wordO_lt HH.out hw
        have a1 := and_1 (x0 : Int) (by omega) (by omega)
        refine (word_some _ (HH.out.same (HS.out.setP0 _).same) _ x0 hp0 hw).mono ?_
        rintro _ w2 ⟨rfl, hk⟩
        have HS2 := hidE ((HS.out.setP0 _).keeps hk)
        clear hk
        by_cases hm : x0 % 2 = 0
        · have hst := HS2.out.store way0
          simp only [wayA, way0, Int.ofNat_zero] at hst
          obtain rfl : none = L := by have h := HL.out; unfold lookL at h; rw [if_neg hd] at h; simpa only [hw, if_pos hm] using h
          have q1 : decide ((x0 : Int) % 2 = 0) = true := by simp; omega
          clear HS
          go_wp2
          exact bodyPost_ret (results_ct rfl rfl (HS2.out.row way0) Tryz.underlying178 rfl (by kernel_rfl)) rfl ⟨rfl, Keeps.setRow HS2.out.same (fun h => absurd h (Nat.lt_irrefl _)) _⟩
        · have q1 : decide ((x0 : Int) % 2 = 0) = false := by simp; omega
          have c1 := cell_of HS2.out.h1
          have f1 := frozen_of HS2.out.h1
          clear HS
          go_wp2
          go_roundw
          case rel => exact .inr (.inl ⟨x0, hw, hm, rfl, rfl, HS2.out.setE0 x0⟩)
          case measure => decide
    · have hx0 := wordO_lt HH.out ho0
      have hp1 : place1 x0 va < 4294967296 := by unfold place1; omega
      have e6 : bits .andNot .u32 (x0 : Int) 63 = (x0 : Int) - x0 % 64 := andNot_63 _ (by omega) (by omega)
      have e7 : IntKind.u32.wrap ((x0 : Int) - x0 % 64 + 4 * ((va : Int) / 64 % 16)) = (place1 x0 va : Nat) := by unfold place1; simp [IntKind.wrap, IntKind.bits, IntKind.signed]; omega
      have f2 := frozen_of hS.h2
      have c2 := cell_of hS.h2
      have HS := hidE hS
      clear hS
      go_wp2_with fail
      cases hw : wordO R M (place1 x0 va) with
      | none =>
        refine (word_none _ (HH.out.same (HS.out.setP1 _).same) _ hp1 hw).mono ?_
        rintro _ w2 ⟨rfl, hk⟩
        have HS2 := hidE ((HS.out.setP1 _).keeps hk)
        have hst := HS2.out.store way0
        simp only [wayA, way0, Int.ofNat_zero] at hst
        obtain rfl : none = L := by have h := HL.out; unfold lookL at h; rw [if_neg hd] at h; simpa only [ho0, if_neg hm0, hw] using h
        clear hk HS
        go_wp2
        exact bodyPost_ret (results_ct rfl rfl (HS2.out.row way0) Tryz.underlying178 rfl (by kernel_rfl)) rfl ⟨rfl, Keeps.setRow HS2.out.same (fun h => absurd h (Nat.lt_irrefl _)) _⟩
      | some x1 =>
        have hx1 := wordO_lt HH.out hw
        have a1 := and_1 (x1 : Int) (by omega) (by omega)
        refine (word_some _ (HH.out.same (HS.out.setP1 _).same) _ x1 hp1 hw).mono ?_
        rintro _ w2 ⟨rfl, hk⟩
        have HS2 := hidE ((HS.out.setP1 _).keeps hk)
        clear hk
        by_cases hm : x1 % 2 = 0
        · have hst := HS2.out.store way0
          simp only [wayA, way0, Int.ofNat_zero] at hst
          obtain rfl : none = L := by have h := HL.out; unfold lookL at h; rw [if_neg hd] at h; simpa only [ho0, if_neg hm0, hw, if_pos hm] using h
          have q1 : decide ((x1 : Int) % 2 = 0) = true := by simp; omega
          clear HS
          go_wp2
          exact bodyPost_ret (results_ct rfl rfl (HS2.out.row way0) Tryz.underlying178 rfl (by kernel_rfl)) rfl ⟨rfl, Keeps.setRow HS2.out.same (fun h => absurd h (Nat.lt_irrefl _)) _⟩
        · have q1 : decide ((x1 : Int) % 2 = 0) = false := by simp; omega
          have c1 := cell_of HS2.out.h1
          have f1 := frozen_of HS2.out.h1
          clear HS
          go_wp2
          go_roundw
          case rel => exact .inr (.inr ⟨x0, x1, ho0, hm0, hw, hm, rfl, rfl, HS2.out.setE1 x1⟩)
          case measure => decide
    · have hx0 := wordO_lt HH.out ho0
      have hx1 := wordO_lt HH.out ho1
      have hp0 : place0 root va < 4294967296 := by unfold place0; omega
      have hp1 : place1 x0 va < 4294967296 := by unfold place1; omega
      have hp2 : place2 x1 va < 4294967296 := by unfold place2; omega
      have e6 : bits .andNot .u32 (x1 : Int) 63 = (x1 : Int) - x1 % 64 := andNot_63 _ (by omega) (by omega)
      have e7 : bits .and .u32 (va : Int) 63 = (va : Int) % 64 := and_63 _ (by omega) (by omega)
      have e8 : bits .or .u32 ((x1 : Int) - x1 % 64) ((va : Int) % 64) = (place2 x1 va : Nat) := by
        rw [or_63 _ _ (by omega) (by omega) (by omega) (by omega)]; unfold place2; omega
      have HS := hidE hS
      clear hS
      go_wp2_with fail
      refine (size_ram _ (HH.out.same HS.out.same)).mono ?_
      rintro _ w2 ⟨rfl, rfl⟩
      by_cases hz : 64 * R.n ≤ place2 x1 va
      · have hst := HS.out.store way0
        simp only [wayA, way0, Int.ofNat_zero] at hst
        obtain rfl : none = L := by have h := HL.out; unfold lookL at h; rw [if_neg hd] at h; simpa only [ho0, if_neg hm0, ho1, if_neg hm1, if_pos hz] using h
        have q1 : decide ((64 : Int) * R.n ≤ (place2 x1 va : Nat)) = true := by simp; omega
        go_wp2
        exact bodyPost_ret (results_ct rfl rfl (HS.out.row way0) Tryz.underlying178 rfl (by kernel_rfl)) rfl ⟨rfl, Keeps.setRow HS.out.same (fun h => absurd h (Nat.lt_irrefl _)) _⟩
      · have q1 : decide ((64 : Int) * R.n ≤ (place2 x1 va : Nat)) = false := by simp; omega
        obtain rfl : some ⟨bitsN x0 x1, place2 x1 va, place1 x0 va, place0 root va / 64, place1 x0 va / 64, place2 x1 va / 64⟩ = L := by have h := HL.out; unfold lookL at h; rw [if_neg hd] at h; simpa only [ho0, if_neg hm0, ho1, if_neg hm1, if_neg hz] using h
        have d0 : ((place0 root va : Nat) : Int).tdiv 64 = ((place0 root va / 64 : Nat) : Int) := by rw [Int.tdiv_eq_ediv_of_nonneg (by omega)]; omega
        have d1 : ((place1 x0 va : Nat) : Int).tdiv 64 = ((place1 x0 va / 64 : Nat) : Int) := by rw [Int.tdiv_eq_ediv_of_nonneg (by omega)]; omega
        have d2 : ((place2 x1 va : Nat) : Int).tdiv 64 = ((place2 x1 va / 64 : Nat) : Int) := by rw [Int.tdiv_eq_ediv_of_nonneg (by omega)]; omega
        have g0 := wrapI ((place0 root va : Int) / 64) (by omega) (by omega)
        have g1 := wrapI ((place1 x0 va : Int) / 64) (by omega) (by omega)
        have g2 := wrapI ((place2 x1 va : Int) / 64) (by omega) (by omega)
        have o1 : bits .and .u32 (x1 : Int) 16 = ((x1 &&& 16 : Nat) : Int) := u32_and_nat x1 16 hx1 (by omega)
        have o2 : bits .or .u32 ((accN x0 x1 2 : Nat) : Int) ((x1 &&& 16 : Nat) : Int) = ((bitsN x0 x1 : Nat) : Int) := u32_or_nat _ _ (Nat.lt_trans (stepN_lt _ _ (stepN_lt _ _ (by omega))) (by omega)) (Nat.lt_of_le_of_lt Nat.and_le_left hx1)
        generalize (x1 &&& 16 : Nat) = y16 at o1 o2
        go_wp2_with fail
        refine wp_region_ra [0, 1, 2, 3, 4, 5, 6, 7, 8, 9, 10, 11, 12, 13, 14, 15, 16, 17, 18, 19, 20] [21, 22] 0 (Same _) (by kernel_rfl) (by kernel_rfl) (fun u u' h k => Keeps.trans h k) (Keeps.refl _ _).drew ?_
        simp only [opsOf, List.filterMap_cons, List.filterMap_nil, List.getElem?_cons_zero, List.getElem?_cons_succ]
        refine seqV_run (v := ?_) rfl (fun u hu => ?_) ?_
        rotate_left
        · have U := HS.out.keeps hu
          have c1 := cell_of U.h1
          have c2 := cell_of U.h2
          have b1 := U.h1
          clear hu U
          go_simp
          first | done | with_reducible rfl
        simp only [Act.put, List.setIfInBounds_toArray, List.set_cons_zero, List.set_cons_succ]
        refine seqV_call (f := 104) (args := #[.slice (some ⟨w.heap.size + 1, 0, none⟩) 2 2]) (v := .int .u32 ((accN x0 x1 2 : Nat) : Int)) rfl (fun u hu => ?_) (fun u hu => (both_any u _ _ x0 x1 hx0 hx1 (HS.out.keeps hu).h1).mono fun e w' h => ⟨h.1, by rw [← h.2]; exact Keeps.refl _ _⟩) ?_
        · clear hu
          go_simp
        simp only [Act.put, List.setIfInBounds_toArray, List.set_cons_zero, List.set_cons_succ]
        repeat
          refine seqV_run (v := ?_) rfl (fun u hu => ?_) ?_
          rotate_left
          · have U := HS.out.keeps hu
            have c1 := cell_of U.h1
            have c2 := cell_of U.h2
            have b1 := U.h1
            clear hu U
            go_simp
            first | done | with_reducible rfl
          simp only [Act.put, List.setIfInBounds_toArray, List.set_cons_zero, List.set_cons_succ]
        refine seqV_nil ?_
        refine tailR_zero fun u1 hu _ => ?_
        have HU := hidE (HS.out.keeps hu)
        have hst : (stRow 178 (.pointer (some ⟨w.heap.size, 0, none⟩)) (.agg #[.int .u32 (bitsN x0 x1 : Nat), .int .u32 (place2 x1 va : Nat), .int .u32 (place1 x0 va : Nat), .int .i64 ((place0 root va : Int) / 64), .int .i64 ((place1 x0 va : Int) / 64), .int .i64 ((place2 x1 va : Int) / 64)])).run Tryz.prog u1 = .ok .skip (u1.setRow w.heap.size #[.int .u32 (bitsN x0 x1 : Nat), .int .u32 (place2 x1 va : Nat), .int .u32 (place1 x0 va : Nat), .int .i64 ((place0 root va : Int) / 64), .int .i64 ((place1 x0 va : Int) / 64), .int .i64 ((place2 x1 va : Int) / 64)]) := HU.out.store ⟨bitsN x0 x1, place2 x1 va, place1 x0 va, place0 root va / 64, place1 x0 va / 64, place2 x1 va / 64⟩
        clear hu
        go_wp2
        rw [hst]
        go_wp2
        exact bodyPost_ret (results_ct rfl rfl (HU.out.row ⟨bitsN x0 x1, place2 x1 va, place1 x0 va, place0 root va / 64, place1 x0 va / 64, place2 x1 va / 64⟩) Tryz.underlying178 rfl (by kernel_rfl)) rfl ⟨rfl, Keeps.setRow HU.out.same (fun h => absurd h (Nat.lt_irrefl _)) _⟩
end Go.Proofs.YtjkjnomhggmplaaGreat
