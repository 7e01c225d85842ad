/- The document's memory: Byte and Word of the reference of layer 5; Has and May of the reference of layer 6. The document's walk: Look and To of the reference of layer 6. The document's walk: To of the reference of layer 6. -/
import Derived.Test.YtjkjnomhggmplaaGreatRef5
import Derived.Test.YtjkjnomhggmplaaGreatScanD
import Derived.Test.YtjkjnomhggmplaaGreatRa
import Derived.Deep.Cut
namespace Go.Proofs.YtjkjnomhggmplaaGreat
open Go.RowKit
attribute [local go_sem ↓] Go.wp_at_zero Go.wp_at_succ

/-- The document's memory beside the program's. -/
structure DocR (w : World) (R : RamAt) (M : List Int) (g : Nat) : Prop where
  hg : w.heap[g]? = some (.cells (bytesV M) 5 (0, 0))
  len : M.length = 64 * R.n
  id : R.F = id
  by8 : ∀ x ∈ M, 0 ≤ x ∧ x < 256
  n1 : 1 ≤ R.n
  n2 : R.n ≤ 512
def docV (R : RamAt) (g : Nat) : Array Value := #[.slice (some ⟨g, 0, none⟩) (64 * R.n) (64 * R.n)]
section
variable {w w' : World} {R : RamAt} {M : List Int} {g : Nat}
theorem DocR.same (h : DocR w R M g) (k : Same w w') : DocR w' R M g := { h with hg := k.get h.hg _root_.id }
theorem DocR.get (h : DocR w R M g) (i : Nat) : R.get M i = M.getD i 0 := by
  unfold RamAt.get RamAt.pos
  rw [h.id]
  congr 1
  simp only [_root_.id]
  omega
theorem DocR.cell (h : DocR w R M g) {i : Nat} (hi : i < 64 * R.n) : w.cell? ⟨g, i, none⟩ = some (.int .u8 (R.get M i)) := by
  have hl : i < M.length := by rw [h.len]; exact hi
  rw [cell_of h.hg, h.get]
  simp [bytesV, hl]
theorem DocR.rng (h : DocR w R M g) {i : Nat} (hi : i < 64 * R.n) : 0 ≤ R.get M i ∧ R.get M i < 256 := by
  have hl : i < M.length := by rw [h.len]; exact hi
  rw [h.get]
  simp only [List.getD_eq_getElem?_getD, List.getElem?_eq_getElem hl, Option.getD_some]
  exact h.by8 _ (List.getElem_mem hl)
end
theorem d_has (x b : Nat) (hx : x < 4294967296) (hb : 0 < b) (w : World) : Calls Tryz.prog 90 #[.int .u32 (x : Nat), .int .u32 (b : Nat)] w fun e w' => e = .returned (.bool (decide (x / b % 2 = 1))) ∧ w = w' := by
  have d0 : ¬ (b : Int) = 0 := by omega
  have d0' : ¬ b = 0 := by omega
  have d1 : (x : Int).tdiv (b : Int) = ((x / b : Nat) : Int) := by rw [Int.tdiv_eq_ediv_of_nonneg (by omega)]; exact (Int.natCast_ediv x b).symm
  have hq : x / b < 4294967296 := Nat.lt_of_le_of_lt (Nat.div_le_self _ _) hx
  have d2 : (x : Int) / (b : Int) = ((x / b : Nat) : Int) := (Int.natCast_ediv x b).symm
  generalize x / b = q at *
  have d3 : IntKind.u32.wrap (q : Int) = (q : Int) := by simp [IntKind.wrap, IntKind.bits, IntKind.signed]; omega
  have d4 : (q : Int).tmod 2 = (q : Int) % 2 := by rw [Int.tmod_eq_emod_of_nonneg (by omega)]
  have d5 : IntKind.u32.wrap ((q : Int) % 2) = (q : Int) % 2 := by simp [IntKind.wrap, IntKind.bits, IntKind.signed]; omega
  have d6 : ((q : Int) % 2 == 1) = decide (q % 2 = 1) := by
    by_cases h : q % 2 = 1
    · rw [decide_eq_true h]; exact beq_iff_eq.2 (by omega)
    · rw [decide_eq_false h]; exact beq_eq_false_iff_ne.2 (by omega)
  go_enter Tryz.func90, Tryz.ntmps90
  go_wp2_with fail
  go_ret
  exact ⟨rfl, rfl⟩
theorem d_has1 (x : Nat) (hx : x < 4294967296) (w : World) : Calls Tryz.prog 90 #[.int .u32 (x : Nat), .int .u32 1] w fun e w' => e = .returned (.bool (decide (x / 1 % 2 = 1))) ∧ w = w' := d_has x 1 hx (by omega) w
theorem d_has2 (x : Nat) (hx : x < 4294967296) (w : World) : Calls Tryz.prog 90 #[.int .u32 (x : Nat), .int .u32 2] w fun e w' => e = .returned (.bool (decide (x / 2 % 2 = 1))) ∧ w = w' := d_has x 2 hx (by omega) w
theorem d_has4 (x : Nat) (hx : x < 4294967296) (w : World) : Calls Tryz.prog 90 #[.int .u32 (x : Nat), .int .u32 4] w fun e w' => e = .returned (.bool (decide (x / 4 % 2 = 1))) ∧ w = w' := d_has x 4 hx (by omega) w
theorem d_has8 (x : Nat) (hx : x < 4294967296) (w : World) : Calls Tryz.prog 90 #[.int .u32 (x : Nat), .int .u32 8] w fun e w' => e = .returned (.bool (decide (x / 8 % 2 = 1))) ∧ w = w' := d_has x 8 hx (by omega) w
theorem d_has16 (x : Nat) (hx : x < 4294967296) (w : World) : Calls Tryz.prog 90 #[.int .u32 (x : Nat), .int .u32 16] w fun e w' => e = .returned (.bool (decide (x / 16 % 2 = 1))) ∧ w = w' := d_has x 16 hx (by omega) w
set_option maxRecDepth 100000 in
theorem d_may (x : Nat) (hx : x < 4294967296) (u : Bool) (w : World) : Calls Tryz.prog 91 #[.int .u32 (x : Nat), .int .i64 1, .bool u] w fun e w' => e = .returned (.bool (mayL (x : Nat) 1 u)) ∧ w = w' := by
  have h1 := hidE (d_has1 x hx w)
  have h4 := hidE (d_has4 x hx w)
  have e : mayL (x : Nat) 1 u = (decide (x / 1 % 2 = 1) && (!u || decide (x / 4 % 2 = 1))) := by
    unfold mayL
    have c1 : decide ((x : Int) % 2 = 1) = decide (x / 1 % 2 = 1) := decide_eq_decide.2 (by omega)
    have c4 : decide ((x : Int) / 4 % 2 = 1) = decide (x / 4 % 2 = 1) := decide_eq_decide.2 (by omega)
    rw [c1, c4]
    simp
  rw [e]
  clear e
  generalize decide (x / 1 % 2 = 1) = b1 at *
  generalize decide (x / 4 % 2 = 1) = b4 at *
  cases b1 <;> cases u <;> cases b4 <;>
  · go_enter Tryz.func91, Tryz.ntmps91
    go_wp2_with (first | (go_at_call 90; first | (with_reducible refine h1.out.mono ?_; rintro _ w1 ⟨rfl, rfl⟩) | (with_reducible refine h4.out.mono ?_; rintro _ w1 ⟨rfl, rfl⟩)))
    go_ret
    exact ⟨rfl, rfl⟩
set_option maxHeartbeats 1000000 in
theorem d_byte {R : RamAt} {M : List Int} {g : Nat} (w : World) (H : DocR w R M g) (a : Nat) (ha : a < 4294967296) :
    Calls Tryz.prog 55 #[.agg (docV R g), .int .u32 (a : Nat)] w fun e w' => e = .returned (.tuple (if a < 64 * R.n then #[.int .u8 (R.get M a), .bool true] else #[.int .u8 0, .bool false])) ∧ Same w w' := by
  have n1 := H.n1
  have n2 := H.n2
  have e1 := wrapI (a : Int) (by omega) (by omega)
  unfold docV
  by_cases h : a < 64 * R.n
  · have c := cell_same ((Keeps.refl (fun _ => False) w).alloc (.cells #[.slice (some ⟨g, 0, none⟩) (64 * R.n) (64 * R.n)] 34)) (H.cell h)
    rw [if_pos h]
    clear H
    generalize 64 * R.n = L at *
    generalize R.get M a = x at *
    have q : decide ((L : Int) ≤ (a : Int)) = false := decide_eq_false (by omega)
    go_enter Tryz.func55, Tryz.ntmps55
    go_wp2_with fail
    go_ret2
    exact ⟨rfl, (Keeps.refl _ _).alloc _⟩
  · rw [if_neg h]
    clear H
    generalize 64 * R.n = L at *
    have q : decide ((L : Int) ≤ (a : Int)) = true := decide_eq_true (by omega)
    go_enter Tryz.func55, Tryz.ntmps55
    go_wp2_with fail
    go_ret2
    exact ⟨rfl, (Keeps.refl _ _).alloc _⟩
set_option maxRecDepth 100000 in
set_option maxHeartbeats 2000000 in
theorem d_word {R : RamAt} {M : List Int} {g : Nat} (w : World) (H : DocR w R M g) (a : Nat) (ha : a < 4294967296) :
    Calls Tryz.prog 92 #[.agg (docV R g), .int .u32 (a : Nat)] w fun e w' => e = .returned (.tuple (match wordO R M a with | some x => #[.int .u32 (x : Nat), .bool true] | none => #[.int .u32 0, .bool false])) ∧ Same w w' := by
  have n1 := H.n1
  have n2 := H.n2
  have e1 := wrapI (a : Int) (by omega) (by omega)
  have t4 : (a : Int).tmod 4 = (a : Int) % 4 := by rw [Int.tmod_eq_emod_of_nonneg (by omega)]
  have w4 : IntKind.u32.wrap ((a : Int) % 4) = (a : Int) % 4 := by simp [IntKind.wrap, IntKind.bits, IntKind.signed]; omega
  unfold docV wordO
  by_cases h : a % 4 = 0
  · have q4 : ((a : Int) % 4 != 0) = false := by simp; omega
    by_cases hl : a < 64 * R.n
    · rw [if_pos ⟨h, hl⟩]
      have k := ((Keeps.refl (fun _ => False) w).alloc (.cells #[.slice (some ⟨g, 0, none⟩) (64 * R.n) (64 * R.n)] 34))
      have c0 := cell_same k (H.cell hl)
      have c1 := cell_same k (H.cell (show a + 1 < 64 * R.n by omega))
      have c2 := cell_same k (H.cell (show a + 2 < 64 * R.n by omega))
      have c3 := cell_same k (H.cell (show a + 3 < 64 * R.n by omega))
      have b0 := H.rng hl
      have b1 := H.rng (show a + 1 < 64 * R.n by omega)
      have b2 := H.rng (show a + 2 < 64 * R.n by omega)
      have b3 := H.rng (show a + 3 < 64 * R.n by omega)
      simp only
      unfold RamAt.word
      clear H k
      generalize R.get M a = x0 at *
      generalize R.get M (a + 1) = x1 at *
      generalize R.get M (a + 2) = x2 at *
      generalize R.get M (a + 3) = x3 at *
      obtain ⟨L, hL⟩ : ∃ L, L = 64 * R.n := ⟨_, rfl⟩
      rw [← hL]
      have n22 : ((a : Int) + 2).toNat = a + 2 := by omega
      have n33 : ((a : Int) + 3).toNat = a + 3 := by omega
      have i1 : (0 : Int) ≤ (a : Int) + 1 ∧ (a : Int) + 1 < (L : Int) := by omega
      have i2 : (0 : Int) ≤ (a : Int) + 2 ∧ (a : Int) + 2 < (L : Int) := by omega
      have i3 : (0 : Int) ≤ (a : Int) + 3 ∧ (a : Int) + 3 < (L : Int) := by omega
      rw [← hL] at hl c0 c1 c2 c3
      clear hL
      have C := hidE (And.intro c0 (And.intro c1 (And.intro c2 c3)))
      clear c0 c1 c2 c3
      have q : decide ((L : Int) ≤ (a : Int)) = false := decide_eq_false (by omega)
      have s1 : IntKind.u32.wrap ((a : Int) + 1) = (a : Int) + 1 := by simp [IntKind.wrap, IntKind.bits, IntKind.signed]; omega
      have s2 : IntKind.u32.wrap ((a : Int) + 2) = (a : Int) + 2 := by simp [IntKind.wrap, IntKind.bits, IntKind.signed]; omega
      have s3 : IntKind.u32.wrap ((a : Int) + 3) = (a : Int) + 3 := by simp [IntKind.wrap, IntKind.bits, IntKind.signed]; omega
      have v0 : IntKind.u32.wrap x0 = x0 := by simp [IntKind.wrap, IntKind.bits, IntKind.signed]; omega
      have v1 : IntKind.u32.wrap x1 = x1 := by simp [IntKind.wrap, IntKind.bits, IntKind.signed]; omega
      have v2 : IntKind.u32.wrap x2 = x2 := by simp [IntKind.wrap, IntKind.bits, IntKind.signed]; omega
      have v3 : IntKind.u32.wrap x3 = x3 := by simp [IntKind.wrap, IntKind.bits, IntKind.signed]; omega
      have m1 : IntKind.u32.wrap (256 * x1) = 256 * x1 := by simp [IntKind.wrap, IntKind.bits, IntKind.signed]; omega
      have m2 : IntKind.u32.wrap (65536 * x2) = 65536 * x2 := by simp [IntKind.wrap, IntKind.bits, IntKind.signed]; omega
      have m3 : IntKind.u32.wrap (16777216 * x3) = 16777216 * x3 := by simp [IntKind.wrap, IntKind.bits, IntKind.signed]; omega
      have a1 : IntKind.u32.wrap (x0 + 256 * x1) = x0 + 256 * x1 := by simp [IntKind.wrap, IntKind.bits, IntKind.signed]; omega
      have a2 : IntKind.u32.wrap (x0 + 256 * x1 + 65536 * x2) = x0 + 256 * x1 + 65536 * x2 := by simp [IntKind.wrap, IntKind.bits, IntKind.signed]; omega
      have a3 : IntKind.u32.wrap (x0 + 256 * x1 + 65536 * x2 + 16777216 * x3) = x0 + 256 * x1 + 65536 * x2 + 16777216 * x3 := by simp [IntKind.wrap, IntKind.bits, IntKind.signed]; omega
      have hz := hidE (show ((x0 + 256 * x1 + 65536 * x2 + 16777216 * x3).toNat : Int) = x0 + 256 * x1 + 65536 * x2 + 16777216 * x3 by omega)
      go_enter Tryz.func92, Tryz.ntmps92
      go_wp2_with fail
      refine wp_region_ra [0, 1, 2, 3, 4, 5, 6, 7, 8, 9, 10, 11, 12, 13, 14, 15, 16, 17, 18, 19, 20, 21, 22, 23, 24, 25, 26, 27, 28, 29, 30, 31, 32] [33, 34] 0 (Same _) (by kernel_rfl) (by kernel_rfl) (fun u u' h k => Keeps.trans h k) (Keeps.refl _ _).drew ?_
      simp only [opsOf, List.filterMap_cons, List.filterMap_nil, List.getElem?_cons_zero, List.getElem?_cons_succ]
      repeat (refine seqV_run (v := ?_) rfl (fun u hu => ?_) ?_; rotate_left; (focus (have d := cell_of (hu.get (block_new _ _) id); have d0 := cell_same hu C.out.1; have d1 := cell_same hu C.out.2.1; have d2 := cell_same hu C.out.2.2.1; have d3 := cell_same hu C.out.2.2.2; clear hu; go_simp; first | done | with_reducible rfl)); (try simp only [Act.put, List.setIfInBounds_toArray, List.set_cons_zero, List.set_cons_succ]))
      refine seqV_nil ?_
      refine tailR_zero fun u5 hu _ => ?_
      (try simp only [Act.put, List.setIfInBounds_toArray, List.set_cons_zero, List.set_cons_succ])
      have HU := hidE hu
      clear hu
      go_wp2
      go_ret2
      refine ⟨?_, ((Keeps.refl _ _).alloc _).trans HU.out⟩
      rw [hz.out]
      rfl
    · rw [if_neg (fun x => hl x.2)]
      clear H
      simp only
      generalize 64 * R.n = L at *
      have q : decide ((L : Int) ≤ (a : Int)) = true := decide_eq_true (by omega)
      go_enter Tryz.func92, Tryz.ntmps92
      go_wp2_with fail
      go_ret2
      exact ⟨rfl, (Keeps.refl _ _).alloc _⟩
  · have q4 : ((a : Int) % 4 != 0) = true := by simp; omega
    rw [if_neg (fun x => h x.1)]
    clear H
    simp only
    go_enter Tryz.func92, Tryz.ntmps92
    go_wp2_with fail
    go_ret2
    exact ⟨rfl, (Keeps.refl _ _).alloc _⟩
theorem d_word_some {R : RamAt} {M : List Int} {g : Nat} (w : World) (H : DocR w R M g) (a x : Nat) (ha : a < 4294967296) (h : wordO R M a = some x) :
    Calls Tryz.prog 92 #[.agg (docV R g), .int .u32 (a : Nat)] w fun e w' => e = .returned (.tuple #[.int .u32 (x : Nat), .bool true]) ∧ Same w w' := by
  have H := d_word w H a ha
  rw [h] at H
  exact H
theorem d_word_none {R : RamAt} {M : List Int} {g : Nat} (w : World) (H : DocR w R M g) (a : Nat) (ha : a < 4294967296) (h : wordO R M a = none) :
    Calls Tryz.prog 92 #[.agg (docV R g), .int .u32 (a : Nat)] w fun e w' => e = .returned (.tuple #[.int .u32 0, .bool false]) ∧ Same w w' := by
  have H := d_word w H a ha
  rw [h] at H
  exact H
theorem d_byte_yes {R : RamAt} {M : List Int} {g : Nat} (w : World) (H : DocR w R M g) (a : Nat) (ha : a < 4294967296) (h : a < 64 * R.n) :
    Calls Tryz.prog 55 #[.agg (docV R g), .int .u32 (a : Nat)] w fun e w' => e = .returned (.tuple #[.int .u8 (R.get M a), .bool true]) ∧ Same w w' := by
  have H := d_byte w H a ha
  rw [if_pos h] at H
  exact H
theorem d_byte_no {R : RamAt} {M : List Int} {g : Nat} (w : World) (H : DocR w R M g) (a : Nat) (ha : a < 4294967296) (h : ¬ a < 64 * R.n) :
    Calls Tryz.prog 55 #[.agg (docV R g), .int .u32 (a : Nat)] w fun e w' => e = .returned (.tuple #[.int .u8 0, .bool false]) ∧ Same w w' := by
  have H := d_byte w H a ha
  rw [if_neg h] at H
  exact H
theorem DocR.word_lt {w : World} {R : RamAt} {M : List Int} {g : Nat} (H : DocR w R M g) {a x : Nat} (h : wordO R M a = some x) : x < 4294967296 := by
  unfold wordO at h
  split at h
  · rename_i hc
    have b0 := H.rng hc.2
    have b1 := H.rng (show a + 1 < 64 * R.n by omega)
    have b2 := H.rng (show a + 2 < 64 * R.n by omega)
    have b3 := H.rng (show a + 3 < 64 * R.n by omega)
    unfold RamAt.word at h
    simp only [Option.some.injEq] at h
    omega
  · cases h
end Go.Proofs.YtjkjnomhggmplaaGreat
namespace Go.Proofs.YtjkjnomhggmplaaGreat
open Go.RowKit
attribute [local go_sem ↓] Go.wp_at_zero Go.wp_at_succ

theorem bits_all : ∀ x y : Fin 32, x.val % 2 = 1 → y.val % 2 = 1 → bitsN x.val y.val = 1 + (if x.val / 2 % 2 = 1 ∧ y.val / 2 % 2 = 1 then 2 else 0) + (if x.val / 4 % 2 = 1 ∧ y.val / 4 % 2 = 1 then 4 else 0) + (if x.val / 8 % 2 = 1 ∨ y.val / 8 % 2 = 1 then 8 else 0) + (if y.val / 16 % 2 = 1 then 16 else 0) := by decide +kernel
theorem bitsN_mod (x y : Nat) : bitsN x y = bitsN (x % 32) (y % 32) := by
  unfold bitsN accN
  simp only
  have h7 : (7 : Nat) < 16 := by omega
  rw [stepN_mod 7 x h7, stepN_mod 7 (x % 32) h7, Nat.mod_mod_of_dvd x (by decide : 16 ∣ 32)]
  have hl := stepN_lt 7 (x % 16) h7
  rw [stepN_mod _ y hl, stepN_mod _ (y % 32) hl, Nat.mod_mod_of_dvd y (by decide : 16 ∣ 32)]
  congr 1
  have h1 : y % 32 = y &&& 31 := by rw [show (31 : Nat) = 2 ^ 5 - 1 from rfl, Nat.and_two_pow_sub_one_eq_mod]
  rw [h1, Nat.and_assoc]
  rfl
theorem bits_sum (x y : Nat) (hx : x % 2 = 1) (hy : y % 2 = 1) : bitsN x y = 1 + (if x / 2 % 2 = 1 ∧ y / 2 % 2 = 1 then 2 else 0) + (if x / 4 % 2 = 1 ∧ y / 4 % 2 = 1 then 4 else 0) + (if x / 8 % 2 = 1 ∨ y / 8 % 2 = 1 then 8 else 0) + (if y / 16 % 2 = 1 then 16 else 0) := by
  have h := bits_all ⟨x % 32, by omega⟩ ⟨y % 32, by omega⟩ (by simp only; omega) (by simp only; omega)
  simp only at h
  rw [bitsN_mod, h, show x % 32 / 2 % 2 = x / 2 % 2 by omega, show y % 32 / 2 % 2 = y / 2 % 2 by omega, show x % 32 / 4 % 2 = x / 4 % 2 by omega, show y % 32 / 4 % 2 = y / 4 % 2 by omega,
    show x % 32 / 8 % 2 = x / 8 % 2 by omega, show y % 32 / 8 % 2 = y / 8 % 2 by omega, show y % 32 / 16 % 2 = y / 16 % 2 by omega]

theorem x_stD (ρ : Operand → Value) (dst : Option Tmp) (x y : Operand) (ty : TypeId) (pos : String) (after : Array Edge) (guard : Option (Nat × Bool)) :
    execOp ρ { dst, op := .store 143 x y, type := ty, pos, after, guard } = stRow 143 (ρ x) (ρ y) := rfl
theorem x_ldD (ρ : Operand → Value) (dst : Option Tmp) (x : Operand) (ty : TypeId) (pos : String) (after : Array Edge) (guard : Option (Nat × Bool)) :
    execOp ρ { dst, op := .load 143 x, type := ty, pos, after, guard } = ldRow 143 (ρ x) := rfl
theorem st_D {W : World} {b : Nat} {y : WayN} (hb : W.heap[b]? = some (.cells (wayA y) 143 (0, 0))) (x : WayN) :
    (stRow 143 (.pointer (some ⟨b, 0, none⟩)) (.agg (wayA x))).run Tryz.prog W = .ok .skip (W.setRow b (wayA x)) :=
  stRow_run W _ _ 5 (wayA x) (by kernel_rfl) (by rw [rowAt_of hb]; rfl) rfl (by simp [Ones, wayA, Value.oneCell'])
theorem ld_D {W : World} {b : Nat} {y : WayN} (hb : W.heap[b]? = some (.cells (wayA y) 143 (0, 0))) :
    (ldRow 143 (.pointer (some ⟨b, 0, none⟩))).run Tryz.prog W = .ok (.value (.agg (wayA y))) W := by
  have h := ldRow_run (P := Tryz.prog) W 143 b 5 _ Tryz.underlying143 rfl (by kernel_rfl) (by rw [rowAt_of hb]; rfl)
  rw [rowAt_of hb] at h
  exact h
theorem row_D {W : World} {b : Nat} {A : Array Value} {T : TypeId} {f : Nat × Nat} (hb : W.heap[b]? = some (.cells A T f)) (B : Array Value) : (W.setRow b B).heap[b]? = some (.cells B T f) := by
  simp [World.setRow, Array.getElem?_modify, hb]
theorem row_O {W : World} {b k : Nat} {x : Obj} (hb : W.heap[k]? = some x) (hk : k ≠ b) (B : Array Value) : (W.setRow b B).heap[k]? = some x := by
  simp [World.setRow, Array.getElem?_modify, hb, Ne.symm hk]
/-- Look under way. -/
structure LkD (w : World) (k : Nat) (x : WayN) (wr : World) : Prop where
  h1 : wr.heap[w.heap.size + 1]? = some (.cells (wayA way0) 143 (0, 0))
  h2 : wr.heap[k]? = some (.cells (wayA x) 143 (0, 0))
  hk : w.heap.size + 1 < k
  same : Same w wr
theorem LkD.set {w wr : World} {k : Nat} {x : WayN} (h : LkD w k x wr) (v : Nat) : LkD w k ⟨v, x.at_, x.ent, x.dir, x.tab, x.page⟩ (wr.setCell ⟨k, 0, none⟩ (.int .u32 (v : Nat))) :=
  ⟨block_other _ h.h1 (by have := h.hk; simp only; omega), (block_set h.h2 0 _).trans (by simp [wayA]), h.hk, h.same.setCell (fun hb => absurd hb (by have := h.hk; simp only; omega)) _⟩

attribute [local go_sem ↓] x_stD x_ldD
set_option maxRecDepth 100000 in
set_option maxHeartbeats 8000000 in
theorem d_look {R : RamAt} {M : List Int} {g : Nat} (w : World) (H : DocR w R M g) (root va : Nat) (hr : root < 4294967296) (hv : va < 4294967296) :
    Calls Tryz.prog 52 #[.agg (docV R g), .int .u32 (root : Nat), .int .i64 16, .int .u32 (va : Nat)] w fun e w' => e = .returned (.tuple #[.agg (wayA ((lookL R M root va).getD way0)), .bool (lookL R M root va).isSome]) ∧ Same w w' := by
  have HH := hidE H
  have n2 := H.n2
  clear H
  generalize hL : lookL R M root va = L
  have HL := hidE hL
  clear hL
  have e0 := wrapI ((va : Int) / 1024) (by omega) (by omega)
  have d1 : (va : Int).tdiv 1024 = (va : Int) / 1024 := by rw [Int.tdiv_eq_ediv_of_nonneg (by omega)]
  have w1 : IntKind.u32.wrap ((va : Int) / 1024) = (va : Int) / 1024 := by simp [IntKind.wrap, IntKind.bits, IntKind.signed]; omega
  have hB1 := block_atR (.cells (wayA way0) 143) (by simp : (w.alloc (.cells (docV R g) 34)).heap.size = w.heap.size + 1)
  have hK0 : Same w ((w.alloc (.cells (docV R g) 34)).alloc (.cells (wayA way0) 143)) := ((Keeps.refl _ _).alloc _).alloc _
  have hB0 := block_old (.cells (wayA way0) 143) (block_new w (.cells (docV R g) 34))
  have HB1 := hidE hB1
  have HK0 := hidE hK0
  have HB0 := hidE hB0
  simp only [docV, wayA, way0, Int.ofNat_zero] at hB1 hB0
  by_cases hd : 16 ≤ va / 1024
  · obtain rfl : none = L := by have h := HL.out; unfold lookL at h; rw [if_pos hd] at h; exact h
    have q0 : decide ((16 : Int) ≤ (va : Int) / 1024) = true := decide_eq_true (by omega)
    have hst := st_D HB1.out way0
    simp only [docV, wayA, way0, Int.ofNat_zero] at hst
    unfold docV
    clear hB1 hB0 hK0
    go_enter Tryz.func52, Tryz.ntmps52
    go_wp2_with fail
    exact bodyPost_ret (results_ct rfl rfl (row_D HB1.out _) Tryz.underlying143 rfl (by kernel_rfl)) rfl ⟨rfl, HK0.out.setRow (fun h => absurd h (by omega)) _⟩
  have q0 : decide ((16 : Int) ≤ (va : Int) / 1024) = false := decide_eq_false (by omega)
  have d2 : (root : Int).tmod 64 = (root : Int) % 64 := by rw [Int.tmod_eq_emod_of_nonneg (by omega)]
  have w2 : IntKind.u32.wrap ((root : Int) % 64) = (root : Int) % 64 := by simp [IntKind.wrap, IntKind.bits, IntKind.signed]; omega
  have w3 : IntKind.u32.wrap ((root : Int) - (root : Int) % 64) = (root : Int) - (root : Int) % 64 := by simp [IntKind.wrap, IntKind.bits, IntKind.signed]; omega
  have w4 : IntKind.u32.wrap (4 * ((va : Int) / 1024)) = 4 * ((va : Int) / 1024) := by simp [IntKind.wrap, IntKind.bits, IntKind.signed]; omega
  have w5 : IntKind.u32.wrap ((root : Int) - (root : Int) % 64 + 4 * ((va : Int) / 1024)) = (place0 root va : Nat) := by unfold place0; simp [IntKind.wrap, IntKind.bits, IntKind.signed]; omega
  have d3 : (va : Int).tdiv 64 = (va : Int) / 64 := by rw [Int.tdiv_eq_ediv_of_nonneg (by omega)]
  have w6 : IntKind.u32.wrap ((va : Int) / 64) = (va : Int) / 64 := by simp [IntKind.wrap, IntKind.bits, IntKind.signed]; omega
  have d4 : ((va : Int) / 64).tmod 16 = (va : Int) / 64 % 16 := by rw [Int.tmod_eq_emod_of_nonneg (by omega)]
  have w7 : IntKind.u32.wrap ((va : Int) / 64 % 16) = (va : Int) / 64 % 16 := by simp [IntKind.wrap, IntKind.bits, IntKind.signed]; omega
  have w8 : IntKind.u32.wrap (4 * ((va : Int) / 64 % 16)) = 4 * ((va : Int) / 64 % 16) := by simp [IntKind.wrap, IntKind.bits, IntKind.signed]; omega
  have d5 : (va : Int).tmod 64 = (va : Int) % 64 := by rw [Int.tmod_eq_emod_of_nonneg (by omega)]
  have w9 : IntKind.u32.wrap ((va : Int) % 64) = (va : Int) % 64 := by simp [IntKind.wrap, IntKind.bits, IntKind.signed]; omega
  have hp0 : place0 root va < 4294967296 := by unfold place0; omega
  have Hf : Hid (∀ h : ¬ 16 ≤ va / 1024, _ ) := hidE (fun (h : ¬ 16 ≤ va / 1024) => HL.out)
  have HL : Hid ((match wordO R M (place0 root va) with
    | none => none
    | some e0 => if e0 % 2 = 0 then none else
      match wordO R M (place1 e0 va) with
      | none => none
      | some e1 => if e1 % 2 = 0 then none else
        if 64 * R.n ≤ place2 e1 va then none else
        some (⟨bitsN e0 e1, place2 e1 va, place1 e0 va, place0 root va / 64, place1 e0 va / 64, place2 e1 va / 64⟩ : WayN)) = L) := hidE (by have h := HL.out; unfold lookL at h; rw [if_neg hd] at h; exact h)
  clear Hf
  unfold docV
  go_enter Tryz.func52, Tryz.ntmps52
  go_wp2_with fail
  clear hB1 hB0 hK0
  cases hw0 : wordO R M (place0 root va) with
  | none =>
    refine (d_word_none _ (HH.out.same HK0.out) _ hp0 hw0).mono ?_
    rintro _ wa ⟨rfl, hk⟩
    obtain rfl : none = L := by have h := HL.out; rw [hw0] at h; exact h
    have HBx := hidE (hk.get HB1.out id)
    have hst := st_D HBx.out way0
    simp only [wayA, way0, Int.ofNat_zero] at hst
    go_wp2_with fail
    exact bodyPost_ret (results_ct rfl rfl (row_D HBx.out _) Tryz.underlying143 rfl (by kernel_rfl)) rfl ⟨rfl, (HK0.out.trans hk).setRow (fun h => absurd h (by omega)) _⟩
  | some x0 =>
    have hx0 := HH.out.word_lt hw0
    have o0 : (x0 : Int).tmod 2 = (x0 : Int) % 2 := by rw [Int.tmod_eq_emod_of_nonneg (by omega)]
    have o1 : IntKind.u32.wrap ((x0 : Int) % 2) = (x0 : Int) % 2 := by simp [IntKind.wrap, IntKind.bits, IntKind.signed]; omega
    refine (d_word_some _ (HH.out.same HK0.out) _ x0 hp0 hw0).mono ?_
    rintro _ wa ⟨rfl, hk⟩
    by_cases hm0 : x0 % 2 = 0
    · have o2 : ((x0 : Int) % 2 == 0) = true := beq_iff_eq.2 (by omega)
      obtain rfl : none = L := by have h := HL.out; rw [hw0] at h; simpa only [if_pos hm0] using h
      have HBx := hidE (hk.get HB1.out id)
      have hst := st_D HBx.out way0
      simp only [wayA, way0, Int.ofNat_zero] at hst
      go_wp2_with fail
      exact bodyPost_ret (results_ct rfl rfl (row_D HBx.out _) Tryz.underlying143 rfl (by kernel_rfl)) rfl ⟨rfl, (HK0.out.trans hk).setRow (fun h => absurd h (by omega)) _⟩
    have o2 : ((x0 : Int) % 2 == 0) = false := beq_eq_false_iff_ne.2 (by omega)
    have HK1 := hidE (HK0.out.trans hk)
    have HBa := hidE (hk.get HB1.out id)
    have hB0 := hk.get HB0.out id
    have HBo := hidE hB0
    simp only [docV] at hB0
    have d6 : (x0 : Int).tmod 64 = (x0 : Int) % 64 := by rw [Int.tmod_eq_emod_of_nonneg (by omega)]
    have v2 : IntKind.u32.wrap ((x0 : Int) % 64) = (x0 : Int) % 64 := by simp [IntKind.wrap, IntKind.bits, IntKind.signed]; omega
    have v3 : IntKind.u32.wrap ((x0 : Int) - (x0 : Int) % 64) = (x0 : Int) - (x0 : Int) % 64 := by simp [IntKind.wrap, IntKind.bits, IntKind.signed]; omega
    have v5 : IntKind.u32.wrap ((x0 : Int) - (x0 : Int) % 64 + 4 * ((va : Int) / 64 % 16)) = (place1 x0 va : Nat) := by unfold place1; simp [IntKind.wrap, IntKind.bits, IntKind.signed]; omega
    have hp1 : place1 x0 va < 4294967296 := by unfold place1; omega
    have HL : Hid ((match wordO R M (place1 x0 va) with
      | none => none
      | some e1 => if e1 % 2 = 0 then none else
        if 64 * R.n ≤ place2 e1 va then none else
        some (⟨bitsN x0 e1, place2 e1 va, place1 x0 va, place0 root va / 64, place1 x0 va / 64, place2 e1 va / 64⟩ : WayN)) = L) := hidE (by have h := HL.out; rw [hw0] at h; simpa only [if_neg hm0] using h)
    clear hk hw0
    have cb := cell_of hB0
    clear hB0
    go_wp2_with fail
    cases hw1 : wordO R M (place1 x0 va) with
    | none =>
      refine (d_word_none _ (HH.out.same HK1.out) _ hp1 hw1).mono ?_
      rintro _ wb ⟨rfl, hk⟩
      obtain rfl : none = L := by have h := HL.out; rw [hw1] at h; exact h
      clear cb
      have HBx := hidE (hk.get HBa.out id)
      have hst := st_D HBx.out way0
      simp only [wayA, way0, Int.ofNat_zero] at hst
      go_wp2_with fail
      exact bodyPost_ret (results_ct rfl rfl (row_D HBx.out _) Tryz.underlying143 rfl (by kernel_rfl)) rfl ⟨rfl, (HK1.out.trans hk).setRow (fun h => absurd h (by omega)) _⟩
    | some x1 =>
      have hx1 := HH.out.word_lt hw1
      have p0 : (x1 : Int).tmod 2 = (x1 : Int) % 2 := by rw [Int.tmod_eq_emod_of_nonneg (by omega)]
      have p1 : IntKind.u32.wrap ((x1 : Int) % 2) = (x1 : Int) % 2 := by simp [IntKind.wrap, IntKind.bits, IntKind.signed]; omega
      refine (d_word_some _ (HH.out.same HK1.out) _ x1 hp1 hw1).mono ?_
      rintro _ wb ⟨rfl, hk⟩
      clear cb
      have HK2 := hidE (HK1.out.trans hk)
      have HBb := hidE (hk.get HBa.out id)
      have hB0 := hk.get HBo.out id
      clear hk
      by_cases hm1 : x1 % 2 = 0
      · have p2 : ((x1 : Int) % 2 == 0) = true := beq_iff_eq.2 (by omega)
        obtain rfl : none = L := by have h := HL.out; rw [hw1] at h; simpa only [if_pos hm1] using h
        have hst := st_D HBb.out way0
        simp only [wayA, way0, Int.ofNat_zero] at hst
        clear hB0
        go_wp2_with fail
        exact bodyPost_ret (results_ct rfl rfl (row_D HBb.out _) Tryz.underlying143 rfl (by kernel_rfl)) rfl ⟨rfl, HK2.out.setRow (fun h => absurd h (by omega)) _⟩
      have p2 : ((x1 : Int) % 2 == 0) = false := beq_eq_false_iff_ne.2 (by omega)
      have HBp := hidE hB0
      simp only [docV] at hB0
      have cb := cell_of hB0
      clear hB0
      have d7 : (x1 : Int).tmod 64 = (x1 : Int) % 64 := by rw [Int.tmod_eq_emod_of_nonneg (by omega)]
      have y2 : IntKind.u32.wrap ((x1 : Int) % 64) = (x1 : Int) % 64 := by simp [IntKind.wrap, IntKind.bits, IntKind.signed]; omega
      have y3 : IntKind.u32.wrap ((x1 : Int) - (x1 : Int) % 64) = (x1 : Int) - (x1 : Int) % 64 := by simp [IntKind.wrap, IntKind.bits, IntKind.signed]; omega
      have y5 : IntKind.u32.wrap ((x1 : Int) - (x1 : Int) % 64 + (va : Int) % 64) = (place2 x1 va : Nat) := by unfold place2; simp [IntKind.wrap, IntKind.bits, IntKind.signed]; omega
      have hp2 : place2 x1 va < 4294967296 := by unfold place2; omega
      have HL : Hid ((if 64 * R.n ≤ place2 x1 va then none else
          some (⟨bitsN x0 x1, place2 x1 va, place1 x0 va, place0 root va / 64, place1 x0 va / 64, place2 x1 va / 64⟩ : WayN)) = L) := hidE (by have h := HL.out; rw [hw1] at h; simpa only [if_neg hm1] using h)
      clear hw1
      go_wp2_with fail
      generalize place0 root va = P0 at *
      generalize place1 x0 va = P1 at *
      generalize place2 x1 va = P2 at *
      clear cb w5 v5 y5
      by_cases hz : 64 * R.n ≤ P2
      · refine (d_byte_no _ (HH.out.same HK2.out) _ hp2 (by omega)).mono ?_
        rintro _ wd ⟨rfl, hk⟩
        obtain rfl : none = L := by have h := HL.out; rw [if_pos hz] at h; exact h
        have HBx := hidE (hk.get HBb.out id)
        have hst := st_D HBx.out way0
        simp only [wayA, way0, Int.ofNat_zero] at hst
        go_wp2_with fail
        exact bodyPost_ret (results_ct rfl rfl (row_D HBx.out _) Tryz.underlying143 rfl (by kernel_rfl)) rfl ⟨rfl, (HK2.out.trans hk).setRow (fun h => absurd h (by omega)) _⟩
      · refine (d_byte_yes _ (HH.out.same HK2.out) _ hp2 (by omega)).mono ?_
        rintro _ wd ⟨rfl, hk⟩
        obtain rfl := (by have h := HL.out; rw [if_neg hz] at h; exact h : some _ = L)
        have HK3 := hidE (HK2.out.trans hk)
        have HBc := hidE (hk.get HBb.out id)
        have hlt := lt_of_block HBc.out
        clear hk
        obtain ⟨D0, hD0⟩ : ∃ D, D = P0 / 64 := ⟨_, rfl⟩
        obtain ⟨D1, hD1⟩ : ∃ D, D = P1 / 64 := ⟨_, rfl⟩
        obtain ⟨D2, hD2⟩ : ∃ D, D = P2 / 64 := ⟨_, rfl⟩
        have f0 : (P0 : Int).tdiv 64 = (D0 : Int) := by rw [Int.tdiv_eq_ediv_of_nonneg (by omega)]; omega
        have f1 : (P1 : Int).tdiv 64 = (D1 : Int) := by rw [Int.tdiv_eq_ediv_of_nonneg (by omega)]; omega
        have f2 : (P2 : Int).tdiv 64 = (D2 : Int) := by rw [Int.tdiv_eq_ediv_of_nonneg (by omega)]; omega
        have f0' : (P0 : Int) / 64 = (D0 : Int) := by omega
        have f1' : (P1 : Int) / 64 = (D1 : Int) := by omega
        have f2' : (P2 : Int) / 64 = (D2 : Int) := by omega
        have k0 : IntKind.u32.wrap (D0 : Int) = (D0 : Int) := by simp [IntKind.wrap, IntKind.bits, IntKind.signed]; omega
        have k1 : IntKind.u32.wrap (D1 : Int) = (D1 : Int) := by simp [IntKind.wrap, IntKind.bits, IntKind.signed]; omega
        have k2 : IntKind.u32.wrap (D2 : Int) = (D2 : Int) := by simp [IntKind.wrap, IntKind.bits, IntKind.signed]; omega
        have l0 := wrapI (D0 : Int) (by omega) (by omega)
        have l1 := wrapI (D1 : Int) (by omega) (by omega)
        have l2 := wrapI (D2 : Int) (by omega) (by omega)
        have HD := hidE (And.intro hD0 (And.intro hD1 hD2))
        clear hD0 hD1 hD2 HL
        have hst := st_D (block_new wd (.cells (wayA way0) 143)) ⟨1, P2, P1, D0, D1, D2⟩
        simp only [wayA, way0, Int.ofNat_zero, Int.ofNat_one] at hst
        have HLk := hidE (show LkD w wd.heap.size ⟨1, P2, P1, D0, D1, D2⟩ ((wd.alloc (.cells (wayA way0) 143)).setRow wd.heap.size (wayA ⟨1, P2, P1, D0, D1, D2⟩)) from
          ⟨row_O (block_old _ HBc.out) (by omega) _, row_D (block_new _ _) _, hlt, (HK3.out.alloc _).setRow (fun h => absurd h (by have := HK3.out.size; omega)) _⟩)
        obtain ⟨v0, hv0⟩ : ∃ v : Nat, v = 1 := ⟨_, rfl⟩
        have HLk := hidE (show LkD w wd.heap.size ⟨v0, P2, P1, D0, D1, D2⟩ _ from by rw [hv0]; exact HLk.out)
        have hle0 : v0 ≤ 1 := by omega
        have HV0 := hidE hv0
        clear hv0
        go_upto_region 16 with fail
        go_cut [101] from 96 (fun s wx => s = .bool (decide (x0 / 2 % 2 = 1) && decide (x1 / 2 % 2 = 1)) ∧ LkD w wd.heap.size ⟨v0, P2, P1, D0, D1, D2⟩ wx)
        case first =>
          have h0 := hidE (d_has2 x0 hx0)
          have h1 := hidE (d_has2 x1 hx1)
          generalize decide (x0 / 2 % 2 = 1) = c0 at *
          generalize decide (x1 / 2 % 2 = 1) = c1 at *
          cases c0 <;> cases c1 <;>
          · go_wp2_with (go_at_call 90; first | (with_reducible refine (h0.out _).mono ?_; rintro _ w1 ⟨rfl, rfl⟩) | (with_reducible refine (h1.out _).mono ?_; rintro _ w1 ⟨rfl, rfl⟩))
            go_meet
            exact ⟨rfl, HLk.out⟩
        case rest =>
          obtain ⟨rfl, hLk⟩ := hcut
          have HLk := hidE hLk
          clear hLk
          generalize hb2 : (decide (x0 / 2 % 2 = 1) && decide (x1 / 2 % 2 = 1)) = B2
          go_upto_if 101 with fail
          go_cut [] from 96 (fun wx => LkD w wd.heap.size ⟨v0 + (if B2 then 2 else 0), P2, P1, D0, D1, D2⟩ wx)
          case first =>
            clear hb2
            cases B2
            · go_wp2_with fail
              go_meet
              exact HLk.out
            · have c2 := cell_of HLk.out.h2
              have f2 := frozen_of HLk.out.h2
              simp only [wayA] at c2
              have z : IntKind.u32.wrap ((v0 : Int) + 2) = (v0 : Int) + 2 := by simp [IntKind.wrap, IntKind.bits, IntKind.signed]; omega
              go_wp2_with fail
              go_meet
              exact HLk.out.set (v0 + 2)
          case rest =>
            have HLk := hidE hcut
            clear hcut
            have hle2 : v0 + (if B2 then 2 else 0) ≤ 3 := by split <;> omega
            generalize hv2 : v0 + (if B2 then 2 else 0) = v1 at *
            have HV2 := hidE hv2
            have HB2 := hidE hb2
            clear hv2 hb2
            go_upto_region 18 with fail
            go_cut [111] from 96 (fun s wx => s = .bool (decide (x0 / 4 % 2 = 1) && decide (x1 / 4 % 2 = 1)) ∧ LkD w wd.heap.size ⟨v1, P2, P1, D0, D1, D2⟩ wx)
            case first =>
              have h0 := hidE (d_has4 x0 hx0)
              have h1 := hidE (d_has4 x1 hx1)
              generalize decide (x0 / 4 % 2 = 1) = c0 at *
              generalize decide (x1 / 4 % 2 = 1) = c1 at *
              cases c0 <;> cases c1 <;>
              · go_wp2_with (go_at_call 90; first | (with_reducible refine (h0.out _).mono ?_; rintro _ w1 ⟨rfl, rfl⟩) | (with_reducible refine (h1.out _).mono ?_; rintro _ w1 ⟨rfl, rfl⟩))
                go_meet
                exact ⟨rfl, HLk.out⟩
            case rest =>
              obtain ⟨rfl, hLk⟩ := hcut
              have HLk := hidE hLk
              clear hLk
              generalize hb4 : (decide (x0 / 4 % 2 = 1) && decide (x1 / 4 % 2 = 1)) = B4
              go_upto_if 111 with fail
              go_cut [] from 96 (fun wx => LkD w wd.heap.size ⟨v1 + (if B4 then 4 else 0), P2, P1, D0, D1, D2⟩ wx)
              case first =>
                clear hb4
                cases B4
                · go_wp2_with fail
                  go_meet
                  exact HLk.out
                · have c2 := cell_of HLk.out.h2
                  have f2 := frozen_of HLk.out.h2
                  simp only [wayA] at c2
                  have z : IntKind.u32.wrap ((v1 : Int) + 4) = (v1 : Int) + 4 := by simp [IntKind.wrap, IntKind.bits, IntKind.signed]; omega
                  go_wp2_with fail
                  go_meet
                  exact HLk.out.set (v1 + 4)
              case rest =>
                have HLk := hidE hcut
                clear hcut
                have hle4 : v1 + (if B4 then 4 else 0) ≤ 7 := by split <;> omega
                generalize hv4 : v1 + (if B4 then 4 else 0) = v2 at *
                have HV4 := hidE hv4
                have HB4 := hidE hb4
                clear hv4 hb4
                go_upto_region 20 with fail
                go_cut [121] from 96 (fun s wx => s = .bool (decide (x0 / 8 % 2 = 1) || decide (x1 / 8 % 2 = 1)) ∧ LkD w wd.heap.size ⟨v2, P2, P1, D0, D1, D2⟩ wx)
                case first =>
                  have h0 := hidE (d_has8 x0 hx0)
                  have h1 := hidE (d_has8 x1 hx1)
                  generalize decide (x0 / 8 % 2 = 1) = c0 at *
                  generalize decide (x1 / 8 % 2 = 1) = c1 at *
                  cases c0 <;> cases c1 <;>
                  · go_wp2_with (go_at_call 90; first | (with_reducible refine (h0.out _).mono ?_; rintro _ w1 ⟨rfl, rfl⟩) | (with_reducible refine (h1.out _).mono ?_; rintro _ w1 ⟨rfl, rfl⟩))
                    go_meet
                    exact ⟨rfl, HLk.out⟩
                case rest =>
                  obtain ⟨rfl, hLk⟩ := hcut
                  have HLk := hidE hLk
                  clear hLk
                  generalize hb8 : (decide (x0 / 8 % 2 = 1) || decide (x1 / 8 % 2 = 1)) = B8
                  go_upto_if 121 with fail
                  go_cut [] from 96 (fun wx => LkD w wd.heap.size ⟨v2 + (if B8 then 8 else 0), P2, P1, D0, D1, D2⟩ wx)
                  case first =>
                    clear hb8
                    cases B8
                    · go_wp2_with fail
                      go_meet
                      exact HLk.out
                    · have c2 := cell_of HLk.out.h2
                      have f2 := frozen_of HLk.out.h2
                      simp only [wayA] at c2
                      have z : IntKind.u32.wrap ((v2 : Int) + 8) = (v2 : Int) + 8 := by simp [IntKind.wrap, IntKind.bits, IntKind.signed]; omega
                      go_wp2_with fail
                      go_meet
                      exact HLk.out.set (v2 + 8)
                  case rest =>
                    have HLk := hidE hcut
                    clear hcut
                    have hle8 : v2 + (if B8 then 8 else 0) ≤ 15 := by split <;> omega
                    generalize hv8 : v2 + (if B8 then 8 else 0) = v3 at *
                    have HV8 := hidE hv8
                    have HB8 := hidE hb8
                    clear hv8 hb8
                    go_upto_region 22 with fail
                    go_cut [127] from 96 (fun s wx => s = .bool (decide (x1 / 16 % 2 = 1)) ∧ LkD w wd.heap.size ⟨v3, P2, P1, D0, D1, D2⟩ wx)
                    case first =>
                      go_wp2_with (go_at_call 90; refine (d_has16 x1 hx1 _).mono ?_; rintro _ w1 ⟨rfl, rfl⟩)
                      go_meet
                      exact ⟨rfl, HLk.out⟩
                    case rest =>
                      obtain ⟨rfl, hLk⟩ := hcut
                      have HLk := hidE hLk
                      clear hLk
                      generalize hb16 : decide (x1 / 16 % 2 = 1) = B16
                      go_upto_if 127 with fail
                      go_cut [] from 96 (fun wx => LkD w wd.heap.size ⟨v3 + (if B16 then 16 else 0), P2, P1, D0, D1, D2⟩ wx)
                      case first =>
                        clear hb16
                        cases B16
                        · go_wp2_with fail
                          go_meet
                          exact HLk.out
                        · have c2 := cell_of HLk.out.h2
                          have f2 := frozen_of HLk.out.h2
                          simp only [wayA] at c2
                          have z : IntKind.u32.wrap ((v3 : Int) + 16) = (v3 : Int) + 16 := by simp [IntKind.wrap, IntKind.bits, IntKind.signed]; omega
                          go_wp2_with fail
                          go_meet
                          exact HLk.out.set (v3 + 16)
                      case rest =>
                        have HLk := hidE hcut
                        clear hcut
                        have hle16 : v3 + (if B16 then 16 else 0) ≤ 31 := by split <;> omega
                        generalize hv16 : v3 + (if B16 then 16 else 0) = v4 at *
                        have HV16 := hidE hv16
                        have HB16 := hidE hb16
                        clear hv16 hb16
                        have hbits := hidE (show bitsN x0 x1 = v4 by
                          rw [bits_sum x0 x1 (by omega) (by omega), ← HV16.out, ← HV8.out, ← HV4.out, ← HV2.out, HV0.out, ← HB16.out, ← HB8.out, ← HB4.out, ← HB2.out]
                          simp)
                        have hld := ld_D HLk.out.h2
                        have hst := st_D HLk.out.h1 ⟨v4, P2, P1, D0, D1, D2⟩
                        simp only [wayA] at hst hld
                        go_wp2_with fail
                        refine bodyPost_ret (results_ct rfl rfl (row_D HLk.out.h1 _) Tryz.underlying143 rfl (by kernel_rfl)) rfl ⟨?_, HLk.out.same.setRow (fun h => absurd h (by omega)) _⟩
                        rw [hbits.out, ← HD.out.1, ← HD.out.2.1, ← HD.out.2.2]
                        rfl
end Go.Proofs.YtjkjnomhggmplaaGreat
namespace Go.Proofs.YtjkjnomhggmplaaGreat
open Go.RowKit
attribute [local go_sem ↓] Go.wp_at_zero Go.wp_at_succ

theorem lookL_lt {R : RamAt} {M : List Int} {root va : Nat} {x : WayN} (h : lookL R M root va = some x) : x.bits < 32 := by
  unfold lookL at h
  split at h
  · cases h
  · split at h
    · cases h
    · split at h
      · cases h
      · split at h
        · cases h
        · split at h
          · cases h
          · split at h
            · cases h
            · cases h
              exact bitsN_lt _ _
set_option maxRecDepth 100000 in
set_option maxHeartbeats 4000000 in
theorem d_to {R : RamAt} {M : List Int} {g : Nat} (w : World) (H : DocR w R M g) (root ps va : Nat) (hr : root < 4294967296) (hps : ps < 4294967296) (hv : va < 4294967296) :
    Calls Tryz.prog 51 #[.agg (docV R g), .int .u32 (root : Nat), .int .i64 16, .int .u32 (ps : Nat), .int .u32 (va : Nat), .int .i64 1] w fun e w' => e = .returned (.tuple #[.int .u32 ((toL R M root ps va 1).getD 0 : Nat), .bool (toL R M root ps va 1).isSome]) ∧ Same w w' := by
  have HH := hidE (fun w' (k : Same w w') => H.same k)
  clear H
  unfold toL
  have HK0 := hidE ((Keeps.refl (fun _ => False) w).alloc (.cells (docV R g) 34))
  by_cases hp : ps / 4 % 2 = 0
  · rw [if_pos hp]
    have h4 : decide (ps / 4 % 2 = 1) = false := decide_eq_false (by omega)
    by_cases hva : va < 64 * R.n
    · rw [if_pos hva]
      unfold docV
      go_enter Tryz.func51, Tryz.ntmps51
      go_wp2_with fail
      refine (d_has4 ps hps _).mono ?_
      rintro _ w1 ⟨rfl, rfl⟩
      rw [h4]
      go_wp2_with fail
      refine (d_byte_yes _ (HH.out _ HK0.out) va hv hva).mono ?_
      rintro _ w1 ⟨rfl, hk⟩
      have HK1 := hidE (HK0.out.trans hk)
      clear hk
      go_wp2_with fail
      go_ret2
      exact ⟨rfl, HK1.out⟩
    · rw [if_neg hva]
      unfold docV
      go_enter Tryz.func51, Tryz.ntmps51
      go_wp2_with fail
      refine (d_has4 ps hps _).mono ?_
      rintro _ w1 ⟨rfl, rfl⟩
      rw [h4]
      go_wp2_with fail
      refine (d_byte_no _ (HH.out _ HK0.out) va hv hva).mono ?_
      rintro _ w1 ⟨rfl, hk⟩
      have HK1 := hidE (HK0.out.trans hk)
      clear hk
      go_wp2_with fail
      go_ret2
      exact ⟨rfl, HK1.out⟩
  · rw [if_neg hp]
    have h4 : decide (ps / 4 % 2 = 1) = true := decide_eq_true (by omega)
    have HLk := hidE (d_look _ (HH.out _ HK0.out) root va hr hv)
    cases hl : lookL R M root va with
    | none =>
      rw [hl] at HLk
      simp only
      unfold docV at HK0 HLk ⊢
      go_enter Tryz.func51, Tryz.ntmps51
      go_wp2_with fail
      refine (d_has4 ps hps _).mono ?_
      rintro _ w1 ⟨rfl, rfl⟩
      rw [h4]
      go_wp2_with fail
      refine HLk.out.mono ?_
      rintro _ w1 ⟨rfl, hk⟩
      have HK1 := hidE (HK0.out.trans hk)
      clear hk
      simp only [Option.getD_none, Option.isSome_none, wayA, way0]
      go_wp2_with fail
      refine wp_region_ra [0, 1, 2, 3, 4, 5, 6, 7, 8, 9, 10] [] 0 (Same _) (by kernel_rfl) (by kernel_rfl) (fun u u' h k => Keeps.trans h k) (Keeps.refl _ _).drew ?_
      simp only [opsOf, List.filterMap_cons, List.filterMap_nil, List.getElem?_cons_zero, List.getElem?_cons_succ]
      repeat (first
        | (refine seqV_run (v := ?_) rfl (fun u hu => ?_) ?_; rotate_left; (focus (clear hu; go_simp; first | done | with_reducible rfl)); (try simp only [Act.put, List.setIfInBounds_toArray, List.set_cons_zero, List.set_cons_succ]))
        | (refine seqV_no rfl ?_; (try simp only [Act.put, List.setIfInBounds_toArray, List.set_cons_zero, List.set_cons_succ])))
      refine seqV_nil ?_
      refine tailR_zero fun u5 hu _ => ?_
      have HU5 := hidE hu
      clear hu
      go_wp2
      go_ret2
      exact ⟨rfl, (HK1.out.alloc _).trans HU5.out⟩
    | some x =>
      rw [hl] at HLk
      simp only
      have hx := lookL_lt hl
      obtain ⟨xb, xa, xe, xd, xt, xp⟩ := x
      simp only at hx
      have hm := hidE (d_may xb (by omega) (decide (ps % 2 = 1)))
      have h1 := hidE (d_has1 ps hps)
      rw [Nat.div_one] at h1
      generalize decide (ps % 2 = 1) = U at *
      generalize mayL (xb : Nat) 1 U = Q at *
      unfold docV at HK0 HLk ⊢
      cases Q
      all_goals
        go_enter Tryz.func51, Tryz.ntmps51
        go_wp2_with fail
        refine (d_has4 ps hps _).mono ?_
        rintro _ w1 ⟨rfl, rfl⟩
        rw [h4]
        go_wp2_with fail
        refine HLk.out.mono ?_
        rintro _ w1 ⟨rfl, hk⟩
        have HK1 := hidE (HK0.out.trans hk)
        clear hk
        simp only [Option.getD_some, Option.isSome_some, wayA]
        go_wp2_with fail
        refine wp_region_ra [0, 1, 2, 3, 4, 5, 6, 7, 8, 9, 10] [] 0 (Same _) (by kernel_rfl) (by kernel_rfl) (fun u u' h k => Keeps.trans h k) (Keeps.refl _ _).drew ?_
        simp only [opsOf, List.filterMap_cons, List.filterMap_nil, List.getElem?_cons_zero, List.getElem?_cons_succ]
        repeat (first
          | (refine seqV_run (v := ?_) rfl (fun u hu => ?_) ?_; rotate_left; (focus (have c8 := cell_of (hu.get (block_new _ _) id); clear hu; go_simp; first | done | with_reducible rfl)); (try simp only [Act.put, List.setIfInBounds_toArray, List.set_cons_zero, List.set_cons_succ]))
          | (refine seqV_no rfl ?_; (try simp only [Act.put, List.setIfInBounds_toArray, List.set_cons_zero, List.set_cons_succ])))
        refine seqV_call (f := 90) (args := #[.int .u32 (ps : Nat), .int .u32 1]) (v := .bool U) rfl (fun u hu => ?_) (fun u _ => (h1.out u).mono fun e w' h => ⟨h.1, h.2 ▸ Keeps.refl _ _⟩) ?_
        · clear hu
          go_simp
        simp only [Act.put, List.setIfInBounds_toArray, List.set_cons_zero, List.set_cons_succ]
        refine seqV_call (f := 91) (args := #[.int .u32 (xb : Nat), .int .i64 1, .bool U]) rfl (fun u hu => ?_) (fun u _ => (hm.out u).mono fun e w' h => ⟨h.1, h.2 ▸ Keeps.refl _ _⟩) ?_
        · clear hu
          go_simp
        simp only [Act.put, List.setIfInBounds_toArray, List.set_cons_zero, List.set_cons_succ]
        repeat (first
          | (refine seqV_run (v := ?_) rfl (fun u hu => ?_) ?_; rotate_left; (focus (clear hu; go_simp; first | done | with_reducible rfl)); (try simp only [Act.put, List.setIfInBounds_toArray, List.set_cons_zero, List.set_cons_succ]))
          | (refine seqV_no rfl ?_; (try simp only [Act.put, List.setIfInBounds_toArray, List.set_cons_zero, List.set_cons_succ])))
        refine seqV_nil ?_
        refine tailR_zero fun u5 hu _ => ?_
        have HU5 := hidE hu
        have c8 := cell_of (hu.get (block_new _ _) id)
        clear hu
        go_wp2
        go_ret2
        exact ⟨rfl, (HK1.out.alloc _).trans HU5.out⟩
end Go.Proofs.YtjkjnomhggmplaaGreat
