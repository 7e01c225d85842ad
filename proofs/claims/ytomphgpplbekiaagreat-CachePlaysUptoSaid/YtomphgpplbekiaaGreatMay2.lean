/- The reference's May is isa's. The walk of the reference's May: it answers as isa's does. -/
import Derived.Test.YtomphgpplbekiaaGreatOf2
import Derived.Test.YtomphgpplbekiaaGreatIsaB
namespace Go.Proofs.YtomphgpplbekiaaGreat
open Go.RowKit

def jOf : Nat → Nat
  | 0 => 1 | 1 => 4 | 2 => 3 | 3 => 2 | 4 => 7 | 5 => 8 | 6 => 6 | 7 => 5 | 8 => 9 | _ => 0
theorem j_all : ∀ n : Fin 256, ∀ h : Bool, of2J (n.val : Int) h = jOf (clsOf (n.val : Int) h) := by decide +kernel
theorem of2_form (op : Int) (h : Bool) (h0 : 0 ≤ op) (h1 : op < 256) : of2Val op h = #[.int .i64 (formL op h).n, .bool (decide ((formL op h).a = 1)), .bool (decide ((formL op h).b = 1)), .int .i64 (formL op h).m, .bool (decide ((formL op h).s = 1))] := by
  obtain ⟨n, rfl⟩ := Int.eq_ofNat_of_zero_le h0
  unfold of2Val formL
  rw [show of2J (n : Int) h = jOf (clsOf (n : Int) h) from j_all ⟨n, by omega⟩ h]
  have hc := cls_le (n : Int) h
  generalize clsOf (n : Int) h = c at *
  rcases (show c = 0 ∨ c = 1 ∨ c = 2 ∨ c = 3 ∨ c = 4 ∨ c = 5 ∨ c = 6 ∨ c = 7 ∨ c = 8 ∨ c = 9 by omega) with rfl | rfl | rfl | rfl | rfl | rfl | rfl | rfl | rfl | rfl <;> rfl
end Go.Proofs.YtomphgpplbekiaaGreat
namespace Go.Proofs.YtomphgpplbekiaaGreat
open Go.RowKit

set_option maxHeartbeats 8000000 in
set_option maxRecDepth 100000 in
theorem may2_no (a b imm n m : Int) (A B S : Bool) (h : Bool) (op : Int) (h0 : 0 ≤ op) (h1 : op < 256) (hf : of2Val op h = #[.int .i64 n, .bool A, .bool B, .int .i64 m, .bool S])
    (a0 : 0 ≤ a) (b0 : 0 ≤ b) (hno : n = 0 ∨ 7 < a ∨ 7 < b ∨ (A = false ∧ a ≠ 0) ∨ (B = false ∧ b ≠ 0)) (w : World) :
    Calls Tryz.prog 103 #[.agg #[.int .u8 op, .int .u8 a, .int .u8 b, .int .i32 imm], .bool h] w fun e w' => e = .returned (.bool false) ∧ Same w w' := by
  have HO := hidE  (of2_any op h h0 h1)
  rw [hf] at HO
  clear hf
  by_cases c1 : n = 0
  · subst c1
    clear hno
    go_enter Tryz.func103, Tryz.ntmps103
    go_wp2_with fail
    refine (HO.out _).mono ?_
    rintro e w1 ⟨rfl, hk⟩
    have A1 := hk.get (block_new w _) id
    have q1 := cell_of A1
    have hlt := lt_of_block A1
    simp at q1
    have HK := hidE  hk
    clear hk A1
    go_wp2
    go_ret
    exact ⟨rfl, ((Keeps.refl _ _).alloc _).trans (HK.out.alloc _)⟩
  have c1' : (n == 0) = false := by simpa using c1
  by_cases c2 : 7 < a
  · clear hno
    go_enter Tryz.func103, Tryz.ntmps103
    go_wp2_with fail
    refine (HO.out _).mono ?_
    rintro e w1 ⟨rfl, hk⟩
    have A1 := hk.get (block_new w _) id
    have q1 := cell_of A1
    have hlt := lt_of_block A1
    simp at q1
    have HK := hidE  hk
    clear hk A1
    go_wp2
    go_ret
    exact ⟨rfl, ((Keeps.refl _ _).alloc _).trans (HK.out.alloc _)⟩
  by_cases c3 : 7 < b
  · clear hno
    go_enter Tryz.func103, Tryz.ntmps103
    go_wp2_with fail
    refine (HO.out _).mono ?_
    rintro e w1 ⟨rfl, hk⟩
    have A1 := hk.get (block_new w _) id
    have q1 := cell_of A1
    have hlt := lt_of_block A1
    simp at q1
    have HK := hidE  hk
    clear hk A1
    go_wp2
    go_ret
    exact ⟨rfl, ((Keeps.refl _ _).alloc _).trans (HK.out.alloc _)⟩
  have c2' : a ≤ 7 := by omega
  have c3' : b ≤ 7 := by omega
  by_cases c4 : a = 0
  · subst c4
    by_cases c5 : b = 0
    · exfalso
      subst c5
      simp [c1] at hno
    have c5' : (b != 0) = true := by simpa using c5
    have c5'' : (b == 0) = false := by simpa using c5
    cases B
    · clear hno
      cases A
      all_goals
        go_enter Tryz.func103, Tryz.ntmps103
        go_wp2_with fail
        refine (HO.out _).mono ?_
        rintro e w1 ⟨rfl, hk⟩
        have A1 := hk.get (block_new w _) id
        have q1 := cell_of A1
        have hlt := lt_of_block A1
        simp at q1
        have HK := hidE  hk
        clear hk A1
        go_wp2
        go_ret
        exact ⟨rfl, ((Keeps.refl _ _).alloc _).trans (HK.out.alloc _)⟩
    · exfalso
      simp [c1, c3] at hno
  have c4' : (a != 0) = true := by simpa using c4
  have c4'' : (a == 0) = false := by simpa using c4
  cases A
  · clear hno
    go_enter Tryz.func103, Tryz.ntmps103
    go_wp2_with fail
    refine (HO.out _).mono ?_
    rintro e w1 ⟨rfl, hk⟩
    have A1 := hk.get (block_new w _) id
    have q1 := cell_of A1
    have hlt := lt_of_block A1
    simp at q1
    have HK := hidE  hk
    clear hk A1
    go_wp2
    go_ret
    exact ⟨rfl, ((Keeps.refl _ _).alloc _).trans (HK.out.alloc _)⟩
  by_cases c5 : b = 0
  · exfalso
    subst c5
    simp [c1, c2] at hno
  have c5' : (b != 0) = true := by simpa using c5
  have c5'' : (b == 0) = false := by simpa using c5
  cases B
  · clear hno
    go_enter Tryz.func103, Tryz.ntmps103
    go_wp2_with fail
    refine (HO.out _).mono ?_
    rintro e w1 ⟨rfl, hk⟩
    have A1 := hk.get (block_new w _) id
    have q1 := cell_of A1
    have hlt := lt_of_block A1
    simp at q1
    have HK := hidE  hk
    clear hk A1
    go_wp2
    go_ret
    exact ⟨rfl, ((Keeps.refl _ _).alloc _).trans (HK.out.alloc _)⟩
  · exfalso
    simp [c1, c2, c3] at hno
set_option maxHeartbeats 8000000 in
set_option maxRecDepth 100000 in
theorem may2_0 (imm : Int) (h : Bool) (op : Int) (h0 : 0 ≤ op) (h1 : op < 256) (hf : of2Val op h = #[.int .i64 1, .bool false, .bool false, .int .i64 0, .bool false]) (i0 : -2147483648 ≤ imm) (i1 : imm ≤ 2147483647)   (w : World) :
    Calls Tryz.prog 103 #[.agg #[.int .u8 op, .int .u8 0, .int .u8 0, .int .i32 imm], .bool h] w fun e w' => e = .returned (.bool (fitsB ⟨1, 0, 0, 0, 0⟩ imm)) ∧ Same w w' := by
  have HO := hidE  (of2_any op h h0 h1)
  rw [hf] at HO
  clear hf
  rw [show fitsB ⟨1, 0, 0, 0, 0⟩ imm = (imm == 0) from by simp [fitsB]]
  go_enter Tryz.func103, Tryz.ntmps103
  go_wp2_with fail
  refine (HO.out _).mono ?_
  rintro e w1 ⟨rfl, hk⟩
  have A1 := hk.get (block_new w _) id
  have q1 := cell_of A1
  have hlt := lt_of_block A1
  simp at q1
  have HK := hidE  hk
  clear hk A1
  go_wp2
  go_ret
  exact ⟨rfl, ((Keeps.refl _ _).alloc _).trans (HK.out.alloc _)⟩
set_option maxHeartbeats 8000000 in
set_option maxRecDepth 100000 in
theorem may2_1 (a b imm : Int) (h : Bool) (op : Int) (h0 : 0 ≤ op) (h1 : op < 256) (hf : of2Val op h = #[.int .i64 2, .bool true, .bool true, .int .i64 0, .bool false]) (i0 : -2147483648 ≤ imm) (i1 : imm ≤ 2147483647) (a0 : 0 ≤ a) (a7 : a ≤ 7) (b0 : 0 ≤ b) (b7 : b ≤ 7) (w : World) :
    Calls Tryz.prog 103 #[.agg #[.int .u8 op, .int .u8 a, .int .u8 b, .int .i32 imm], .bool h] w fun e w' => e = .returned (.bool (fitsB ⟨2, 1, 1, 0, 0⟩ imm)) ∧ Same w w' := by
  have HO := hidE  (of2_any op h h0 h1)
  rw [hf] at HO
  clear hf
  have a7n : ¬ 7 < a := by omega
  have b7n : ¬ 7 < b := by omega
  rw [show fitsB ⟨2, 1, 1, 0, 0⟩ imm = (imm == 0) from by simp [fitsB]]
  go_enter Tryz.func103, Tryz.ntmps103
  go_wp2_with fail
  refine (HO.out _).mono ?_
  rintro e w1 ⟨rfl, hk⟩
  have A1 := hk.get (block_new w _) id
  have q1 := cell_of A1
  have hlt := lt_of_block A1
  simp at q1
  have HK := hidE  hk
  clear hk A1
  go_wp2
  go_ret
  exact ⟨rfl, ((Keeps.refl _ _).alloc _).trans (HK.out.alloc _)⟩
set_option maxHeartbeats 8000000 in
set_option maxRecDepth 100000 in
theorem may2_2 (a imm : Int) (h : Bool) (op : Int) (h0 : 0 ≤ op) (h1 : op < 256) (hf : of2Val op h = #[.int .i64 2, .bool true, .bool false, .int .i64 0, .bool false]) (i0 : -2147483648 ≤ imm) (i1 : imm ≤ 2147483647) (a0 : 0 ≤ a) (a7 : a ≤ 7)  (w : World) :
    Calls Tryz.prog 103 #[.agg #[.int .u8 op, .int .u8 a, .int .u8 0, .int .i32 imm], .bool h] w fun e w' => e = .returned (.bool (fitsB ⟨2, 1, 0, 0, 0⟩ imm)) ∧ Same w w' := by
  have HO := hidE  (of2_any op h h0 h1)
  rw [hf] at HO
  clear hf
  have a7n : ¬ 7 < a := by omega
  rw [show fitsB ⟨2, 1, 0, 0, 0⟩ imm = (imm == 0) from by simp [fitsB]]
  go_enter Tryz.func103, Tryz.ntmps103
  go_wp2_with fail
  refine (HO.out _).mono ?_
  rintro e w1 ⟨rfl, hk⟩
  have A1 := hk.get (block_new w _) id
  have q1 := cell_of A1
  have hlt := lt_of_block A1
  simp at q1
  have HK := hidE  hk
  clear hk A1
  go_wp2
  go_ret
  exact ⟨rfl, ((Keeps.refl _ _).alloc _).trans (HK.out.alloc _)⟩
set_option maxHeartbeats 8000000 in
set_option maxRecDepth 100000 in
theorem may2_3 (imm : Int) (h : Bool) (op : Int) (h0 : 0 ≤ op) (h1 : op < 256) (hf : of2Val op h = #[.int .i64 2, .bool false, .bool false, .int .i64 1, .bool false]) (i0 : -2147483648 ≤ imm) (i1 : imm ≤ 2147483647)   (w : World) :
    Calls Tryz.prog 103 #[.agg #[.int .u8 op, .int .u8 0, .int .u8 0, .int .i32 imm], .bool h] w fun e w' => e = .returned (.bool (fitsB ⟨2, 0, 0, 1, 0⟩ imm)) ∧ Same w w' := by
  have HO := hidE  (of2_any op h h0 h1)
  rw [hf] at HO
  clear hf
  go_enter Tryz.func103, Tryz.ntmps103
  go_wp2_with fail
  refine (HO.out _).mono ?_
  rintro e w1 ⟨rfl, hk⟩
  have A1 := hk.get (block_new w _) id
  have q1 := cell_of A1
  have hlt := lt_of_block A1
  simp at q1
  have HK := hidE  hk
  clear hk A1
  go_wp2_with fail
  go_loopw [7, 8] (fun t7 t8 wr => ∃ k : Nat, t8 = .int .i64 k ∧ t7 = .int .i64 (256 ^ k) ∧ k ≤ 1 ∧ wr = w1.alloc (.cells #[.int .i64 2, .bool false, .bool false, .int .i64 1, .bool false] 236)) (fun _ t8 _ => (1 - intOf t8).toNat)
  case atStart => exact ⟨0, rfl, rfl, by omega, rfl⟩
  case round =>
    obtain ⟨k, rfl, rfl, hk1, rfl⟩ := hrel
    rcases (show k = 0 ∨ k = 1 by omega) with rfl | rfl
    · go_wp2
      go_roundw
      case rel => exact ⟨1, by go_num, by go_num, by omega, by trivial⟩
      case measure => simp [intOf]
    · by_cases d1 : 0 ≤ imm
      · by_cases d2 : imm < 256
        · go_wp2
          go_ret
          refine ⟨?_, (((Keeps.refl _ _).alloc _).trans HK.out).alloc _⟩
          simp [fitsB, d1, d2]
        · go_wp2
          go_ret
          refine ⟨?_, (((Keeps.refl _ _).alloc _).trans HK.out).alloc _⟩
          simp [fitsB, d1, d2]
      · go_wp2
        go_ret
        refine ⟨?_, (((Keeps.refl _ _).alloc _).trans HK.out).alloc _⟩
        simp [fitsB]; omega
set_option maxHeartbeats 8000000 in
set_option maxRecDepth 100000 in
theorem may2_4 (a imm : Int) (h : Bool) (op : Int) (h0 : 0 ≤ op) (h1 : op < 256) (hf : of2Val op h = #[.int .i64 3, .bool true, .bool false, .int .i64 1, .bool true]) (i0 : -2147483648 ≤ imm) (i1 : imm ≤ 2147483647) (a0 : 0 ≤ a) (a7 : a ≤ 7)  (w : World) :
    Calls Tryz.prog 103 #[.agg #[.int .u8 op, .int .u8 a, .int .u8 0, .int .i32 imm], .bool h] w fun e w' => e = .returned (.bool (fitsB ⟨3, 1, 0, 1, 1⟩ imm)) ∧ Same w w' := by
  have HO := hidE  (of2_any op h h0 h1)
  rw [hf] at HO
  clear hf
  have a7n : ¬ 7 < a := by omega
  go_enter Tryz.func103, Tryz.ntmps103
  go_wp2_with fail
  refine (HO.out _).mono ?_
  rintro e w1 ⟨rfl, hk⟩
  have A1 := hk.get (block_new w _) id
  have q1 := cell_of A1
  have hlt := lt_of_block A1
  simp at q1
  have HK := hidE  hk
  clear hk A1
  go_wp2_with fail
  go_loopw [7, 8] (fun t7 t8 wr => ∃ k : Nat, t8 = .int .i64 k ∧ t7 = .int .i64 (256 ^ k) ∧ k ≤ 1 ∧ wr = w1.alloc (.cells #[.int .i64 3, .bool true, .bool false, .int .i64 1, .bool true] 236)) (fun _ t8 _ => (1 - intOf t8).toNat)
  case atStart => exact ⟨0, rfl, rfl, by omega, rfl⟩
  case round =>
    obtain ⟨k, rfl, rfl, hk1, rfl⟩ := hrel
    rcases (show k = 0 ∨ k = 1 by omega) with rfl | rfl
    · go_wp2
      go_roundw
      case rel => exact ⟨1, by go_num, by go_num, by omega, by trivial⟩
      case measure => simp [intOf]
    · by_cases d1 : -128 ≤ imm
      · by_cases d2 : imm < 128
        · go_wp2
          go_ret
          refine ⟨?_, (((Keeps.refl _ _).alloc _).trans HK.out).alloc _⟩
          simp [fitsB, d1, d2]
        · go_wp2
          go_ret
          refine ⟨?_, (((Keeps.refl _ _).alloc _).trans HK.out).alloc _⟩
          simp [fitsB, d1, d2]
      · go_wp2
        go_ret
        refine ⟨?_, (((Keeps.refl _ _).alloc _).trans HK.out).alloc _⟩
        simp [fitsB]; omega
set_option maxHeartbeats 8000000 in
set_option maxRecDepth 100000 in
theorem may2_5 (a b imm : Int) (h : Bool) (op : Int) (h0 : 0 ≤ op) (h1 : op < 256) (hf : of2Val op h = #[.int .i64 3, .bool true, .bool true, .int .i64 1, .bool true]) (i0 : -2147483648 ≤ imm) (i1 : imm ≤ 2147483647) (a0 : 0 ≤ a) (a7 : a ≤ 7) (b0 : 0 ≤ b) (b7 : b ≤ 7) (w : World) :
    Calls Tryz.prog 103 #[.agg #[.int .u8 op, .int .u8 a, .int .u8 b, .int .i32 imm], .bool h] w fun e w' => e = .returned (.bool (fitsB ⟨3, 1, 1, 1, 1⟩ imm)) ∧ Same w w' := by
  have HO := hidE  (of2_any op h h0 h1)
  rw [hf] at HO
  clear hf
  have a7n : ¬ 7 < a := by omega
  have b7n : ¬ 7 < b := by omega
  go_enter Tryz.func103, Tryz.ntmps103
  go_wp2_with fail
  refine (HO.out _).mono ?_
  rintro e w1 ⟨rfl, hk⟩
  have A1 := hk.get (block_new w _) id
  have q1 := cell_of A1
  have hlt := lt_of_block A1
  simp at q1
  have HK := hidE  hk
  clear hk A1
  go_wp2_with fail
  go_loopw [7, 8] (fun t7 t8 wr => ∃ k : Nat, t8 = .int .i64 k ∧ t7 = .int .i64 (256 ^ k) ∧ k ≤ 1 ∧ wr = w1.alloc (.cells #[.int .i64 3, .bool true, .bool true, .int .i64 1, .bool true] 236)) (fun _ t8 _ => (1 - intOf t8).toNat)
  case atStart => exact ⟨0, rfl, rfl, by omega, rfl⟩
  case round =>
    obtain ⟨k, rfl, rfl, hk1, rfl⟩ := hrel
    rcases (show k = 0 ∨ k = 1 by omega) with rfl | rfl
    · go_wp2
      go_roundw
      case rel => exact ⟨1, by go_num, by go_num, by omega, by trivial⟩
      case measure => simp [intOf]
    · by_cases d1 : -128 ≤ imm
      · by_cases d2 : imm < 128
        · go_wp2
          go_ret
          refine ⟨?_, (((Keeps.refl _ _).alloc _).trans HK.out).alloc _⟩
          simp [fitsB, d1, d2]
        · go_wp2
          go_ret
          refine ⟨?_, (((Keeps.refl _ _).alloc _).trans HK.out).alloc _⟩
          simp [fitsB, d1, d2]
      · go_wp2
        go_ret
        refine ⟨?_, (((Keeps.refl _ _).alloc _).trans HK.out).alloc _⟩
        simp [fitsB]; omega
set_option maxHeartbeats 8000000 in
set_option maxRecDepth 100000 in
theorem may2_6 (imm : Int) (h : Bool) (op : Int) (h0 : 0 ≤ op) (h1 : op < 256) (hf : of2Val op h = #[.int .i64 3, .bool false, .bool false, .int .i64 2, .bool true]) (i0 : -2147483648 ≤ imm) (i1 : imm ≤ 2147483647)   (w : World) :
    Calls Tryz.prog 103 #[.agg #[.int .u8 op, .int .u8 0, .int .u8 0, .int .i32 imm], .bool h] w fun e w' => e = .returned (.bool (fitsB ⟨3, 0, 0, 2, 1⟩ imm)) ∧ Same w w' := by
  have HO := hidE  (of2_any op h h0 h1)
  rw [hf] at HO
  clear hf
  go_enter Tryz.func103, Tryz.ntmps103
  go_wp2_with fail
  refine (HO.out _).mono ?_
  rintro e w1 ⟨rfl, hk⟩
  have A1 := hk.get (block_new w _) id
  have q1 := cell_of A1
  have hlt := lt_of_block A1
  simp at q1
  have HK := hidE  hk
  clear hk A1
  go_wp2_with fail
  go_loopw [7, 8] (fun t7 t8 wr => ∃ k : Nat, t8 = .int .i64 k ∧ t7 = .int .i64 (256 ^ k) ∧ k ≤ 2 ∧ wr = w1.alloc (.cells #[.int .i64 3, .bool false, .bool false, .int .i64 2, .bool true] 236)) (fun _ t8 _ => (2 - intOf t8).toNat)
  case atStart => exact ⟨0, rfl, rfl, by omega, rfl⟩
  case round =>
    obtain ⟨k, rfl, rfl, hk1, rfl⟩ := hrel
    rcases (show k = 0 ∨ k = 1 ∨ k = 2 by omega) with rfl | rfl | rfl
    · go_wp2
      go_roundw
      case rel => exact ⟨1, by go_num, by go_num, by omega, by trivial⟩
      case measure => simp [intOf]
    · go_wp2
      go_roundw
      case rel => exact ⟨2, by go_num, by go_num, by omega, by trivial⟩
      case measure => simp [intOf]
    · by_cases d1 : -32768 ≤ imm
      · by_cases d2 : imm < 32768
        · go_wp2
          go_ret
          refine ⟨?_, (((Keeps.refl _ _).alloc _).trans HK.out).alloc _⟩
          simp [fitsB, d1, d2]
        · go_wp2
          go_ret
          refine ⟨?_, (((Keeps.refl _ _).alloc _).trans HK.out).alloc _⟩
          simp [fitsB, d1, d2]
      · go_wp2
        go_ret
        refine ⟨?_, (((Keeps.refl _ _).alloc _).trans HK.out).alloc _⟩
        simp [fitsB]; omega
set_option maxHeartbeats 8000000 in
set_option maxRecDepth 100000 in
theorem may2_7 (imm : Int) (h : Bool) (op : Int) (h0 : 0 ≤ op) (h1 : op < 256) (hf : of2Val op h = #[.int .i64 3, .bool false, .bool false, .int .i64 2, .bool false]) (i0 : -2147483648 ≤ imm) (i1 : imm ≤ 2147483647)   (w : World) :
    Calls Tryz.prog 103 #[.agg #[.int .u8 op, .int .u8 0, .int .u8 0, .int .i32 imm], .bool h] w fun e w' => e = .returned (.bool (fitsB ⟨3, 0, 0, 2, 0⟩ imm)) ∧ Same w w' := by
  have HO := hidE  (of2_any op h h0 h1)
  rw [hf] at HO
  clear hf
  go_enter Tryz.func103, Tryz.ntmps103
  go_wp2_with fail
  refine (HO.out _).mono ?_
  rintro e w1 ⟨rfl, hk⟩
  have A1 := hk.get (block_new w _) id
  have q1 := cell_of A1
  have hlt := lt_of_block A1
  simp at q1
  have HK := hidE  hk
  clear hk A1
  go_wp2_with fail
  go_loopw [7, 8] (fun t7 t8 wr => ∃ k : Nat, t8 = .int .i64 k ∧ t7 = .int .i64 (256 ^ k) ∧ k ≤ 2 ∧ wr = w1.alloc (.cells #[.int .i64 3, .bool false, .bool false, .int .i64 2, .bool false] 236)) (fun _ t8 _ => (2 - intOf t8).toNat)
  case atStart => exact ⟨0, rfl, rfl, by omega, rfl⟩
  case round =>
    obtain ⟨k, rfl, rfl, hk1, rfl⟩ := hrel
    rcases (show k = 0 ∨ k = 1 ∨ k = 2 by omega) with rfl | rfl | rfl
    · go_wp2
      go_roundw
      case rel => exact ⟨1, by go_num, by go_num, by omega, by trivial⟩
      case measure => simp [intOf]
    · go_wp2
      go_roundw
      case rel => exact ⟨2, by go_num, by go_num, by omega, by trivial⟩
      case measure => simp [intOf]
    · by_cases d1 : 0 ≤ imm
      · by_cases d2 : imm < 65536
        · go_wp2
          go_ret
          refine ⟨?_, (((Keeps.refl _ _).alloc _).trans HK.out).alloc _⟩
          simp [fitsB, d1, d2]
        · go_wp2
          go_ret
          refine ⟨?_, (((Keeps.refl _ _).alloc _).trans HK.out).alloc _⟩
          simp [fitsB, d1, d2]
      · go_wp2
        go_ret
        refine ⟨?_, (((Keeps.refl _ _).alloc _).trans HK.out).alloc _⟩
        simp [fitsB]; omega
set_option maxHeartbeats 8000000 in
set_option maxRecDepth 100000 in
theorem may2_8 (a imm : Int) (h : Bool) (op : Int) (h0 : 0 ≤ op) (h1 : op < 256) (hf : of2Val op h = #[.int .i64 6, .bool true, .bool false, .int .i64 4, .bool true]) (i0 : -2147483648 ≤ imm) (i1 : imm ≤ 2147483647) (a0 : 0 ≤ a) (a7 : a ≤ 7)  (w : World) :
    Calls Tryz.prog 103 #[.agg #[.int .u8 op, .int .u8 a, .int .u8 0, .int .i32 imm], .bool h] w fun e w' => e = .returned (.bool (fitsB ⟨6, 1, 0, 4, 1⟩ imm)) ∧ Same w w' := by
  have HO := hidE  (of2_any op h h0 h1)
  rw [hf] at HO
  clear hf
  have a7n : ¬ 7 < a := by omega
  go_enter Tryz.func103, Tryz.ntmps103
  go_wp2_with fail
  refine (HO.out _).mono ?_
  rintro e w1 ⟨rfl, hk⟩
  have A1 := hk.get (block_new w _) id
  have q1 := cell_of A1
  have hlt := lt_of_block A1
  simp at q1
  have HK := hidE  hk
  clear hk A1
  go_wp2_with fail
  go_loopw [7, 8] (fun t7 t8 wr => ∃ k : Nat, t8 = .int .i64 k ∧ t7 = .int .i64 (256 ^ k) ∧ k ≤ 4 ∧ wr = w1.alloc (.cells #[.int .i64 6, .bool true, .bool false, .int .i64 4, .bool true] 236)) (fun _ t8 _ => (4 - intOf t8).toNat)
  case atStart => exact ⟨0, rfl, rfl, by omega, rfl⟩
  case round =>
    obtain ⟨k, rfl, rfl, hk1, rfl⟩ := hrel
    rcases (show k = 0 ∨ k = 1 ∨ k = 2 ∨ k = 3 ∨ k = 4 by omega) with rfl | rfl | rfl | rfl | rfl
    · go_wp2
      go_roundw
      case rel => exact ⟨1, by go_num, by go_num, by omega, by trivial⟩
      case measure => simp [intOf]
    · go_wp2
      go_roundw
      case rel => exact ⟨2, by go_num, by go_num, by omega, by trivial⟩
      case measure => simp [intOf]
    · go_wp2
      go_roundw
      case rel => exact ⟨3, by go_num, by go_num, by omega, by trivial⟩
      case measure => simp [intOf]
    · go_wp2
      go_roundw
      case rel => exact ⟨4, by go_num, by go_num, by omega, by trivial⟩
      case measure => simp [intOf]
    · by_cases d1 : -2147483648 ≤ imm
      · by_cases d2 : imm < 2147483648
        · go_wp2
          go_ret
          refine ⟨?_, (((Keeps.refl _ _).alloc _).trans HK.out).alloc _⟩
          simp [fitsB]
        · exfalso; omega
      · exfalso; omega
theorem may2_any (i : In) (h : Bool) (hi : i.Ok) (w : World) :
    Calls Tryz.prog 103 #[.agg (inA i), .bool h] w fun e w' => e = .returned (.bool (mayB i h)) ∧ Same w w' := by
  obtain ⟨op, a, b, imm⟩ := i
  obtain ⟨o0, o1, a0, a1, b0, b1, n0, n1⟩ := hi
  simp only at o0 o1 a0 a1 b0 b1 n0 n1
  have hf := of2_form op h o0 o1
  have hc := cls_le op h
  have hm : mayB ⟨op, a, b, imm⟩ h = (decide (1 ≤ (formL op h).n) && decide (a ≤ 7 * (formL op h).a) && decide (b ≤ 7 * (formL op h).b) && fitsB (formL op h) imm) := rfl
  unfold inA
  simp only
  rw [hm]
  clear hm
  unfold formL at *
  generalize clsOf op h = c at *
  rcases (show c = 0 ∨ c = 1 ∨ c = 2 ∨ c = 3 ∨ c = 4 ∨ c = 5 ∨ c = 6 ∨ c = 7 ∨ c = 8 ∨ c = 9 by omega) with rfl | rfl | rfl | rfl | rfl | rfl | rfl | rfl | rfl | rfl
  · simp only [fmOf] at hf ⊢
    simp at hf
    by_cases ha : a = 0
    · by_cases hb : b = 0
      · subst ha
        subst hb
        have := may2_0 imm h op o0 o1 hf n0 n1  w
        simpa [] using this
      · have := may2_no a b imm 1 0 false false false h op o0 o1 hf a0 b0 (by right; right; right; right; exact ⟨rfl, hb⟩) w
        simpa [show ¬ b ≤ 0 by omega] using this
    · have := may2_no a b imm 1 0 false false false h op o0 o1 hf a0 b0 (by right; right; right; left; exact ⟨rfl, ha⟩) w
      simpa [show ¬ a ≤ 0 by omega] using this
  · simp only [fmOf] at hf ⊢
    simp at hf
    by_cases ha : a ≤ 7
    · by_cases hb : b ≤ 7
      · have := may2_1 a b imm h op o0 o1 hf n0 n1 a0 ha b0 hb w
        simpa [ha, hb] using this
      · have := may2_no a b imm 2 0 true true false h op o0 o1 hf a0 b0 (by omega) w
        simpa [show ¬ b ≤ 7 by omega] using this
    · have := may2_no a b imm 2 0 true true false h op o0 o1 hf a0 b0 (by omega) w
      simpa [show ¬ a ≤ 7 by omega] using this
  · simp only [fmOf] at hf ⊢
    simp at hf
    by_cases ha : a ≤ 7
    · by_cases hb : b = 0
      · subst hb
        have := may2_2 a imm h op o0 o1 hf n0 n1 a0 ha  w
        simpa [ha] using this
      · have := may2_no a b imm 2 0 true false false h op o0 o1 hf a0 b0 (by right; right; right; right; exact ⟨rfl, hb⟩) w
        simpa [show ¬ b ≤ 0 by omega] using this
    · have := may2_no a b imm 2 0 true false false h op o0 o1 hf a0 b0 (by omega) w
      simpa [show ¬ a ≤ 7 by omega] using this
  · simp only [fmOf] at hf ⊢
    simp at hf
    by_cases ha : a = 0
    · by_cases hb : b = 0
      · subst ha
        subst hb
        have := may2_3 imm h op o0 o1 hf n0 n1  w
        simpa [] using this
      · have := may2_no a b imm 2 1 false false false h op o0 o1 hf a0 b0 (by right; right; right; right; exact ⟨rfl, hb⟩) w
        simpa [show ¬ b ≤ 0 by omega] using this
    · have := may2_no a b imm 2 1 false false false h op o0 o1 hf a0 b0 (by right; right; right; left; exact ⟨rfl, ha⟩) w
      simpa [show ¬ a ≤ 0 by omega] using this
  · simp only [fmOf] at hf ⊢
    simp at hf
    by_cases ha : a ≤ 7
    · by_cases hb : b = 0
      · subst hb
        have := may2_4 a imm h op o0 o1 hf n0 n1 a0 ha  w
        simpa [ha] using this
      · have := may2_no a b imm 3 1 true false true h op o0 o1 hf a0 b0 (by right; right; right; right; exact ⟨rfl, hb⟩) w
        simpa [show ¬ b ≤ 0 by omega] using this
    · have := may2_no a b imm 3 1 true false true h op o0 o1 hf a0 b0 (by omega) w
      simpa [show ¬ a ≤ 7 by omega] using this
  · simp only [fmOf] at hf ⊢
    simp at hf
    by_cases ha : a ≤ 7
    · by_cases hb : b ≤ 7
      · have := may2_5 a b imm h op o0 o1 hf n0 n1 a0 ha b0 hb w
        simpa [ha, hb] using this
      · have := may2_no a b imm 3 1 true true true h op o0 o1 hf a0 b0 (by omega) w
        simpa [show ¬ b ≤ 7 by omega] using this
    · have := may2_no a b imm 3 1 true true true h op o0 o1 hf a0 b0 (by omega) w
      simpa [show ¬ a ≤ 7 by omega] using this
  · simp only [fmOf] at hf ⊢
    simp at hf
    by_cases ha : a = 0
    · by_cases hb : b = 0
      · subst ha
        subst hb
        have := may2_6 imm h op o0 o1 hf n0 n1  w
        simpa [] using this
      · have := may2_no a b imm 3 2 false false true h op o0 o1 hf a0 b0 (by right; right; right; right; exact ⟨rfl, hb⟩) w
        simpa [show ¬ b ≤ 0 by omega] using this
    · have := may2_no a b imm 3 2 false false true h op o0 o1 hf a0 b0 (by right; right; right; left; exact ⟨rfl, ha⟩) w
      simpa [show ¬ a ≤ 0 by omega] using this
  · simp only [fmOf] at hf ⊢
    simp at hf
    by_cases ha : a = 0
    · by_cases hb : b = 0
      · subst ha
        subst hb
        have := may2_7 imm h op o0 o1 hf n0 n1  w
        simpa [] using this
      · have := may2_no a b imm 3 2 false false false h op o0 o1 hf a0 b0 (by right; right; right; right; exact ⟨rfl, hb⟩) w
        simpa [show ¬ b ≤ 0 by omega] using this
    · have := may2_no a b imm 3 2 false false false h op o0 o1 hf a0 b0 (by right; right; right; left; exact ⟨rfl, ha⟩) w
      simpa [show ¬ a ≤ 0 by omega] using this
  · simp only [fmOf] at hf ⊢
    simp at hf
    by_cases ha : a ≤ 7
    · by_cases hb : b = 0
      · subst hb
        have := may2_8 a imm h op o0 o1 hf n0 n1 a0 ha  w
        simpa [ha] using this
      · have := may2_no a b imm 6 4 true false true h op o0 o1 hf a0 b0 (by right; right; right; right; exact ⟨rfl, hb⟩) w
        simpa [show ¬ b ≤ 0 by omega] using this
    · have := may2_no a b imm 6 4 true false true h op o0 o1 hf a0 b0 (by omega) w
      simpa [show ¬ a ≤ 7 by omega] using this
  · simp only [fmOf, fm0] at hf ⊢
    simp at hf
    simpa using may2_no a b imm _ _ _ _ _ h op o0 o1 hf a0 b0 (.inl rfl) w
end Go.Proofs.YtomphgpplbekiaaGreat
