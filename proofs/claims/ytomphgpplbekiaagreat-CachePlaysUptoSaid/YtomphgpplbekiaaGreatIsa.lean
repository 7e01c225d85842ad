/- The walks through package isa: forms. -/
import Derived.Test.YtomphgpplbekiaaGreatRows
import Derived.Test.YtomphgpplbekiaaGreatHeap
import Derived.Test.YtomphgpplbekiaaGreatIsaSpec
import Derived.WalkKit
import Derived.WalkSpells
import Derived.WalkLawsBesides
import Derived.Deep.QuietTactic
import Derived.BigQuiet
namespace Go.Proofs.YtomphgpplbekiaaGreat
open Go.RowKit

def fmA (f : Fm) : Array Value := #[.int .i64 f.n, .int .i64 f.a, .int .i64 f.b, .int .i64 f.m, .int .i64 f.s]

set_option maxHeartbeats 2000000 in
set_option maxRecDepth 100000 in
theorem formOf_0 (op : Int) (h : Bool) (c1 : op ≤ 3) (w : World) :
    Calls Tryz.prog 84 #[.int .u8 op, .bool h] w fun e w' => e = .returned (.agg (fmA (fmOf 0))) ∧ Same w w' := by
  go_enter Tryz.func84, Tryz.ntmps84
  go_wp2
  exact bodyPost_ret (v := .agg (fmA (fmOf 0))) (by simp [results, Tryz.results84, go_sem, fmA, fmOf]) rfl ⟨rfl, (Keeps.refl _ _).alloc _⟩
set_option maxHeartbeats 2000000 in
set_option maxRecDepth 100000 in
theorem formOf_1 (op : Int) (h : Bool) (c1 : 16 ≤ op) (c2 : op ≤ 31) (w : World) :
    Calls Tryz.prog 84 #[.int .u8 op, .bool h] w fun e w' => e = .returned (.agg (fmA (fmOf 1))) ∧ Same w w' := by
  have c0 : ¬ op ≤ 3 := by omega
  go_enter Tryz.func84, Tryz.ntmps84
  go_wp2
  exact bodyPost_ret (v := .agg (fmA (fmOf 1))) (by simp [results, Tryz.results84, go_sem, fmA, fmOf]) rfl ⟨rfl, (Keeps.refl _ _).alloc _⟩
set_option maxHeartbeats 2000000 in
set_option maxRecDepth 100000 in
theorem formOf_2 (op : Int) (h : Bool) (c1 : op = 58) (w : World) :
    Calls Tryz.prog 84 #[.int .u8 op, .bool h] w fun e w' => e = .returned (.agg (fmA (fmOf 1))) ∧ Same w w' := by
  subst c1
  go_enter Tryz.func84, Tryz.ntmps84
  go_wp2
  exact bodyPost_ret (v := .agg (fmA (fmOf 1))) (by simp [results, Tryz.results84, go_sem, fmA, fmOf]) rfl ⟨rfl, (Keeps.refl _ _).alloc _⟩
set_option maxHeartbeats 2000000 in
set_option maxRecDepth 100000 in
theorem formOf_3 (op : Int) (h : Bool) (c1 : 98 ≤ op) (c2 : op ≤ 101) (w : World) :
    Calls Tryz.prog 84 #[.int .u8 op, .bool h] w fun e w' => e = .returned (.agg (fmA (fmOf 1))) ∧ Same w w' := by
  have c0 : ¬ op ≤ 3 := by omega
  have c3 : ¬ op ≤ 31 := by omega
  have c4 : (op == 58) = false := by simp; omega
  go_enter Tryz.func84, Tryz.ntmps84
  go_wp2
  exact bodyPost_ret (v := .agg (fmA (fmOf 1))) (by simp [results, Tryz.results84, go_sem, fmA, fmOf]) rfl ⟨rfl, (Keeps.refl _ _).alloc _⟩
set_option maxHeartbeats 2000000 in
set_option maxRecDepth 100000 in
theorem formOf_4_73 (op : Int) (h : Bool) (c1 : op = 73) (w : World) :
    Calls Tryz.prog 84 #[.int .u8 op, .bool h] w fun e w' => e = .returned (.agg (fmA (fmOf 2))) ∧ Same w w' := by
  subst c1
  go_enter Tryz.func84, Tryz.ntmps84
  go_wp2
  exact bodyPost_ret (v := .agg (fmA (fmOf 2))) (by simp [results, Tryz.results84, go_sem, fmA, fmOf]) rfl ⟨rfl, (Keeps.refl _ _).alloc _⟩
set_option maxHeartbeats 2000000 in
set_option maxRecDepth 100000 in
theorem formOf_4_74 (op : Int) (h : Bool) (c1 : op = 74) (w : World) :
    Calls Tryz.prog 84 #[.int .u8 op, .bool h] w fun e w' => e = .returned (.agg (fmA (fmOf 2))) ∧ Same w w' := by
  subst c1
  go_enter Tryz.func84, Tryz.ntmps84
  go_wp2
  exact bodyPost_ret (v := .agg (fmA (fmOf 2))) (by simp [results, Tryz.results84, go_sem, fmA, fmOf]) rfl ⟨rfl, (Keeps.refl _ _).alloc _⟩
set_option maxHeartbeats 2000000 in
set_option maxRecDepth 100000 in
theorem formOf_4_56 (op : Int) (h : Bool) (c1 : op = 56) (w : World) :
    Calls Tryz.prog 84 #[.int .u8 op, .bool h] w fun e w' => e = .returned (.agg (fmA (fmOf 2))) ∧ Same w w' := by
  subst c1
  go_enter Tryz.func84, Tryz.ntmps84
  go_wp2
  exact bodyPost_ret (v := .agg (fmA (fmOf 2))) (by simp [results, Tryz.results84, go_sem, fmA, fmOf]) rfl ⟨rfl, (Keeps.refl _ _).alloc _⟩
set_option maxHeartbeats 2000000 in
set_option maxRecDepth 100000 in
theorem formOf_4_57 (op : Int) (h : Bool) (c1 : op = 57) (w : World) :
    Calls Tryz.prog 84 #[.int .u8 op, .bool h] w fun e w' => e = .returned (.agg (fmA (fmOf 2))) ∧ Same w w' := by
  subst c1
  go_enter Tryz.func84, Tryz.ntmps84
  go_wp2
  exact bodyPost_ret (v := .agg (fmA (fmOf 2))) (by simp [results, Tryz.results84, go_sem, fmA, fmOf]) rfl ⟨rfl, (Keeps.refl _ _).alloc _⟩
set_option maxHeartbeats 2000000 in
set_option maxRecDepth 100000 in
theorem formOf_4_96 (op : Int) (h : Bool) (c1 : op = 96) (w : World) :
    Calls Tryz.prog 84 #[.int .u8 op, .bool h] w fun e w' => e = .returned (.agg (fmA (fmOf 2))) ∧ Same w w' := by
  subst c1
  go_enter Tryz.func84, Tryz.ntmps84
  go_wp2
  exact bodyPost_ret (v := .agg (fmA (fmOf 2))) (by simp [results, Tryz.results84, go_sem, fmA, fmOf]) rfl ⟨rfl, (Keeps.refl _ _).alloc _⟩
set_option maxHeartbeats 2000000 in
set_option maxRecDepth 100000 in
theorem formOf_4_97 (op : Int) (h : Bool) (c1 : op = 97) (w : World) :
    Calls Tryz.prog 84 #[.int .u8 op, .bool h] w fun e w' => e = .returned (.agg (fmA (fmOf 2))) ∧ Same w w' := by
  subst c1
  go_enter Tryz.func84, Tryz.ntmps84
  go_wp2
  exact bodyPost_ret (v := .agg (fmA (fmOf 2))) (by simp [results, Tryz.results84, go_sem, fmA, fmOf]) rfl ⟨rfl, (Keeps.refl _ _).alloc _⟩
set_option maxHeartbeats 2000000 in
set_option maxRecDepth 100000 in
theorem formOf_5 (op : Int) (h : Bool) (c1 : op = 80) (w : World) :
    Calls Tryz.prog 84 #[.int .u8 op, .bool h] w fun e w' => e = .returned (.agg (fmA (fmOf 3))) ∧ Same w w' := by
  subst c1
  go_enter Tryz.func84, Tryz.ntmps84
  go_wp2
  exact bodyPost_ret (v := .agg (fmA (fmOf 3))) (by simp [results, Tryz.results84, go_sem, fmA, fmOf]) rfl ⟨rfl, (Keeps.refl _ _).alloc _⟩
set_option maxHeartbeats 2000000 in
set_option maxRecDepth 100000 in
theorem formOf_6 (op : Int) (h : Bool) (c1 : op = 112) (c2 : h = true) (w : World) :
    Calls Tryz.prog 84 #[.int .u8 op, .bool h] w fun e w' => e = .returned (.agg (fmA (fmOf 3))) ∧ Same w w' := by
  subst c1 c2
  go_enter Tryz.func84, Tryz.ntmps84
  go_wp2
  exact bodyPost_ret (v := .agg (fmA (fmOf 3))) (by simp [results, Tryz.results84, go_sem, fmA, fmOf]) rfl ⟨rfl, (Keeps.refl _ _).alloc _⟩
set_option maxHeartbeats 2000000 in
set_option maxRecDepth 100000 in
theorem formOf_7 (op : Int) (h : Bool) (c1 : op = 33) (w : World) :
    Calls Tryz.prog 84 #[.int .u8 op, .bool h] w fun e w' => e = .returned (.agg (fmA (fmOf 4))) ∧ Same w w' := by
  subst c1
  go_enter Tryz.func84, Tryz.ntmps84
  go_wp2
  exact bodyPost_ret (v := .agg (fmA (fmOf 4))) (by simp [results, Tryz.results84, go_sem, fmA, fmOf]) rfl ⟨rfl, (Keeps.refl _ _).alloc _⟩
set_option maxHeartbeats 2000000 in
set_option maxRecDepth 100000 in
theorem formOf_8 (op : Int) (h : Bool) (c1 : 48 ≤ op) (c2 : op ≤ 55) (w : World) :
    Calls Tryz.prog 84 #[.int .u8 op, .bool h] w fun e w' => e = .returned (.agg (fmA (fmOf 5))) ∧ Same w w' := by
  have n0 : ¬ op ≤ 3 := by omega
  have n1 : ¬ op ≤ 31 := by omega
  have n2 : (op == 58) = false := by simp; omega
  have n3 : ¬ 98 ≤ op := by omega
  have n4 : (op == 73) = false := by simp; omega
  have n5 : (op == 74) = false := by simp; omega
  have n6 : (op == 56) = false := by simp; omega
  have n7 : (op == 57) = false := by simp; omega
  have n8 : (op == 96) = false := by simp; omega
  have n9 : (op == 97) = false := by simp; omega
  have n10 : (op == 80) = false := by simp; omega
  have n11 : (op == 112) = false := by simp; omega
  have n12 : (op == 33) = false := by simp; omega
  go_enter Tryz.func84, Tryz.ntmps84
  go_wp2
  exact bodyPost_ret (v := .agg (fmA (fmOf 5))) (by simp [results, Tryz.results84, go_sem, fmA, fmOf]) rfl ⟨rfl, (Keeps.refl _ _).alloc _⟩
set_option maxHeartbeats 2000000 in
set_option maxRecDepth 100000 in
theorem formOf_9 (op : Int) (h : Bool) (c1 : 64 ≤ op) (c2 : op ≤ 71) (w : World) :
    Calls Tryz.prog 84 #[.int .u8 op, .bool h] w fun e w' => e = .returned (.agg (fmA (fmOf 6))) ∧ Same w w' := by
  have n0 : ¬ op ≤ 3 := by omega
  have n1 : ¬ op ≤ 31 := by omega
  have n2 : (op == 58) = false := by simp; omega
  have n3 : ¬ 98 ≤ op := by omega
  have n4 : (op == 73) = false := by simp; omega
  have n5 : (op == 74) = false := by simp; omega
  have n6 : (op == 56) = false := by simp; omega
  have n7 : (op == 57) = false := by simp; omega
  have n8 : (op == 96) = false := by simp; omega
  have n9 : (op == 97) = false := by simp; omega
  have n10 : (op == 80) = false := by simp; omega
  have n11 : (op == 112) = false := by simp; omega
  have n12 : (op == 33) = false := by simp; omega
  have n13 : ¬ op ≤ 55 := by omega
  go_enter Tryz.func84, Tryz.ntmps84
  go_wp2
  exact bodyPost_ret (v := .agg (fmA (fmOf 6))) (by simp [results, Tryz.results84, go_sem, fmA, fmOf]) rfl ⟨rfl, (Keeps.refl _ _).alloc _⟩
set_option maxHeartbeats 2000000 in
set_option maxRecDepth 100000 in
theorem formOf_10 (op : Int) (h : Bool) (c1 : op = 72) (w : World) :
    Calls Tryz.prog 84 #[.int .u8 op, .bool h] w fun e w' => e = .returned (.agg (fmA (fmOf 6))) ∧ Same w w' := by
  subst c1
  go_enter Tryz.func84, Tryz.ntmps84
  go_wp2
  exact bodyPost_ret (v := .agg (fmA (fmOf 6))) (by simp [results, Tryz.results84, go_sem, fmA, fmOf]) rfl ⟨rfl, (Keeps.refl _ _).alloc _⟩
set_option maxHeartbeats 2000000 in
set_option maxRecDepth 100000 in
theorem formOf_11 (op : Int) (h : Bool) (c1 : op = 113) (c2 : h = true) (w : World) :
    Calls Tryz.prog 84 #[.int .u8 op, .bool h] w fun e w' => e = .returned (.agg (fmA (fmOf 7))) ∧ Same w w' := by
  subst c1 c2
  go_enter Tryz.func84, Tryz.ntmps84
  go_wp2
  exact bodyPost_ret (v := .agg (fmA (fmOf 7))) (by simp [results, Tryz.results84, go_sem, fmA, fmOf]) rfl ⟨rfl, (Keeps.refl _ _).alloc _⟩
set_option maxHeartbeats 2000000 in
set_option maxRecDepth 100000 in
theorem formOf_12 (op : Int) (h : Bool) (c1 : op = 32) (w : World) :
    Calls Tryz.prog 84 #[.int .u8 op, .bool h] w fun e w' => e = .returned (.agg (fmA (fmOf 8))) ∧ Same w w' := by
  subst c1
  go_enter Tryz.func84, Tryz.ntmps84
  go_wp2
  exact bodyPost_ret (v := .agg (fmA (fmOf 8))) (by simp [results, Tryz.results84, go_sem, fmA, fmOf]) rfl ⟨rfl, (Keeps.refl _ _).alloc _⟩
set_option maxHeartbeats 2000000 in
set_option maxRecDepth 100000 in
theorem formOf_13 (op : Int) (h : Bool) (c1 : op = 112) (c2 : h = false) (w : World) :
    Calls Tryz.prog 84 #[.int .u8 op, .bool h] w fun e w' => e = .returned (.agg (fmA (fmOf 9))) ∧ Same w w' := by
  subst c1 c2
  go_enter Tryz.func84, Tryz.ntmps84
  go_wp2
  exact bodyPost_ret (v := .agg (fmA (fmOf 9))) (by simp [results, Tryz.results84, go_sem, fmA, fmOf, fm0]) rfl ⟨rfl, (Keeps.refl _ _).alloc _⟩
set_option maxHeartbeats 2000000 in
set_option maxRecDepth 100000 in
theorem formOf_14 (op : Int) (h : Bool) (c1 : op = 113) (c2 : h = false) (w : World) :
    Calls Tryz.prog 84 #[.int .u8 op, .bool h] w fun e w' => e = .returned (.agg (fmA (fmOf 9))) ∧ Same w w' := by
  subst c1 c2
  go_enter Tryz.func84, Tryz.ntmps84
  go_wp2
  exact bodyPost_ret (v := .agg (fmA (fmOf 9))) (by simp [results, Tryz.results84, go_sem, fmA, fmOf, fm0]) rfl ⟨rfl, (Keeps.refl _ _).alloc _⟩
set_option maxHeartbeats 2000000 in
set_option maxRecDepth 100000 in
theorem formOf_15_0 (op : Int) (h : Bool) (c1 : 4 ≤ op) (c2 : op ≤ 15) (w : World) :
    Calls Tryz.prog 84 #[.int .u8 op, .bool h] w fun e w' => e = .returned (.agg (fmA (fmOf 9))) ∧ Same w w' := by
  have n0 : ¬ op ≤ 3 := by omega
  have n1 : ¬ 16 ≤ op := by omega
  have n2 : (op == 58) = false := by simp; omega
  have n3 : ¬ 98 ≤ op := by omega
  have n4 : (op == 73) = false := by simp; omega
  have n5 : (op == 74) = false := by simp; omega
  have n6 : (op == 56) = false := by simp; omega
  have n7 : (op == 57) = false := by simp; omega
  have n8 : (op == 96) = false := by simp; omega
  have n9 : (op == 97) = false := by simp; omega
  have n10 : (op == 80) = false := by simp; omega
  have n11 : (op == 112) = false := by simp; omega
  have n12 : (op == 33) = false := by simp; omega
  have n13 : ¬ 48 ≤ op := by omega
  have n14 : ¬ 64 ≤ op := by omega
  have n15 : (op == 72) = false := by simp; omega
  have n16 : (op == 113) = false := by simp; omega
  have n17 : (op == 32) = false := by simp; omega
  go_enter Tryz.func84, Tryz.ntmps84
  go_wp2
  exact bodyPost_ret (v := .agg (fmA (fmOf 9))) (by simp [results, Tryz.results84, go_sem, fmA, fmOf, fm0]) rfl ⟨rfl, (Keeps.refl _ _).alloc _⟩
set_option maxHeartbeats 2000000 in
set_option maxRecDepth 100000 in
theorem formOf_15_1 (op : Int) (h : Bool) (c1 : 34 ≤ op) (c2 : op ≤ 47) (w : World) :
    Calls Tryz.prog 84 #[.int .u8 op, .bool h] w fun e w' => e = .returned (.agg (fmA (fmOf 9))) ∧ Same w w' := by
  have n0 : ¬ op ≤ 3 := by omega
  have n1 : ¬ op ≤ 31 := by omega
  have n2 : (op == 58) = false := by simp; omega
  have n3 : ¬ 98 ≤ op := by omega
  have n4 : (op == 73) = false := by simp; omega
  have n5 : (op == 74) = false := by simp; omega
  have n6 : (op == 56) = false := by simp; omega
  have n7 : (op == 57) = false := by simp; omega
  have n8 : (op == 96) = false := by simp; omega
  have n9 : (op == 97) = false := by simp; omega
  have n10 : (op == 80) = false := by simp; omega
  have n11 : (op == 112) = false := by simp; omega
  have n12 : (op == 33) = false := by simp; omega
  have n13 : ¬ 48 ≤ op := by omega
  have n14 : ¬ 64 ≤ op := by omega
  have n15 : (op == 72) = false := by simp; omega
  have n16 : (op == 113) = false := by simp; omega
  have n17 : (op == 32) = false := by simp; omega
  go_enter Tryz.func84, Tryz.ntmps84
  go_wp2
  exact bodyPost_ret (v := .agg (fmA (fmOf 9))) (by simp [results, Tryz.results84, go_sem, fmA, fmOf, fm0]) rfl ⟨rfl, (Keeps.refl _ _).alloc _⟩
set_option maxHeartbeats 2000000 in
set_option maxRecDepth 100000 in
theorem formOf_15_2 (op : Int) (h : Bool) (c1 : 59 ≤ op) (c2 : op ≤ 63) (w : World) :
    Calls Tryz.prog 84 #[.int .u8 op, .bool h] w fun e w' => e = .returned (.agg (fmA (fmOf 9))) ∧ Same w w' := by
  have n0 : ¬ op ≤ 3 := by omega
  have n1 : ¬ op ≤ 31 := by omega
  have n2 : (op == 58) = false := by simp; omega
  have n3 : ¬ 98 ≤ op := by omega
  have n4 : (op == 73) = false := by simp; omega
  have n5 : (op == 74) = false := by simp; omega
  have n6 : (op == 56) = false := by simp; omega
  have n7 : (op == 57) = false := by simp; omega
  have n8 : (op == 96) = false := by simp; omega
  have n9 : (op == 97) = false := by simp; omega
  have n10 : (op == 80) = false := by simp; omega
  have n11 : (op == 112) = false := by simp; omega
  have n12 : (op == 33) = false := by simp; omega
  have n13 : ¬ op ≤ 55 := by omega
  have n14 : ¬ 64 ≤ op := by omega
  have n15 : (op == 72) = false := by simp; omega
  have n16 : (op == 113) = false := by simp; omega
  have n17 : (op == 32) = false := by simp; omega
  go_enter Tryz.func84, Tryz.ntmps84
  go_wp2
  exact bodyPost_ret (v := .agg (fmA (fmOf 9))) (by simp [results, Tryz.results84, go_sem, fmA, fmOf, fm0]) rfl ⟨rfl, (Keeps.refl _ _).alloc _⟩
set_option maxHeartbeats 2000000 in
set_option maxRecDepth 100000 in
theorem formOf_15_3 (op : Int) (h : Bool) (c1 : 75 ≤ op) (c2 : op ≤ 79) (w : World) :
    Calls Tryz.prog 84 #[.int .u8 op, .bool h] w fun e w' => e = .returned (.agg (fmA (fmOf 9))) ∧ Same w w' := by
  have n0 : ¬ op ≤ 3 := by omega
  have n1 : ¬ op ≤ 31 := by omega
  have n2 : (op == 58) = false := by simp; omega
  have n3 : ¬ 98 ≤ op := by omega
  have n4 : (op == 73) = false := by simp; omega
  have n5 : (op == 74) = false := by simp; omega
  have n6 : (op == 56) = false := by simp; omega
  have n7 : (op == 57) = false := by simp; omega
  have n8 : (op == 96) = false := by simp; omega
  have n9 : (op == 97) = false := by simp; omega
  have n10 : (op == 80) = false := by simp; omega
  have n11 : (op == 112) = false := by simp; omega
  have n12 : (op == 33) = false := by simp; omega
  have n13 : ¬ op ≤ 55 := by omega
  have n14 : ¬ op ≤ 71 := by omega
  have n15 : (op == 72) = false := by simp; omega
  have n16 : (op == 113) = false := by simp; omega
  have n17 : (op == 32) = false := by simp; omega
  go_enter Tryz.func84, Tryz.ntmps84
  go_wp2
  exact bodyPost_ret (v := .agg (fmA (fmOf 9))) (by simp [results, Tryz.results84, go_sem, fmA, fmOf, fm0]) rfl ⟨rfl, (Keeps.refl _ _).alloc _⟩
set_option maxHeartbeats 2000000 in
set_option maxRecDepth 100000 in
theorem formOf_15_4 (op : Int) (h : Bool) (c1 : 81 ≤ op) (c2 : op ≤ 95) (w : World) :
    Calls Tryz.prog 84 #[.int .u8 op, .bool h] w fun e w' => e = .returned (.agg (fmA (fmOf 9))) ∧ Same w w' := by
  have n0 : ¬ op ≤ 3 := by omega
  have n1 : ¬ op ≤ 31 := by omega
  have n2 : (op == 58) = false := by simp; omega
  have n3 : ¬ 98 ≤ op := by omega
  have n4 : (op == 73) = false := by simp; omega
  have n5 : (op == 74) = false := by simp; omega
  have n6 : (op == 56) = false := by simp; omega
  have n7 : (op == 57) = false := by simp; omega
  have n8 : (op == 96) = false := by simp; omega
  have n9 : (op == 97) = false := by simp; omega
  have n10 : (op == 80) = false := by simp; omega
  have n11 : (op == 112) = false := by simp; omega
  have n12 : (op == 33) = false := by simp; omega
  have n13 : ¬ op ≤ 55 := by omega
  have n14 : ¬ op ≤ 71 := by omega
  have n15 : (op == 72) = false := by simp; omega
  have n16 : (op == 113) = false := by simp; omega
  have n17 : (op == 32) = false := by simp; omega
  go_enter Tryz.func84, Tryz.ntmps84
  go_wp2
  exact bodyPost_ret (v := .agg (fmA (fmOf 9))) (by simp [results, Tryz.results84, go_sem, fmA, fmOf, fm0]) rfl ⟨rfl, (Keeps.refl _ _).alloc _⟩
set_option maxHeartbeats 2000000 in
set_option maxRecDepth 100000 in
theorem formOf_15_5 (op : Int) (h : Bool) (c1 : 102 ≤ op) (c2 : op ≤ 111) (w : World) :
    Calls Tryz.prog 84 #[.int .u8 op, .bool h] w fun e w' => e = .returned (.agg (fmA (fmOf 9))) ∧ Same w w' := by
  have n0 : ¬ op ≤ 3 := by omega
  have n1 : ¬ op ≤ 31 := by omega
  have n2 : (op == 58) = false := by simp; omega
  have n3 : ¬ op ≤ 101 := by omega
  have n4 : (op == 73) = false := by simp; omega
  have n5 : (op == 74) = false := by simp; omega
  have n6 : (op == 56) = false := by simp; omega
  have n7 : (op == 57) = false := by simp; omega
  have n8 : (op == 96) = false := by simp; omega
  have n9 : (op == 97) = false := by simp; omega
  have n10 : (op == 80) = false := by simp; omega
  have n11 : (op == 112) = false := by simp; omega
  have n12 : (op == 33) = false := by simp; omega
  have n13 : ¬ op ≤ 55 := by omega
  have n14 : ¬ op ≤ 71 := by omega
  have n15 : (op == 72) = false := by simp; omega
  have n16 : (op == 113) = false := by simp; omega
  have n17 : (op == 32) = false := by simp; omega
  go_enter Tryz.func84, Tryz.ntmps84
  go_wp2
  exact bodyPost_ret (v := .agg (fmA (fmOf 9))) (by simp [results, Tryz.results84, go_sem, fmA, fmOf, fm0]) rfl ⟨rfl, (Keeps.refl _ _).alloc _⟩
set_option maxHeartbeats 2000000 in
set_option maxRecDepth 100000 in
theorem formOf_15_6 (op : Int) (h : Bool) (c1 : 114 ≤ op) (c2 : op ≤ 255) (w : World) :
    Calls Tryz.prog 84 #[.int .u8 op, .bool h] w fun e w' => e = .returned (.agg (fmA (fmOf 9))) ∧ Same w w' := by
  have n0 : ¬ op ≤ 3 := by omega
  have n1 : ¬ op ≤ 31 := by omega
  have n2 : (op == 58) = false := by simp; omega
  have n3 : ¬ op ≤ 101 := by omega
  have n4 : (op == 73) = false := by simp; omega
  have n5 : (op == 74) = false := by simp; omega
  have n6 : (op == 56) = false := by simp; omega
  have n7 : (op == 57) = false := by simp; omega
  have n8 : (op == 96) = false := by simp; omega
  have n9 : (op == 97) = false := by simp; omega
  have n10 : (op == 80) = false := by simp; omega
  have n11 : (op == 112) = false := by simp; omega
  have n12 : (op == 33) = false := by simp; omega
  have n13 : ¬ op ≤ 55 := by omega
  have n14 : ¬ op ≤ 71 := by omega
  have n15 : (op == 72) = false := by simp; omega
  have n16 : (op == 113) = false := by simp; omega
  have n17 : (op == 32) = false := by simp; omega
  go_enter Tryz.func84, Tryz.ntmps84
  go_wp2
  exact bodyPost_ret (v := .agg (fmA (fmOf 9))) (by simp [results, Tryz.results84, go_sem, fmA, fmOf, fm0]) rfl ⟨rfl, (Keeps.refl _ _).alloc _⟩
theorem formOf_any (op : Int) (h : Bool) (h0 : 0 ≤ op) (h1 : op < 256) (w : World) :
    Calls Tryz.prog 84 #[.int .u8 op, .bool h] w fun e w' => e = .returned (.agg (fmA (formL op h))) ∧ Same w w' := by
  have hw := cls_ways op h
  unfold formL
  rcases hw with ⟨c, c1⟩ | ⟨c, c0, c1, c2⟩ | ⟨c, c1⟩ | ⟨c, c1, c2⟩ | ⟨c, c1⟩ | ⟨c, c1⟩ | ⟨c, c1, c2⟩ | ⟨c, c1⟩ | ⟨c, c1, c2⟩ | ⟨c, c1, c2⟩ | ⟨c, c1⟩ | ⟨c, c1, c2⟩ | ⟨c, c1⟩ | ⟨c, c1, c2⟩ | ⟨c, c1, c2⟩ | ⟨c, c1⟩ <;> rw [c]
  · exact formOf_0 op h c1 w
  · exact formOf_1 op h c1 c2 w
  · exact formOf_2 op h c1 w
  · exact formOf_3 op h c1 c2 w
  · rcases c1 with c1 | c1 | c1 | c1 | c1 | c1
    · exact formOf_4_73 op h c1 w
    · exact formOf_4_74 op h c1 w
    · exact formOf_4_56 op h c1 w
    · exact formOf_4_57 op h c1 w
    · exact formOf_4_96 op h c1 w
    · exact formOf_4_97 op h c1 w
  · exact formOf_5 op h c1 w
  · exact formOf_6 op h c1 c2 w
  · exact formOf_7 op h c1 w
  · exact formOf_8 op h c1 c2 w
  · exact formOf_9 op h c1 c2 w
  · exact formOf_10 op h c1 w
  · exact formOf_11 op h c1 c2 w
  · exact formOf_12 op h c1 w
  · exact formOf_13 op h c1 c2 w
  · exact formOf_14 op h c1 c2 w
  · rcases c1 with c1 | c1 | c1 | c1 | c1 | c1 | c1
    · exact formOf_15_0 op h (by omega) (by omega) w
    · exact formOf_15_1 op h (by omega) (by omega) w
    · exact formOf_15_2 op h (by omega) (by omega) w
    · exact formOf_15_3 op h (by omega) (by omega) w
    · exact formOf_15_4 op h (by omega) (by omega) w
    · exact formOf_15_5 op h (by omega) (by omega) w
    · exact formOf_15_6 op h (by omega) (by omega) w
end Go.Proofs.YtomphgpplbekiaaGreat
