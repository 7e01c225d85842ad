/- The walks through package isa: Decode. -/
import Derived.Test.YtomphgpplbekiaaGreatIsaC
import Derived.StillTailTactics
import Derived.Test.YtomphgpplbekiaaGreatRes
namespace Go.Proofs.YtomphgpplbekiaaGreat
open Go.RowKit

def in0 : In := ⟨0, 0, 0, 0⟩
def insOf (X : Nat → Int) (f : Fm) : In := ⟨X 0, if f.a = 1 then X 1 / 16 else 0, if f.a = 1 then X 1 % 16 else 0, numL f (leN X (1 + f.a.toNat) f.m.toNat)⟩
/-- What the first bytes of so many are: the instruction, how long it is, the error's number. -/
def decL (X : Nat → Int) (l : Nat) (h : Bool) : In × Int × Int :=
  if l = 0 then (in0, 0, 20) else if (formL (X 0) h).n = 0 then (in0, 0, 21) else if (l : Int) < (formL (X 0) h).n then (in0, 0, 20)
  else if mayB (insOf X (formL (X 0) h)) h then (insOf X (formL (X 0) h), (formL (X 0) h).n, 0) else (in0, 0, 21)
/-- A slice of bytes that can be read. -/
def BySl (w : World) (a : Option Addr) (l : Nat) (X : Nat → Int) : Prop := l = 0 ∨ ∃ S o, a = some ⟨S, o, none⟩ ∧ S < w.heap.size ∧ Bytes w S o l X
def decV (r : In × Int × Int) : Value := .tuple #[.agg (inA r.1), .int .i64 r.2.1, .int .i64 r.2.2]
theorem numL_bd (f : Fm) (n : Int) (hm : f.m = 0 ∨ f.m = 1 ∨ f.m = 2 ∨ f.m = 4) (h0 : 0 ≤ n) (h1 : n < 256 ^ f.m.toNat) : -2147483648 ≤ numL f n ∧ numL f n ≤ 2147483647 := by
  have h2 : n < 4294967296 := by rcases hm with h | h | h | h <;> rw [h] at h1 <;> simp at h1 <;> omega
  unfold numL
  rcases hm with h | h | h | h <;> rw [h] at h1 ⊢ <;> simp at h1 ⊢ <;> (repeat' split) <;> omega

theorem and15 (x : Int) (h0 : 0 ≤ x) (h1 : x < 256) : bits .and .u8 x 15 = x % 16 := by
  rw [u8_and x 15 h0 h1 (by omega) (by omega)]
  rw [show Int.toNat 15 = 15 from rfl, nat_mask4]; omega

set_option maxHeartbeats 8000000 in
set_option maxRecDepth 100000 in
theorem decode_any (a : Option Addr) (l c : Nat) (h : Bool) (X : Nat → Int) (w : World) (hl : l ≤ 4611686018427387904) (hX : BySl w a l X) :
    Calls Tryz.prog 56 #[.slice a l c, .bool h] w fun e w' => e = .returned (decV (decL X l h)) ∧ Same w w' := by
  obtain ⟨R, hR⟩ : ∃ R, R = decL X l h := ⟨_, rfl⟩
  rw [← hR]
  unfold decL at hR
  have hix : ∀ (f : Fm) w, (Instr.index 164 (.agg #[.int .i64 f.n, .int .i64 f.a, .int .i64 f.b, .int .i64 f.m, .int .i64 f.s]) (.int .i64 0)).run Tryz.prog w = .ok (.int .i64 f.n) w := fun _ _ => by kernel_rfl
  by_cases hl0 : l = 0
  · subst hl0
    rw [if_pos rfl] at hR
    have HR := hidE  hR
    clear hR hX hix
    go_enter Tryz.func56, Tryz.ntmps56
    go_wp2
    exact bodyPost_ret (results_ctt rfl rfl (by repeat (first | with_reducible exact A4 | with_reducible exact block_new _ _ | with_reducible refine block_old _ ?_ | with_reducible refine block_drew ?_ | with_reducible apply block_set)) Tryz.underlying122 rfl (by kernel_rfl)) rfl ⟨by rw [HR.out]; rfl, (by repeat (first | with_reducible exact hk0 | with_reducible exact Keeps.refl _ _ | with_reducible refine Keeps.setCell ?_ (fun h => absurd h (Nat.lt_irrefl _)) _ | with_reducible refine Keeps.alloc ?_ _ | with_reducible refine Keeps.drewN ?_ _ | with_reducible refine Keeps.drew ?_))⟩
  rw [if_neg hl0] at hR
  obtain ⟨S, o, rfl, hS, hB⟩ := hX.resolve_left hl0
  obtain ⟨x0, x1, xc⟩ := hB 0 (by omega)
  simp only [Nat.add_zero] at xc
  obtain ⟨hm, hs, ha, hb, hz, hn⟩ := fm_facts (X 0) h
  have hfo := formOf_any (X 0) h x0 x1
  generalize hF : formL (X 0) h = f at *
  have hlb : ((l : Int) == 0) = false := by simp; omega
  have hlp : (0 : Int) < l := by omega
  have heq := run_eq_form
  have HC := hidE  hfo
  have hB0 := hidE  hB
  clear hfo hB hX
  by_cases hn0 : f.n = 0
  · rw [if_pos hn0] at hR
    have HR := hidE  hR
    have hf0 : f = fm0 := by rcases hz with hz | hz; exact hz; omega
    subst hf0
    clear hR hix hm hs ha hb hz hn hn0 hF
    go_enter Tryz.func56, Tryz.ntmps56
    go_wp2_with fail
    refine (HC.out _).mono ?_
    rintro e w1 ⟨rfl, hk⟩
    have A4 := hk.get (block_new w _) id
    have e4 := cell_of A4
    have f4 := frozen_of A4
    have hlt := lt_of_block A4
    have hk0 : Same w w1 := ((Keeps.refl _ _).alloc _).trans hk
    simp only [fmA, fm0]
    go_wp2
    exact bodyPost_ret (results_ctt rfl rfl (by repeat (first | with_reducible exact A4 | with_reducible exact block_new _ _ | with_reducible refine block_old _ ?_ | with_reducible refine block_drew ?_ | with_reducible apply block_set)) Tryz.underlying122 rfl (by kernel_rfl)) rfl ⟨by rw [HR.out]; rfl, (by repeat (first | with_reducible exact hk0 | with_reducible exact Keeps.refl _ _ | with_reducible refine Keeps.setCell ?_ (fun h => absurd h (Nat.lt_irrefl _)) _ | with_reducible refine Keeps.alloc ?_ _ | with_reducible refine Keeps.drewN ?_ _ | with_reducible refine Keeps.drew ?_))⟩
  rw [if_neg hn0] at hR
  have hne : (f.n == 0) = false := by simpa using hn0
  by_cases hln : (l : Int) < f.n
  · rw [if_pos hln] at hR
    have HR := hidE  hR
    clear hR hix hm hs ha hb hz hn hn0 hF
    go_enter Tryz.func56, Tryz.ntmps56
    go_wp2_with fail
    refine (HC.out _).mono ?_
    rintro e w1 ⟨rfl, hk⟩
    have A4 := hk.get (block_new w _) id
    have e4 := cell_of A4
    have f4 := frozen_of A4
    have hlt := lt_of_block A4
    have hk0 : Same w w1 := ((Keeps.refl _ _).alloc _).trans hk
    simp only [fmA]
    go_wp2
    exact bodyPost_ret (results_ctt rfl rfl (by repeat (first | with_reducible exact A4 | with_reducible exact block_new _ _ | with_reducible refine block_old _ ?_ | with_reducible refine block_drew ?_ | with_reducible apply block_set)) Tryz.underlying122 rfl (by kernel_rfl)) rfl ⟨by rw [HR.out]; rfl, (by repeat (first | with_reducible exact hk0 | with_reducible exact Keeps.refl _ _ | with_reducible refine Keeps.setCell ?_ (fun h => absurd h (Nat.lt_irrefl _)) _ | with_reducible refine Keeps.alloc ?_ _ | with_reducible refine Keeps.drewN ?_ _ | with_reducible refine Keeps.drew ?_))⟩
  rw [if_neg hln] at hR
  have hln2 : f.n ≤ l := by omega
  have hbd := leN_bd X (1 + f.a.toNat) f.m.toNat (fun j hj => by
    have := hB0.out (1 + f.a.toNat + j) (by rw [if_neg (by intro e; rw [e] at hn0; exact hn0 rfl)] at hn; omega)
    exact ⟨this.1, this.2.1⟩)
  have hnb := numL_bd f (leN X (1 + f.a.toNat) f.m.toNat) hm hbd.1 hbd.2
  have hm' : (1 + f.a.toNat : Nat) + f.m ≤ (l : Int) := by rw [if_neg (by intro e; rw [e] at hn0; exact hn0 rfl)] at hn; omega
  obtain ⟨fn, fa, fb, fm, fs⟩ := f
  simp only at *
  have hok : (insOf X ⟨fn, fa, fb, fm, fs⟩).Ok := by
    have h1 : fa = 1 → 0 ≤ X 1 ∧ X 1 < 256 := fun e => by have := hB0.out 1 (by omega); exact ⟨this.1, this.2.1⟩
    refine ⟨x0, x1, ?_, ?_, ?_, ?_, hnb.1, hnb.2⟩ <;> simp only [insOf] <;> split <;> omega
  have HM := hidE  (may_any (insOf X ⟨fn, fa, fb, fm, fs⟩) h hok)
  have HNb := hidE  hnb
  clear hbd hnb hix hn hz hln hn0 hF hok
  rcases ha with rfl | rfl
  · have HN := hidE  (fun r w h1 h2 h3 => number_any ⟨fn, 0, fb, fm, fs⟩ r S o l c 1 X w hm hs (by simpa using hm') hl h1 h2 h3)
    go_enter Tryz.func56, Tryz.ntmps56
    go_wp2_with fail
    refine (HC.out _).mono ?_
    rintro e w1 ⟨rfl, hk⟩
    have A4 := hk.get (block_new w _) id
    have hk0 : Same w w1 := ((Keeps.refl _ _).alloc _).trans hk
    simp only [fmA] at *
    have hlt := lt_of_block A4
    have BF := block_old (.cells #[.slice (some ⟨S, o, none⟩) l c, .int .i64 0] 168) (block_new w1 (.cells #[.int .i64 fn, .int .i64 0, .int .i64 fb, .int .i64 fm, .int .i64 fs] 164))
    have Br := block_new (w1.alloc (.cells #[.int .i64 fn, .int .i64 0, .int .i64 fb, .int .i64 fm, .int .i64 fs] 164)) (.cells #[.slice (some ⟨S, o, none⟩) l c, .int .i64 0] 168)
    rw [World.size_alloc] at Br
    have B4 := block_old (.cells #[.slice (some ⟨S, o, none⟩) l c, .int .i64 0] 168) (block_old (.cells #[.int .i64 fn, .int .i64 0, .int .i64 fb, .int .i64 fm, .int .i64 fs] 164) A4)
    have hk1 := (hk0.alloc (.cells #[.int .i64 fn, .int .i64 0, .int .i64 fb, .int .i64 fm, .int .i64 fs] 164)).alloc (.cells #[.slice (some ⟨S, o, none⟩) l c, .int .i64 0] 168)
    have hX1 := hB0.out.keeps hk1 id
    have HK := hidE  hk1
    clear A4 hk0 hk hk1
    go_wp2_with fail
    refine (next_any (w1.heap.size + 1) S o l c 0 X _ (by omega) hl Br hX1 (by omega)).mono ?_
    rintro e w2 ⟨rfl, hk2, hr2⟩
    have BF2 := hk2.get BF (by omega)
    have B42 := hk2.get B4 (by omega)
    have hX2 := hX1.keeps hk2 (by omega)
    have HK2 : Hid (Same w w2) := hidE  (same_then HK.out hk2 (fun k e => by omega))
    have hl2 := lt_of_block hr2
    clear BF Br B4 hX1 hk2 HK

    have eF := cell_of BF2
    have hl3 : w1.heap.size < w2.heap.size := by omega
    have hl4 : w.heap.size < w2.heap.size := by omega
    have BI := block_new w2 (.cells #[.int .u8 (X 0), .int .u8 0, .int .u8 0, .int .i32 0] 122)
    have hr3 := block_old (.cells #[.int .u8 (X 0), .int .u8 0, .int .u8 0, .int .i32 0] 122) hr2
    have BF3 := block_old (.cells #[.int .u8 (X 0), .int .u8 0, .int .u8 0, .int .i32 0] 122) BF2
    have B43 := block_old (.cells #[.int .u8 (X 0), .int .u8 0, .int .u8 0, .int .i32 0] 122) B42
    have hX3 := hX2.keeps ((Keeps.refl (fun _ => False) w2).alloc (.cells #[.int .u8 (X 0), .int .u8 0, .int .u8 0, .int .i32 0] 122)) id
    have HK3 := hidE  (HK2.out.alloc (.cells #[.int .u8 (X 0), .int .u8 0, .int .u8 0, .int .i32 0] 122))
    clear BF2 B42 hX2 HK2 hr2
    go_wp2_with fail
    refine (HN.out (w1.heap.size + 1) _ (by simpa using hr3) hX3 (by omega)).mono ?_
    rintro e w3 ⟨rfl, hk3⟩
    have BI4 := hk3.get BI (by omega)
    have BF4 := hk3.get BF3 (by omega)
    have B44 := hk3.get B43 (by omega)
    have HK4 : Hid (Same w w3) := hidE  (same_then HK3.out hk3 (fun k e => by omega))
    clear BI BF3 B43 hX3 HK3 hr3 hk3 eF
    have eF := cell_of BF4
    have eI := cell_of BI4
    have fI := frozen_of BI4
    have hl5 := lt_of_block BI4
    have hIn : inA (insOf X ⟨fn, 0, fb, fm, fs⟩) = #[.int .u8 (X 0), .int .u8 0, .int .u8 0, .int .i32 (numL ⟨fn, 0, fb, fm, fs⟩ (leN X 1 fm.toNat))] := rfl
    have HI := hidE  hIn
    clear hIn
    generalize hNum : numL ⟨fn, 0, fb, fm, fs⟩ (leN X 1 fm.toNat) = num at *
    have HNum := hidE  hNum
    clear hNum
    have A4 := B44
    have hk0 := HK4.out
    have HSet := hidE  (block_set BI4 3 (.int .i32 num))
    go_wp2_with fail
    rw [← HI.out]
    refine (HM.out _).mono ?_
    rintro e w4 ⟨rfl, hk4⟩
    have BI5 := hk4.get HSet.out id
    have BF5 := hk4.get (block_other (a := ⟨w2.heap.size, 3, none⟩) (.int .i32 num) BF4 (by simp; omega)) id
    have A5 := hk4.get (block_other (a := ⟨w2.heap.size, 3, none⟩) (.int .i32 num) A4 (by simp; omega)) id
    have hk5 : Same w w4 := (Keeps.setCell hk0 (p := ⟨w2.heap.size, 3, none⟩) (fun h => by simp only [] at h; omega) _).trans hk4
    clear eI fI eF BI4 BF4 B44 A4 hk0 hk4 HK4
    have A4 := A5
    have hk0 := hk5
    clear A5 hk5
    have e4 := cell_of A4
    have f4 := frozen_of A4
    have eI := cell_of BI5
    have eF := cell_of BF5
    by_cases hmb : mayB (insOf X ⟨fn, 0, fb, fm, fs⟩) h = true
    · rw [hmb] at hR ⊢
      rw [if_pos rfl] at hR
      have HR := hidE  hR
      clear hR hmb
      go_wp2_with fail
      go_region
      all_goals go_wp2
      all_goals exact bodyPost_ret (results_ctt rfl rfl (by repeat (first | with_reducible exact A4 | with_reducible exact block_new _ _ | with_reducible refine block_old _ ?_ | with_reducible refine block_drew ?_ | with_reducible apply block_set)) Tryz.underlying122 rfl (by kernel_rfl)) rfl ⟨by rw [HR.out]; simp only [decV]; rw [HI.out]; rfl, (by repeat (first | with_reducible exact hk0 | with_reducible refine Keeps.setCell ?_ (fun h => by first | exact absurd h (Nat.lt_irrefl _) | (simp only [] at h; omega)) _ | with_reducible refine Keeps.alloc ?_ _ | with_reducible refine Keeps.drewN ?_ _ | with_reducible refine Keeps.drew ?_))⟩
    · have hmb' : mayB (insOf X ⟨fn, 0, fb, fm, fs⟩) h = false := by simpa using hmb
      rw [hmb'] at hR ⊢
      rw [if_neg (by simp)] at hR
      have HR := hidE  hR
      clear hR hmb hmb'
      go_wp2
      exact bodyPost_ret (results_ctt rfl rfl (by repeat (first | with_reducible exact A4 | with_reducible exact block_new _ _ | with_reducible refine block_old _ ?_ | with_reducible refine block_drew ?_ | with_reducible apply block_set)) Tryz.underlying122 rfl (by kernel_rfl)) rfl ⟨by rw [HR.out]; rfl, (by repeat (first | with_reducible exact hk0 | with_reducible refine Keeps.setCell ?_ (fun h => by first | exact absurd h (Nat.lt_irrefl _) | (simp only [] at h; omega)) _ | with_reducible refine Keeps.alloc ?_ _ | with_reducible refine Keeps.drewN ?_ _ | with_reducible refine Keeps.drew ?_))⟩
  · have HN := hidE  (fun r w h1 h2 h3 => number_any ⟨fn, 1, fb, fm, fs⟩ r S o l c 2 X w hm hs (by simpa using hm') hl h1 h2 h3)
    go_enter Tryz.func56, Tryz.ntmps56
    go_wp2_with fail
    refine (HC.out _).mono ?_
    rintro e w1 ⟨rfl, hk⟩
    have A4 := hk.get (block_new w _) id
    have hk0 : Same w w1 := ((Keeps.refl _ _).alloc _).trans hk
    simp only [fmA] at *
    have hlt := lt_of_block A4
    have BF := block_old (.cells #[.slice (some ⟨S, o, none⟩) l c, .int .i64 0] 168) (block_new w1 (.cells #[.int .i64 fn, .int .i64 1, .int .i64 fb, .int .i64 fm, .int .i64 fs] 164))
    have Br := block_new (w1.alloc (.cells #[.int .i64 fn, .int .i64 1, .int .i64 fb, .int .i64 fm, .int .i64 fs] 164)) (.cells #[.slice (some ⟨S, o, none⟩) l c, .int .i64 0] 168)
    rw [World.size_alloc] at Br
    have B4 := block_old (.cells #[.slice (some ⟨S, o, none⟩) l c, .int .i64 0] 168) (block_old (.cells #[.int .i64 fn, .int .i64 1, .int .i64 fb, .int .i64 fm, .int .i64 fs] 164) A4)
    have hk1 := (hk0.alloc (.cells #[.int .i64 fn, .int .i64 1, .int .i64 fb, .int .i64 fm, .int .i64 fs] 164)).alloc (.cells #[.slice (some ⟨S, o, none⟩) l c, .int .i64 0] 168)
    have hX1 := hB0.out.keeps hk1 id
    have HK := hidE  hk1
    clear A4 hk0 hk hk1
    go_wp2_with fail
    refine (next_any (w1.heap.size + 1) S o l c 0 X _ (by omega) hl Br hX1 (by omega)).mono ?_
    rintro e w2 ⟨rfl, hk2, hr2⟩
    have BF2 := hk2.get BF (by omega)
    have B42 := hk2.get B4 (by omega)
    have hX2 := hX1.keeps hk2 (by omega)
    have HK2 : Hid (Same w w2) := hidE  (same_then HK.out hk2 (fun k e => by omega))
    have hl2 := lt_of_block hr2
    clear BF Br B4 hX1 hk2 HK

    have eF := cell_of BF2
    have hl3 : w1.heap.size < w2.heap.size := by omega
    have hl4 : w.heap.size < w2.heap.size := by omega
    have BI := block_new w2 (.cells #[.int .u8 (X 0), .int .u8 0, .int .u8 0, .int .i32 0] 122)
    have hr3 := block_old (.cells #[.int .u8 (X 0), .int .u8 0, .int .u8 0, .int .i32 0] 122) hr2
    have BF3 := block_old (.cells #[.int .u8 (X 0), .int .u8 0, .int .u8 0, .int .i32 0] 122) BF2
    have B43 := block_old (.cells #[.int .u8 (X 0), .int .u8 0, .int .u8 0, .int .i32 0] 122) B42
    have hX3 := hX2.keeps ((Keeps.refl (fun _ => False) w2).alloc (.cells #[.int .u8 (X 0), .int .u8 0, .int .u8 0, .int .i32 0] 122)) id
    have HK3 := hidE  (HK2.out.alloc (.cells #[.int .u8 (X 0), .int .u8 0, .int .u8 0, .int .i32 0] 122))
    clear BF2 B42 hX2 HK2 hr2
    go_wp2_with fail
    refine (next_any (w1.heap.size + 1) S o l c 1 X _ (by omega) hl (by simpa using hr3) hX3 (by omega)).mono ?_
    rintro e w2b ⟨rfl, hkb, hrb⟩
    have hx1 := hB0.out 1 (by omega)
    have BIb := hkb.get BI (by omega)
    have BFb := hkb.get BF3 (by omega)
    have B4b := hkb.get B43 (by omega)
    have hXb := hX3.keeps hkb (by omega)
    have HKb : Hid (Same w w2b) := hidE  (same_then HK3.out hkb (fun k e => by omega))
    have hlb1 := lt_of_block BIb
    clear BI BF3 B43 hX3 HK3 hr3 hkb eF
    have eF := cell_of BFb
    have eIb := cell_of BIb
    have fIb := frozen_of BIb
    have m1 : X 1 / 16 < 8 ∨ True := Or.inr trivial
    have hand : bits .and .u8 (X 1) 15 = X 1 % 16 := and15 (X 1) hx1.1 hx1.2.1
    have BI := block_set (block_set BIb 1 (.int .u8 (X 1 / 16))) 2 (.int .u8 (X 1 % 16))
    have BF3 := block_other (a := ⟨w2.heap.size, 2, none⟩) (.int .u8 (X 1 % 16)) (block_other (a := ⟨w2.heap.size, 1, none⟩) (.int .u8 (X 1 / 16)) BFb (by simp; omega)) (by simp; omega)
    have B43 := block_other (a := ⟨w2.heap.size, 2, none⟩) (.int .u8 (X 1 % 16)) (block_other (a := ⟨w2.heap.size, 1, none⟩) (.int .u8 (X 1 / 16)) B4b (by simp; omega)) (by simp; omega)
    have hr3 := block_other (a := ⟨w2.heap.size, 2, none⟩) (.int .u8 (X 1 % 16)) (block_other (a := ⟨w2.heap.size, 1, none⟩) (.int .u8 (X 1 / 16)) hrb (by simp; omega)) (by simp; omega)
    have hKs : Keeps (fun k => k = w2.heap.size) w2b ((w2b.setCell ⟨w2.heap.size, 1, none⟩ (.int .u8 (X 1 / 16))).setCell ⟨w2.heap.size, 2, none⟩ (.int .u8 (X 1 % 16))) := Keeps.setCell (F := fun k => k = w2.heap.size) (Keeps.setCell (F := fun k => k = w2.heap.size) (Keeps.refl _ _) (p := ⟨w2.heap.size, 1, none⟩) (fun _ => rfl) _) (p := ⟨w2.heap.size, 2, none⟩) (fun _ => rfl) _
    have hX3 := hXb.keeps hKs (by omega)
    have HK3 : Hid (Same w _) := hidE  (same_then HKb.out hKs (fun k e => by omega))
    have hcb : IntKind.u8.wrap (X 1) = X 1 := by rw [IntKind.wrap_u8']; omega
    go_wp2_with fail
    refine (HN.out (w1.heap.size + 1) _ (by simpa using hr3) hX3 (by omega)).mono ?_
    rintro e w3 ⟨rfl, hk3⟩
    have BI4 := hk3.get BI (by omega)
    have BF4 := hk3.get BF3 (by omega)
    have B44 := hk3.get B43 (by omega)
    have HK4 : Hid (Same w w3) := hidE  (same_then HK3.out hk3 (fun k e => by omega))
    clear BI BF3 B43 hX3 HK3 hr3 hk3 eF
    have eF := cell_of BF4
    have eI := cell_of BI4
    have fI := frozen_of BI4
    have hl5 := lt_of_block BI4
    have hIn : inA (insOf X ⟨fn, 1, fb, fm, fs⟩) = #[.int .u8 (X 0), .int .u8 (X 1 / 16), .int .u8 (X 1 % 16), .int .i32 (numL ⟨fn, 1, fb, fm, fs⟩ (leN X 2 fm.toNat))] := rfl
    have HI := hidE  hIn
    clear hIn
    generalize hNum : numL ⟨fn, 1, fb, fm, fs⟩ (leN X 2 fm.toNat) = num at *
    have HNum := hidE  hNum
    clear hNum
    have A4 := B44
    have hk0 := HK4.out
    have HSet := hidE  (block_set BI4 3 (.int .i32 num))
    go_wp2_with fail
    rw [← HI.out]
    refine (HM.out _).mono ?_
    rintro e w4 ⟨rfl, hk4⟩
    have BI5 := hk4.get HSet.out id
    have BF5 := hk4.get (block_other (a := ⟨w2.heap.size, 3, none⟩) (.int .i32 num) BF4 (by simp; omega)) id
    have A5 := hk4.get (block_other (a := ⟨w2.heap.size, 3, none⟩) (.int .i32 num) A4 (by simp; omega)) id
    have hk5 : Same w w4 := (Keeps.setCell hk0 (p := ⟨w2.heap.size, 3, none⟩) (fun h => by simp only [] at h; omega) _).trans hk4
    clear eI fI eF BI4 BF4 B44 A4 hk0 hk4 HK4
    have A4 := A5
    have hk0 := hk5
    clear A5 hk5
    have e4 := cell_of A4
    have f4 := frozen_of A4
    have eI := cell_of BI5
    have eF := cell_of BF5
    by_cases hmb : mayB (insOf X ⟨fn, 1, fb, fm, fs⟩) h = true
    · rw [hmb] at hR ⊢
      rw [if_pos rfl] at hR
      have HR := hidE  hR
      clear hR hmb
      go_wp2_with fail
      go_region
      all_goals go_wp2
      all_goals exact bodyPost_ret (results_ctt rfl rfl (by repeat (first | with_reducible exact A4 | with_reducible exact block_new _ _ | with_reducible refine block_old _ ?_ | with_reducible refine block_drew ?_ | with_reducible apply block_set)) Tryz.underlying122 rfl (by kernel_rfl)) rfl ⟨by rw [HR.out]; simp only [decV]; rw [HI.out]; rfl, (by repeat (first | with_reducible exact hk0 | with_reducible refine Keeps.setCell ?_ (fun h => by first | exact absurd h (Nat.lt_irrefl _) | (simp only [] at h; omega)) _ | with_reducible refine Keeps.alloc ?_ _ | with_reducible refine Keeps.drewN ?_ _ | with_reducible refine Keeps.drew ?_))⟩
    · have hmb' : mayB (insOf X ⟨fn, 1, fb, fm, fs⟩) h = false := by simpa using hmb
      rw [hmb'] at hR ⊢
      rw [if_neg (by simp)] at hR
      have HR := hidE  hR
      clear hR hmb hmb'
      go_wp2
      exact bodyPost_ret (results_ctt rfl rfl (by repeat (first | with_reducible exact A4 | with_reducible exact block_new _ _ | with_reducible refine block_old _ ?_ | with_reducible refine block_drew ?_ | with_reducible apply block_set)) Tryz.underlying122 rfl (by kernel_rfl)) rfl ⟨by rw [HR.out]; rfl, (by repeat (first | with_reducible exact hk0 | with_reducible refine Keeps.setCell ?_ (fun h => by first | exact absurd h (Nat.lt_irrefl _) | (simp only [] at h; omega)) _ | with_reducible refine Keeps.alloc ?_ _ | with_reducible refine Keeps.drewN ?_ _ | with_reducible refine Keeps.drew ?_))⟩
end Go.Proofs.YtomphgpplbekiaaGreat
