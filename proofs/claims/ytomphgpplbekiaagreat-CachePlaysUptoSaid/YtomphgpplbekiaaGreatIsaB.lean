/- The walks through package isa: which instructions may be, and how long they are. -/
import Derived.Test.YtomphgpplbekiaaGreatIsa
import Derived.Test.YtomphgpplbekiaaGreatArr
namespace Go.Proofs.YtomphgpplbekiaaGreat
open Go.RowKit

/-- Whether a number may stand in a form's Imm. -/
def fitsB (f : Fm) (n : Int) : Bool :=
  if f.m = 4 then true else if f.m = 0 then n == 0 else if f.s = 1 then (if f.m = 1 then decide (-128 ≤ n ∧ n < 128) else decide (-32768 ≤ n ∧ n < 32768))
  else (if f.m = 1 then decide (0 ≤ n ∧ n < 256) else decide (0 ≤ n ∧ n < 65536))
/-- An instruction. -/
structure In where
  op : Int
  a : Int
  b : Int
  imm : Int
def inA (i : In) : Array Value := #[.int .u8 i.op, .int .u8 i.a, .int .u8 i.b, .int .i32 i.imm]
structure In.Ok (i : In) : Prop where
  o0 : 0 ≤ i.op
  o1 : i.op < 256
  a0 : 0 ≤ i.a
  a1 : i.a < 256
  b0 : 0 ≤ i.b
  b1 : i.b < 256
  n0 : -2147483648 ≤ i.imm
  n1 : i.imm ≤ 2147483647
def mayB (i : In) (h : Bool) : Bool :=
  decide (1 ≤ (formL i.op h).n) && decide (i.a ≤ 7 * (formL i.op h).a) && decide (i.b ≤ 7 * (formL i.op h).b) && fitsB (formL i.op h) i.imm

set_option maxHeartbeats 1000000 in
theorem fits_0 (fn fa fb fs n : Int) (w : World) :
    Calls Tryz.prog 109 #[.agg (fmA ⟨fn, fa, fb, 0, fs⟩), .int .i32 n] w fun e w' => e = .returned (.bool (fitsB ⟨fn, fa, fb, 0, fs⟩ n)) ∧ Same w w' := by
  by_cases e : n = 0
  · subst e
    rw [show fitsB ⟨fn, fa, fb, 0, fs⟩ 0 = true from by simp [fitsB]]
    unfold fmA
    go_enter Tryz.func109, Tryz.ntmps109
    go_wp2
    go_ret
    exact ⟨rfl, (Keeps.refl _ _).alloc _⟩
  · have e' : (n == 0) = false := by simpa using e
    rw [show fitsB ⟨fn, fa, fb, 0, fs⟩ n = false from by simp [fitsB, e]]
    unfold fmA
    go_enter Tryz.func109, Tryz.ntmps109
    go_wp2
    go_ret
    exact ⟨rfl, (Keeps.refl _ _).alloc _⟩
set_option maxHeartbeats 1000000 in
theorem fits_10 (fn fa fb n : Int) (w : World) :
    Calls Tryz.prog 109 #[.agg (fmA ⟨fn, fa, fb, 1, 0⟩), .int .i32 n] w fun e w' => e = .returned (.bool (fitsB ⟨fn, fa, fb, 1, 0⟩ n)) ∧ Same w w' := by
  by_cases c1 : 0 ≤ n
  · by_cases c2 : n < 256
    · rw [show fitsB ⟨fn, fa, fb, 1, 0⟩ n = true from by simp [fitsB, c1, c2]]
      unfold fmA
      go_enter Tryz.func109, Tryz.ntmps109
      go_wp2
      go_ret
      exact ⟨rfl, (Keeps.refl _ _).alloc _⟩
    · rw [show fitsB ⟨fn, fa, fb, 1, 0⟩ n = false from by simp [fitsB]; omega]
      unfold fmA
      go_enter Tryz.func109, Tryz.ntmps109
      go_wp2
      go_ret
      exact ⟨rfl, (Keeps.refl _ _).alloc _⟩
  · rw [show fitsB ⟨fn, fa, fb, 1, 0⟩ n = false from by simp [fitsB]; omega]
    unfold fmA
    go_enter Tryz.func109, Tryz.ntmps109
    go_wp2
    go_ret
    exact ⟨rfl, (Keeps.refl _ _).alloc _⟩
set_option maxHeartbeats 1000000 in
theorem fits_11 (fn fa fb n : Int) (w : World) :
    Calls Tryz.prog 109 #[.agg (fmA ⟨fn, fa, fb, 1, 1⟩), .int .i32 n] w fun e w' => e = .returned (.bool (fitsB ⟨fn, fa, fb, 1, 1⟩ n)) ∧ Same w w' := by
  by_cases c1 : -128 ≤ n
  · by_cases c2 : n < 128
    · rw [show fitsB ⟨fn, fa, fb, 1, 1⟩ n = true from by simp [fitsB, c1, c2]]
      unfold fmA
      go_enter Tryz.func109, Tryz.ntmps109
      go_wp2
      go_ret
      exact ⟨rfl, (Keeps.refl _ _).alloc _⟩
    · rw [show fitsB ⟨fn, fa, fb, 1, 1⟩ n = false from by simp [fitsB]; omega]
      unfold fmA
      go_enter Tryz.func109, Tryz.ntmps109
      go_wp2
      go_ret
      exact ⟨rfl, (Keeps.refl _ _).alloc _⟩
  · rw [show fitsB ⟨fn, fa, fb, 1, 1⟩ n = false from by simp [fitsB]; omega]
    unfold fmA
    go_enter Tryz.func109, Tryz.ntmps109
    go_wp2
    go_ret
    exact ⟨rfl, (Keeps.refl _ _).alloc _⟩
set_option maxHeartbeats 1000000 in
theorem fits_20 (fn fa fb n : Int) (w : World) :
    Calls Tryz.prog 109 #[.agg (fmA ⟨fn, fa, fb, 2, 0⟩), .int .i32 n] w fun e w' => e = .returned (.bool (fitsB ⟨fn, fa, fb, 2, 0⟩ n)) ∧ Same w w' := by
  by_cases c1 : 0 ≤ n
  · by_cases c2 : n < 65536
    · rw [show fitsB ⟨fn, fa, fb, 2, 0⟩ n = true from by simp [fitsB, c1, c2]]
      unfold fmA
      go_enter Tryz.func109, Tryz.ntmps109
      go_wp2
      go_ret
      exact ⟨rfl, (Keeps.refl _ _).alloc _⟩
    · rw [show fitsB ⟨fn, fa, fb, 2, 0⟩ n = false from by simp [fitsB]; omega]
      unfold fmA
      go_enter Tryz.func109, Tryz.ntmps109
      go_wp2
      go_ret
      exact ⟨rfl, (Keeps.refl _ _).alloc _⟩
  · rw [show fitsB ⟨fn, fa, fb, 2, 0⟩ n = false from by simp [fitsB]; omega]
    unfold fmA
    go_enter Tryz.func109, Tryz.ntmps109
    go_wp2
    go_ret
    exact ⟨rfl, (Keeps.refl _ _).alloc _⟩
set_option maxHeartbeats 1000000 in
theorem fits_21 (fn fa fb n : Int) (w : World) :
    Calls Tryz.prog 109 #[.agg (fmA ⟨fn, fa, fb, 2, 1⟩), .int .i32 n] w fun e w' => e = .returned (.bool (fitsB ⟨fn, fa, fb, 2, 1⟩ n)) ∧ Same w w' := by
  by_cases c1 : -32768 ≤ n
  · by_cases c2 : n < 32768
    · rw [show fitsB ⟨fn, fa, fb, 2, 1⟩ n = true from by simp [fitsB, c1, c2]]
      unfold fmA
      go_enter Tryz.func109, Tryz.ntmps109
      go_wp2
      go_ret
      exact ⟨rfl, (Keeps.refl _ _).alloc _⟩
    · rw [show fitsB ⟨fn, fa, fb, 2, 1⟩ n = false from by simp [fitsB]; omega]
      unfold fmA
      go_enter Tryz.func109, Tryz.ntmps109
      go_wp2
      go_ret
      exact ⟨rfl, (Keeps.refl _ _).alloc _⟩
  · rw [show fitsB ⟨fn, fa, fb, 2, 1⟩ n = false from by simp [fitsB]; omega]
    unfold fmA
    go_enter Tryz.func109, Tryz.ntmps109
    go_wp2
    go_ret
    exact ⟨rfl, (Keeps.refl _ _).alloc _⟩
set_option maxHeartbeats 1000000 in
theorem fits_4 (fn fa fb fs n : Int) (w : World) :
    Calls Tryz.prog 109 #[.agg (fmA ⟨fn, fa, fb, 4, fs⟩), .int .i32 n] w fun e w' => e = .returned (.bool (fitsB ⟨fn, fa, fb, 4, fs⟩ n)) ∧ Same w w' := by
  rw [show fitsB ⟨fn, fa, fb, 4, fs⟩ n = true from by simp [fitsB]]
  unfold fmA
  go_enter Tryz.func109, Tryz.ntmps109
  go_wp2
  go_ret
  exact ⟨rfl, (Keeps.refl _ _).alloc _⟩
theorem fits_any (f : Fm) (n : Int) (hm : f.m = 0 ∨ f.m = 1 ∨ f.m = 2 ∨ f.m = 4) (hs : f.s = 0 ∨ f.s = 1) (w : World) :
    Calls Tryz.prog 109 #[.agg (fmA f), .int .i32 n] w fun e w' => e = .returned (.bool (fitsB f n)) ∧ Same w w' := by
  obtain ⟨fn, fa, fb, fm, fs⟩ := f
  simp only at hm hs
  rcases hm with rfl | rfl | rfl | rfl
  · exact fits_0 fn fa fb fs n w
  · rcases hs with rfl | rfl
    · exact fits_10 fn fa fb n w
    · exact fits_11 fn fa fb n w
  · rcases hs with rfl | rfl
    · exact fits_20 fn fa fb n w
    · exact fits_21 fn fa fb n w
  · exact fits_4 fn fa fb fs n w

theorem fm_facts (op : Int) (h : Bool) : ((formL op h).m = 0 ∨ (formL op h).m = 1 ∨ (formL op h).m = 2 ∨ (formL op h).m = 4) ∧ ((formL op h).s = 0 ∨ (formL op h).s = 1) ∧ ((formL op h).a = 0 ∨ (formL op h).a = 1) ∧ ((formL op h).b = 0 ∨ (formL op h).b = 1) ∧
    (formL op h = fm0 ∨ 1 ≤ (formL op h).n) ∧ (formL op h).n = (if formL op h = fm0 then 0 else 1 + (formL op h).a + (formL op h).m) := by
  have h9 := cls_le op h
  unfold formL
  generalize clsOf op h = c at h9
  obtain h | h | h | h | h | h | h | h | h | h : c = 0 ∨ c = 1 ∨ c = 2 ∨ c = 3 ∨ c = 4 ∨ c = 5 ∨ c = 6 ∨ c = 7 ∨ c = 8 ∨ c = 9 := by omega
  all_goals subst h; simp [fmOf, fm0]

theorem run_eq_form (a0 a1 a2 a3 a4 b0 b1 b2 b3 b4 : Int) (w : World) :
    (Op.equalIn 10000 164 (.agg #[.int .i64 a0, .int .i64 a1, .int .i64 a2, .int .i64 a3, .int .i64 a4]) (.agg #[.int .i64 b0, .int .i64 b1, .int .i64 b2, .int .i64 b3, .int .i64 b4])).run Tryz.prog w = .ok (a0 == b0 && (a1 == b1 && (a2 == b2 && (a3 == b3 && (a4 == b4 && true))))) w := by
  obtain ⟨i0, hi, _, hs, _⟩ := info_parts (show (Tryz.prog.info? 3).map (fun i => (i.zero, i.size, i.bytes)) = some (some (.int .i64 0), 1, 8) by kernel_rfl)
  have h := run_equalIn_array (P := Tryz.prog) w 9999 #[.int .i64 a0, .int .i64 a1, .int .i64 a2, .int .i64 a3, .int .i64 a4] #[.int .i64 b0, .int .i64 b1, .int .i64 b2, .int .i64 b3, .int .i64 b4] Tryz.underlying164 hi
  rw [hs] at h
  rw [h]
  have h2 := run_eqElems_ints (P := Tryz.prog) w 9998 Tryz.underlying3 [a0, a1, a2, a3, a4] [b0, b1, b2, b3, b4] #[.int .i64 a0, .int .i64 a1, .int .i64 a2, .int .i64 a3, .int .i64 a4] #[.int .i64 b0, .int .i64 b1, .int .i64 b2, .int .i64 b3, .int .i64 b4] 0 rfl
    (fun j hj => by
      simp at hj
      rcases (show j = 0 ∨ j = 1 ∨ j = 2 ∨ j = 3 ∨ j = 4 by omega) with rfl | rfl | rfl | rfl | rfl <;> rfl)
    (fun j hj => by
      simp at hj
      rcases (show j = 0 ∨ j = 1 ∨ j = 2 ∨ j = 3 ∨ j = 4 by omega) with rfl | rfl | rfl | rfl | rfl <;> rfl)
  exact h2

set_option maxHeartbeats 4000000 in
set_option maxRecDepth 100000 in
theorem may_any (i : In) (h : Bool) (hi : i.Ok) (w : World) :
    Calls Tryz.prog 87 #[.agg (inA i), .bool h] w fun e w' => e = .returned (.bool (mayB i h)) ∧ Same w w' := by
  obtain ⟨op, a, b, imm⟩ := i
  obtain ⟨o0, o1, a0, a1, b0, b1, n0, n1⟩ := hi
  simp only at o0 o1 a0 a1 b0 b1 n0 n1
  obtain ⟨hm, hs, ha, hb, hz, -⟩ := fm_facts op h
  obtain ⟨R, hR⟩ : ∃ R, R = mayB ⟨op, a, b, imm⟩ h := ⟨_, rfl⟩
  rw [← hR]
  unfold mayB at hR
  simp only at hR
  have hc := formOf_any op h o0 o1
  generalize formL op h = f at *
  obtain ⟨fn, fa, fb, fm, fs⟩ := f
  simp only at hm hs ha hb hz hR
  have HF := hidE  (fits_any ⟨fn, fa, fb, fm, fs⟩ imm hm hs)
  have HC := hidE  hc
  clear hc
  unfold inA
  rcases hz with hz | hz
  · simp only [fm0, Fm.mk.injEq] at hz
    obtain ⟨rfl, rfl, rfl, rfl, rfl⟩ := hz
    have HR := hidE  (show R = false by rw [hR]; simp)
    clear hR hm hs ha hb
    have heq := run_eq_form
    go_enter Tryz.func87, Tryz.ntmps87
    go_wp2_with fail
    refine (HC.out _).mono ?_
    rintro e w1 ⟨rfl, hk⟩
    have A1 := hk.get (block_new w _) id
    have e1 := cell_of A1
    have hlt := lt_of_block A1
    unfold fmA
    go_wp2
    go_ret
    exact ⟨by obtain rfl := HR.out; rfl, ((Keeps.refl _ _).alloc _).trans (hk.alloc _)⟩
  · have hne : (fn == 0) = false := by simp; omega
    have heq := run_eq_form
    have ways : a ≤ 7 * fa ∨ ¬ a ≤ 7 * fa := by omega
    have ways2 : b ≤ 7 * fb ∨ ¬ b ≤ 7 * fb := by omega
    rcases ways with wa | wa
    · rcases ways2 with wb | wb
      · have HR := hidE  (show R = fitsB ⟨fn, fa, fb, fm, fs⟩ imm by rw [hR]; simp [hz, wa, wb])
        clear hR
        rcases ha with rfl | rfl <;> rcases hb with rfl | rfl
        all_goals
          go_enter Tryz.func87, Tryz.ntmps87
          go_wp2_with fail
          refine (HC.out _).mono ?_
          rintro e w1 ⟨rfl, hk⟩
          have A1 := hk.get (block_new w _) id
          have e1 := cell_of A1
          have hlt := lt_of_block A1
          unfold fmA
          go_wp2_with fail
          refine (HF.out _).mono ?_
          rintro e w2 ⟨rfl, hk2⟩
          go_wp2
          go_ret
          exact ⟨by obtain rfl := HR.out; rfl, (((Keeps.refl _ _).alloc _).trans (hk.alloc _)).trans hk2⟩
      · have HR := hidE  (show R = false by rw [hR]; simp [wb])
        clear hR hm hs
        rcases ha with rfl | rfl <;> rcases hb with rfl | rfl
        all_goals
          go_enter Tryz.func87, Tryz.ntmps87
          go_wp2_with fail
          refine (HC.out _).mono ?_
          rintro e w1 ⟨rfl, hk⟩
          have A1 := hk.get (block_new w _) id
          have e1 := cell_of A1
          have hlt := lt_of_block A1
          unfold fmA
          go_wp2
          go_ret
          exact ⟨by obtain rfl := HR.out; rfl, ((Keeps.refl _ _).alloc _).trans (hk.alloc _)⟩
    · have HR := hidE  (show R = false by rw [hR]; simp [wa])
      clear hR hm hs ways2
      rcases ha with rfl | rfl
      all_goals
        go_enter Tryz.func87, Tryz.ntmps87
        go_wp2_with fail
        refine (HC.out _).mono ?_
        rintro e w1 ⟨rfl, hk⟩
        have A1 := hk.get (block_new w _) id
        have e1 := cell_of A1
        have hlt := lt_of_block A1
        unfold fmA
        go_wp2
        go_ret
        exact ⟨by obtain rfl := HR.out; rfl, ((Keeps.refl _ _).alloc _).trans (hk.alloc _)⟩
end Go.Proofs.YtomphgpplbekiaaGreat
