/- Which registers turn, in plain words. -/
import Derived.Test.YtdbfjgmehmbefaaKindF
import Derived.Test.YtdbfjgmehmbefaaCoreFailsWalk
import Derived.Test.YtdbfjgmehmbefaaBitsQ
import Derived.Test.YtdbfjgmehmbefaaCoreNextWalk
namespace Go.Proofs.Ytdbfjgmehmbefaa
open Go.RowKit

theorem kind_A (op : Int) (h : op = 16 ∨ op = 17 ∨ op = 18 ∨ op = 19 ∨ op = 20 ∨ op = 21 ∨ op = 22 ∨ op = 23 ∨ op = 24 ∨ op = 27 ∨ op = 28 ∨ op = 29 ∨ op = 25 ∨ op = 30 ∨ op = 32 ∨ op = 33 ∨ op = 48 ∨ op = 50 ∨ op = 52 ∨ op = 54 ∨ op = 55 ∨ op = 57 ∨ op = 58) : hasB (kindM op).2 65 = true := by
  rcases h with rfl | rfl | rfl | rfl | rfl | rfl | rfl | rfl | rfl | rfl | rfl | rfl | rfl | rfl | rfl | rfl | rfl | rfl | rfl | rfl | rfl | rfl | rfl
  all_goals decide +kernel
theorem kind_f (op : Int) (h : op = 17 ∨ op = 18 ∨ op = 19 ∨ op = 20 ∨ op = 21 ∨ op = 22 ∨ op = 23 ∨ op = 24 ∨ op = 25 ∨ op = 26 ∨ op = 27 ∨ op = 28 ∨ op = 29 ∨ op = 30 ∨ op = 31 ∨ op = 33) : hasB (kindM op).2 102 = true := by
  rcases h with rfl | rfl | rfl | rfl | rfl | rfl | rfl | rfl | rfl | rfl | rfl | rfl | rfl | rfl | rfl | rfl
  all_goals decide +kernel
theorem kind_L (op : Int) (h : op = 72 ∨ op = 74) : hasB (kindM op).2 76 = true := by
  rcases h with rfl | rfl
  all_goals decide +kernel
theorem kind_P (op : Int) (h : op = 56 ∨ op = 57) : hasB (kindM op).2 80 = true := by
  rcases h with rfl | rfl
  all_goals decide +kernel
theorem zn_ok (r : Int) : 0 ≤ zn r ∧ zn r ≤ 32 ∧ zn r % 16 = 0 := by unfold zn; split; decide; split <;> decide
theorem flg_ok (r : Int) (c v : Bool) : 0 ≤ flg r c v ∧ flg r c v < 256 ∧ flg r c v % 16 = 0 := by
  have h := zn_ok r
  unfold flg
  cases c <;> cases v <;> simp <;> omega
theorem znf (r : Int) : 0 ≤ zn r ∧ zn r < 256 ∧ zn r % 16 = 0 := by have h := zn_ok r; omega
theorem sumF_ok (op a b : Int) : 0 ≤ (sumL op a b).2 ∧ (sumL op a b).2 < 256 ∧ (sumL op a b).2 % 16 = 0 := by
  unfold sumL
  split
  · exact flg_ok _ _ _
  split
  · exact flg_ok _ _ _
  split
  · exact znf _
  split
  · exact znf _
  split
  · exact znf _
  split
  · unfold shlL; split
    · exact znf _
    · exact flg_ok _ _ _
  split
  · unfold shrL; split
    · exact znf _
    · exact flg_ok _ _ _
  split
  · exact flg_ok _ _ _
  split
  · unfold rorL; split
    · exact znf _
    · exact flg_ok _ _ _
  split
  · unfold sarL; split
    · exact znf _
    · exact flg_ok _ _ _
  split
  · exact znf _
  · decide
/-- What may have turned between two states. -/
structure Wr (ks : ByteArray) (a : Int) (s t : St) : Prop where
  r : ∀ n, t.R n ≠ s.R n → (hasB ks 65 = true ∧ n = a.toNat) ∨ (hasB ks 76 = true ∧ n = 6) ∨ (hasB ks 80 = true ∧ n = 7)
  f : t.ps ≠ s.ps → hasB ks 102 = true
  c : t.C = s.C
  h : t.hl = s.hl
  m : bits .andNot .u32 t.ps 240 = bits .andNot .u32 s.ps 240
theorem Wr.refl (ks : ByteArray) (a : Int) (s : St) : Wr ks a s s := ⟨fun _ h => absurd rfl h, fun h => absurd rfl h, rfl, rfl, rfl⟩
theorem Wr.pc {ks : ByteArray} {a : Int} {s t : St} (h : Wr ks a s t) (n : Int) : Wr ks a s (t.setPc n) := ⟨h.r, h.f, h.c, h.h, h.m⟩
theorem Wr.regA {ks : ByteArray} {a : Int} {s t : St} (h : Wr ks a s t) (x : Int) (hk : hasB ks 65 = true) : Wr ks a s (t.setR a.toNat x) :=
  ⟨fun n hn => by
    by_cases e : n = a.toNat
    · exact .inl ⟨hk, e⟩
    · exact h.r n (by simpa [St.setR, e] using hn), h.f, h.c, h.h, h.m⟩
theorem Wr.regL {ks : ByteArray} {a : Int} {s t : St} (h : Wr ks a s t) (x : Int) (hk : hasB ks 76 = true) : Wr ks a s (t.setR 6 x) :=
  ⟨fun n hn => by
    by_cases e : n = 6
    · exact .inr (.inl ⟨hk, e⟩)
    · exact h.r n (by simpa [St.setR, e] using hn), h.f, h.c, h.h, h.m⟩
theorem Wr.regP {ks : ByteArray} {a : Int} {s t : St} (h : Wr ks a s t) (x : Int) (hk : hasB ks 80 = true) : Wr ks a s (t.setR 7 x) :=
  ⟨fun n hn => by
    by_cases e : n = 7
    · exact .inr (.inr ⟨hk, e⟩)
    · exact h.r n (by simpa [St.setR, e] using hn), h.f, h.c, h.h, h.m⟩
theorem Wr.turn {ks : ByteArray} {a : Int} {s t : St} (h : Wr ks a s t) (f : Int) (hk : hasB ks 102 = true) (p0 : 0 ≤ t.ps) (p1 : t.ps < 4294967296) (hf : 0 ≤ f ∧ f < 256 ∧ f % 16 = 0) : Wr ks a s (turnS t f) :=
  ⟨h.r, fun _ => hk, h.c, h.h, by
    rw [← h.m]
    show bits .andNot .u32 (bits .or .u32 (bits .andNot .u32 t.ps 240) f) 240 = _
    rw [turn_ps t.ps f p0 p1 hf.1 hf.2.1 hf.2.2, andNot_240 _ (by omega) (by omega), andNot_240 _ p0 p1]
    omega⟩
theorem plain_wr (s t : St) (i : In) (v : Int) (was : St) (h : (plainL t i v was).2.c = 0) (p0 : 0 ≤ t.ps) (p1 : t.ps < 4294967296) (hw : Wr (kindM i.op).2 i.a s t) : Wr (kindM i.op).2 i.a s (plainL t i v was).1 := by
  unfold plainL at *
  split
  · rename_i h1; exact hw.regA _ (kind_A _ (by omega))
  rename_i h1
  rw [if_neg h1] at h
  split
  · rename_i h1; exact hw.regA _ (kind_A _ (by omega))
  rename_i h2
  rw [if_neg h2] at h
  split
  · rename_i h3
    rw [if_pos h3] at h
    unfold partedL at *
    split
    · rename_i hz; rw [if_pos hz] at h; simp at h
    split
    · exact (hw.regA _ (kind_A _ (by omega))).turn _ (kind_f _ (by omega)) p0 p1 (znf _)
    · exact (hw.regA _ (kind_A _ (by omega))).turn _ (kind_f _ (by omega)) p0 p1 (znf _)
  split
  · unfold movedL
    simp only
    split
    · exact hw.regA _ (kind_A _ (by omega))
    split
    · exact hw.regA _ (kind_A _ (by omega))
    split
    · exact hw.regA _ (kind_A _ (by omega))
    split
    · exact hw.regA _ (kind_A _ (by omega))
    split
    · exact hw.regA _ (kind_A _ (by omega))
    split
    · exact hw.regP _ (kind_P _ (by omega))
    split
    · exact (hw.regP _ (kind_P _ (by omega))).regA _ (kind_A _ (by omega))
    · exact hw
  split
  · rename_i h5
    have cw := sum_ways _ h5
    unfold summedL
    simp only
    split
    · rename_i hk
      refine (hw.regA _ (kind_A _ ?_)).turn _ (kind_f _ (by omega)) p0 p1 (sumF_ok _ _ _)
      simp only [keepB, decide_eq_true_eq] at hk
      omega
    · exact hw.turn _ (kind_f _ (by omega)) p0 p1 (sumF_ok _ _ _)
  · exact hw
/-- Only registers turn that the letters name. -/
theorem wr_law (s : St) (i : In) (v : Int) (hs : s.Ok) (h : (doL s i v).2.c = 0) : Wr (kindM i.op).2 i.a s (doL s i v).1 := by
  unfold doL at *
  split
  · exact Wr.refl _ _ _
  rename_i hn
  rw [if_neg hn] at h
  split
  · exact Wr.refl _ _ _
  rename_i hf
  rw [if_neg hf] at h
  split
  · exact Wr.refl _ _ _
  rename_i h8
  rw [if_neg h8] at h
  split
  · unfold jumpL
    simp only
    split
    · exact (Wr.refl _ _ _).pc _
    split
    · exact (((Wr.refl _ _ _).pc _).regL _ (kind_L _ (by omega))).pc _
    split
    · exact (((Wr.refl _ _ _).pc _).regL _ (kind_L _ (by omega))).pc _
    split
    · exact (Wr.refl _ _ _).pc _
    · exact (Wr.refl _ _ _).pc _
  · rename_i hj
    rw [if_neg hj] at h
    exact plain_wr s _ i v s h hs.ps0 hs.ps1 ((Wr.refl _ _ _).pc _)
/-! Bits of 8. -/
theorem or_bit (x : Int) (r n : Nat) (h0 : 0 ≤ x) (h1 : x < 256) (hr : r < 8) : (bits .or .u8 x (2 ^ r % 256) / 2 ^ n % 2 = 1) ↔ (x / 2 ^ n % 2 = 1 ∨ n = r) := by
  obtain ⟨y, rfl⟩ := Int.eq_ofNat_of_zero_le h0
  have hp : (2 : Nat) ^ r < 256 := by
    have : (2 : Nat) ^ r < 2 ^ 8 := Nat.pow_lt_pow_right (by omega) hr
    simpa using this
  have e1 : ((2 : Int) ^ r % 256) = ((2 ^ r : Nat) : Int) := by
    rw [show ((2 : Int) ^ r) = ((2 ^ r : Nat) : Int) by simp]
    generalize (2 : Nat) ^ r = q at hp
    omega
  rw [e1, u8_or _ _ h0 h1 (Int.natCast_nonneg _) (by generalize (2 : Nat) ^ r = q at hp; omega), Int.toNat_natCast, Int.toNat_natCast]
  have e2 : ∀ z : Nat, ((z : Int) / 2 ^ n % 2 = 1) ↔ z.testBit n = true := by
    intro z
    rw [Nat.testBit_eq_decide_div_mod_eq, decide_eq_true_eq]
    rw [show ((2 : Int) ^ n) = ((2 ^ n : Nat) : Int) by simp]
    omega
  rw [e2, e2, Nat.testBit_or, Bool.or_eq_true, Nat.testBit_two_pow, decide_eq_true_eq, eq_comm (a := r)]
theorem acc3 (ls ks : ByteArray) (reg : Int → Int) (l0 l1 l2 : Int) (h0 : ((ls.data.toList.getD 0 0).toNat : Int) = l0) (h1 : ((ls.data.toList.getD 1 0).toNat : Int) = l1) (h2 : ((ls.data.toList.getD 2 0).toNat : Int) = l2) (hr : ∀ c, 0 ≤ reg c ∧ reg c < 8) (n : Nat) :
    (accL ls ks reg 3 / 2 ^ n % 2 = 1) ↔ (hasB ks l0 = true ∧ n = (reg l0).toNat) ∨ (hasB ks l1 = true ∧ n = (reg l1).toNat) ∨ (hasB ks l2 = true ∧ n = (reg l2).toNat) := by
  have step : ∀ k l, ((ls.data.toList.getD k 0).toNat : Int) = l → ((accL ls ks reg (k + 1) / 2 ^ n % 2 = 1) ↔ (accL ls ks reg k / 2 ^ n % 2 = 1 ∨ (hasB ks l = true ∧ n = (reg l).toNat))) := by
    intro k l hl
    have hb := accL_bd ls ks reg k
    have hq := hr l
    simp only [accL, hl]
    cases hh : hasB ks l
    · simp
    · simp only [if_true]
      rw [or_bit _ _ n hb.1 hb.2 (by omega)]
      simp
  rw [step 2 l2 h2, step 1 l1 h1, step 0 l0 h0]
  have z : ¬ (accL ls ks reg 0 / 2 ^ n % 2 = 1) := by simp [accL]
  simp only [z, false_or]
  exact or_assoc
theorem ALP_bits (ks : ByteArray) (a b : Int) (a0 : 0 ≤ a) (a1 : a < 8) (b0 : 0 ≤ b) (b1 : b < 8) (n : Nat) : (accL ALP ks (regW a b) 3 / 2 ^ n % 2 = 1) ↔ (hasB ks 65 = true ∧ n = a.toNat) ∨ (hasB ks 76 = true ∧ n = 6) ∨ (hasB ks 80 = true ∧ n = 7) :=
  acc3 ALP ks (regW a b) 65 76 80 (by decide) (by decide) (by decide) (fun c => regW_bd a b c a0 a1 b0 b1) n
theorem abp_bits (ks : ByteArray) (a b : Int) (a0 : 0 ≤ a) (a1 : a < 8) (b0 : 0 ≤ b) (b1 : b < 8) (n : Nat) : (accL abp ks (regR a b) 3 / 2 ^ n % 2 = 1) ↔ (hasB ks 97 = true ∧ n = a.toNat) ∨ (hasB ks 98 = true ∧ n = b.toNat) ∨ (hasB ks 112 = true ∧ n = 7) :=
  acc3 abp ks (regR a b) 97 98 112 (by decide) (by decide) (by decide) (fun c => regR_bd a b c a0 a1 b0 b1) n
/-- The host's instructions are all those of the guest, and more. -/
theorem may_host {i : In} (h : mayB i false = true) : mayB i true = true := by
  unfold mayB at *
  simp only [Bool.and_eq_true, decide_eq_true_eq] at h
  have hc : formL i.op true = formL i.op false := by
    by_cases e1 : i.op = 112
    · rw [e1] at h; exact absurd h.1.1.1 (by decide)
    by_cases e2 : i.op = 113
    · rw [e2] at h; exact absurd h.1.1.1 (by decide)
    unfold formL clsOf
    simp [e1, e2]
  rw [hc]
  simp only [Bool.and_eq_true, decide_eq_true_eq]
  exact h
end Go.Proofs.Ytdbfjgmehmbefaa
