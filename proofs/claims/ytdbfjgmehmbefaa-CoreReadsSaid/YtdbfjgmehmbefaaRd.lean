/- What an instruction does hangs on no register but those that its letters name. -/
import Derived.Test.YtdbfjgmehmbefaaWr
namespace Go.Proofs.Ytdbfjgmehmbefaa
open Go.RowKit

theorem kind_ra (op : Int) (h : op = 17 ∨ op = 18 ∨ op = 19 ∨ op = 20 ∨ op = 21 ∨ op = 22 ∨ op = 23 ∨ op = 24 ∨ op = 25 ∨ op = 26 ∨ op = 27 ∨ op = 28 ∨ op = 29 ∨ op = 30 ∨ op = 31 ∨ op = 33 ∨ op = 49 ∨ op = 51 ∨ op = 53 ∨ op = 56 ∨ op = 58 ∨ op = 73 ∨ op = 74) : hasB (kindM op).2 97 = true := by
  rcases h with rfl | rfl | rfl | rfl | rfl | rfl | rfl | rfl | rfl | rfl | rfl | rfl | rfl | rfl | rfl | rfl | rfl | rfl | rfl | rfl | rfl | rfl | rfl
  all_goals decide +kernel
theorem kind_rb (op : Int) (h : op = 16 ∨ op = 17 ∨ op = 18 ∨ op = 19 ∨ op = 20 ∨ op = 21 ∨ op = 22 ∨ op = 23 ∨ op = 24 ∨ op = 25 ∨ op = 26 ∨ op = 27 ∨ op = 28 ∨ op = 29 ∨ op = 30 ∨ op = 31 ∨ op = 48 ∨ op = 49 ∨ op = 50 ∨ op = 51 ∨ op = 52 ∨ op = 53 ∨ op = 54 ∨ op = 55 ∨ op = 58) : hasB (kindM op).2 98 = true := by
  rcases h with rfl | rfl | rfl | rfl | rfl | rfl | rfl | rfl | rfl | rfl | rfl | rfl | rfl | rfl | rfl | rfl | rfl | rfl | rfl | rfl | rfl | rfl | rfl | rfl | rfl
  all_goals decide +kernel
theorem kind_rp (op : Int) (h : op = 56 ∨ op = 57) : hasB (kindM op).2 112 = true := by
  rcases h with rfl | rfl
  all_goals decide +kernel
theorem setR_ne (t : St) (r k : Nat) (x : Int) (h : r ≠ k) : (t.setR r x).R k = t.R k := by
  simp only [St.setR]; rw [if_neg (Ne.symm h)]
theorem setR_comm (t : St) (r k : Nat) (x y : Int) (h : r ≠ k) : (t.setR r x).setR k y = (t.setR k y).setR r x := by
  simp only [St.setR]
  congr 1
  funext j
  by_cases h1 : j = k
  · subst h1; rw [if_pos rfl, if_neg (Ne.symm h), if_pos rfl]
  · rw [if_neg h1, if_neg h1]
theorem setR_setR (t : St) (r : Nat) (x y : Int) : (t.setR r x).setR r y = t.setR r y := by
  simp only [St.setR]
  congr 1
  funext j
  split <;> simp_all
theorem setR_self (t : St) (r : Nat) : t.setR r (t.R r) = t := by
  obtain ⟨R, p, q, C, h⟩ := t
  simp only [St.setR]
  congr 1
  funext j
  split <;> simp_all
/-- The register r is none that is read or written. -/
structure Free (ks : ByteArray) (a b : Int) (r : Nat) : Prop where
  A : hasB ks 65 = true → r ≠ a.toNat
  L : hasB ks 76 = true → r ≠ 6
  P : hasB ks 80 = true → r ≠ 7
  a : hasB ks 97 = true → r ≠ a.toNat
  b : hasB ks 98 = true → r ≠ b.toNat
  p : hasB ks 112 = true → r ≠ 7
theorem want_free (s : St) (i : In) (r : Nat) (x : Int) (h : Free (kindM i.op).2 i.a i.b r) : wantL (s.setR r x) i = wantL s i := by
  unfold wantL
  split
  · rename_i hm
    simp only [Bool.and_eq_true, memB, decide_eq_true_eq] at hm
    have hm := hm.1
    have ha : atL (s.setR r x) i = atL s i := by
      unfold atL
      split
      · rename_i h1; rw [setR_ne _ _ _ _ (h.p (kind_rp _ (by omega)))]
      split
      · rename_i h1; rw [setR_ne _ _ _ _ (h.p (kind_rp _ (by omega)))]
      · rw [setR_ne _ _ _ _ (h.b (kind_rb _ (by omega)))]
    unfold wishL
    rw [ha]
    split
    · split
      · rename_i hw
        simp only [wrB, decide_eq_true_eq] at hw
        rw [setR_ne _ _ _ _ (h.a (kind_ra _ (by omega)))]
      · rfl
    · rfl
  · rfl
theorem turnS_setR (t : St) (r : Nat) (x f : Int) : turnS (t.setR r x) f = (turnS t f).setR r x := rfl
theorem setPc_setR (t : St) (r : Nat) (x n : Int) : (t.setR r x).setPc n = (t.setPc n).setR r x := rfl
theorem plain_free (t s : St) (i : In) (v : Int) (r : Nat) (x : Int) (h : Free (kindM i.op).2 i.a i.b r) : plainL (t.setR r x) i v (s.setR r x) = ((plainL t i v s).1.setR r x, (plainL t i v s).2) := by
  unfold plainL
  split
  · rename_i h1
    rw [setR_ne _ _ _ _ (h.b (kind_rb _ (by omega))), setR_comm _ _ _ _ _ (h.A (kind_A _ (by omega)))]
  split
  · rename_i h1 h2
    rw [setR_comm _ _ _ _ _ (h.A (kind_A _ (by omega)))]
  split
  · rename_i h1 h2 h3
    have e1 : (t.setR r x).R i.b.toNat = t.R i.b.toNat := setR_ne _ _ _ _ (h.b (kind_rb _ (by omega)))
    have e2 : (t.setR r x).R i.a.toNat = t.R i.a.toNat := setR_ne _ _ _ _ (h.a (kind_ra _ (by omega)))
    unfold partedL
    rw [e1, e2]
    split
    · rfl
    split
    · rw [setR_comm _ _ _ _ _ (h.A (kind_A _ (by omega))), turnS_setR]
    · rw [setR_comm _ _ _ _ _ (h.A (kind_A _ (by omega))), turnS_setR]
  split
  · unfold movedL
    simp only
    split
    · rw [setR_comm _ _ _ _ _ (h.A (kind_A _ (by omega)))]
    split
    · rw [setR_comm _ _ _ _ _ (h.A (kind_A _ (by omega)))]
    split
    · rw [setR_comm _ _ _ _ _ (h.A (kind_A _ (by omega)))]
    split
    · rw [setR_comm _ _ _ _ _ (h.A (kind_A _ (by omega)))]
    split
    · rw [setR_comm _ _ _ _ _ (h.A (kind_A _ (by omega)))]
    split
    · rw [setR_ne _ _ _ _ (h.P (kind_P _ (by omega))), setR_comm _ _ _ _ _ (h.P (kind_P _ (by omega)))]
    split
    · rw [setR_ne _ _ _ _ (h.P (kind_P _ (by omega))), setR_comm _ _ _ _ _ (h.P (kind_P _ (by omega))), setR_comm _ _ _ _ _ (h.A (kind_A _ (by omega)))]
    · rfl
  split
  · rename_i h5
    have cw := sum_ways _ h5
    have e2 : (t.setR r x).R i.a.toNat = t.R i.a.toNat := setR_ne _ _ _ _ (h.a (kind_ra _ (by omega)))
    have e3 : secL (t.setR r x) i = secL t i := by
      unfold secL
      split
      · rfl
      · rw [setR_ne _ _ _ _ (h.b (kind_rb _ (by omega)))]
    unfold summedL
    rw [e2, e3]
    simp only
    split
    · rename_i hk
      rw [setR_comm _ _ _ _ _ (h.A (kind_A _ (by simp only [keepB, decide_eq_true_eq] at hk; omega))), turnS_setR]
    · rw [turnS_setR]
  · rfl
/-- The law. -/
theorem rd_law (s : St) (i : In) (v : Int) (r : Nat) (x : Int) (h : Free (kindM i.op).2 i.a i.b r) : doL (s.setR r x) i v = ((doL s i v).1.setR r x, (doL s i v).2) := by
  have hw := want_free s i r x h
  unfold doL
  rw [hw]
  split
  · rfl
  split
  · rfl
  split
  · rfl
  split
  · have hn : nextL (s.setR r x) i = nextL s i := rfl
    rw [hn]
    unfold jumpL
    simp only
    split
    · rw [setR_ne _ _ _ _ (h.a (kind_ra _ (by omega))), setPc_setR]
    split
    · rw [setR_ne _ _ _ _ (h.a (kind_ra _ (by omega))), show ((s.setR r x).setPc (nextL s i)).setR 6 (nextL s i) = ((s.setPc (nextL s i)).setR 6 (nextL s i)).setR r x from setR_comm (s.setPc (nextL s i)) r 6 x _ (h.L (kind_L _ (by omega))), setPc_setR]
    split
    · rw [show ((s.setR r x).setPc (nextL s i)).setR 6 (nextL s i) = ((s.setPc (nextL s i)).setR 6 (nextL s i)).setR r x from setR_comm (s.setPc (nextL s i)) r 6 x _ (h.L (kind_L _ (by omega))), setPc_setR]
    have hp : (s.setR r x).ps = s.ps := rfl
    rw [hp]
    split <;> rw [setPc_setR]
  · have hn : nextL (s.setR r x) i = nextL s i := rfl
    rw [hn, setPc_setR, plain_free _ _ _ _ _ _ h]
theorem doL_none (s : St) (i : In) (v : Int) (h : mayB i false = false) : doL s i v = (s, ⟨1, s.pc⟩) := by
  unfold doL
  rw [if_pos (by simp [noneB, h])]
/-- What stands in a register that is neither read nor written. -/
theorem kept_law (s : St) (i : In) (v : Int) (r : Nat) (hs : s.Ok) (h : Free (kindM i.op).2 i.a i.b r) : (doL s i v).1.R r = s.R r := by
  by_cases hc : (doL s i v).2.c = 0
  · have hw := wr_law s i v hs hc
    by_cases e : (doL s i v).1.R r = s.R r
    · exact e
    · rcases hw.r r e with ⟨h1, h2⟩ | ⟨h1, h2⟩ | ⟨h1, h2⟩
      · exact absurd h2 (h.A h1)
      · exact absurd h2 (h.L h1)
      · exact absurd h2 (h.P h1)
  · rw [(fails_law s i v hc).1]
/-- The same, as the law asks it: no bit of the masks. -/
theorem free_of (i : In) (r : Nat) (_hr : r < 8) (a0 : 0 ≤ i.a) (a1 : i.a < 8) (b0 : 0 ≤ i.b) (b1 : i.b < 8)
    (h : ¬ (bits .or .u8 (accL abp (kindM i.op).2 (regR i.a i.b) 3) (accL ALP (kindM i.op).2 (regW i.a i.b) 3) / 2 ^ r % 2 = 1)) : Free (kindM i.op).2 i.a i.b r := by
  have hR := abp_bits (kindM i.op).2 i.a i.b a0 a1 b0 b1 r
  have hW := ALP_bits (kindM i.op).2 i.a i.b a0 a1 b0 b1 r
  have bR := accL_bd abp (kindM i.op).2 (regR i.a i.b) 3
  have bW := accL_bd ALP (kindM i.op).2 (regW i.a i.b) 3
  have key : ∀ x y : Int, 0 ≤ x → x < 256 → 0 ≤ y → y < 256 → ((bits .or .u8 x y / 2 ^ r % 2 = 1) ↔ (x / 2 ^ r % 2 = 1 ∨ y / 2 ^ r % 2 = 1)) := by
    intro x y x0 x1 y0 y1
    obtain ⟨m, rfl⟩ := Int.eq_ofNat_of_zero_le x0
    obtain ⟨n, rfl⟩ := Int.eq_ofNat_of_zero_le y0
    rw [u8_or _ _ x0 x1 y0 y1, Int.toNat_natCast, Int.toNat_natCast]
    have e2 : ∀ z : Nat, ((z : Int) / 2 ^ r % 2 = 1) ↔ z.testBit r = true := by
      intro z
      rw [Nat.testBit_eq_decide_div_mod_eq, decide_eq_true_eq]
      rw [show ((2 : Int) ^ r) = ((2 ^ r : Nat) : Int) by simp]
      omega
    rw [e2, e2, e2, Nat.testBit_or, Bool.or_eq_true]
  rw [key _ _ bR.1 bR.2 bW.1 bW.2, hR, hW] at h
  exact ⟨fun h1 h2 => h (.inr (.inl ⟨h1, h2⟩)), fun h1 h2 => h (.inr (.inr (.inl ⟨h1, h2⟩))), fun h1 h2 => h (.inr (.inr (.inr ⟨h1, h2⟩))),
    fun h1 h2 => h (.inl (.inl ⟨h1, h2⟩)), fun h1 h2 => h (.inl (.inr (.inl ⟨h1, h2⟩))), fun h1 h2 => h (.inl (.inr (.inr ⟨h1, h2⟩)))⟩
end Go.Proofs.Ytdbfjgmehmbefaa
