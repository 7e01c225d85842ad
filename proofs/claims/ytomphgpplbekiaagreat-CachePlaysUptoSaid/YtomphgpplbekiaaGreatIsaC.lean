/- The walks through package isa: reading. -/
import Derived.Test.YtomphgpplbekiaaGreatIsaB
namespace Go.Proofs.YtomphgpplbekiaaGreat
open Go.RowKit

/-- Bytes that can be read: from o on in block S there are l of them. -/
def Bytes (w : World) (S o l : Nat) (X : Nat → Int) : Prop := ∀ j, j < l → 0 ≤ X j ∧ X j < 256 ∧ w.cell? ⟨S, o + j, none⟩ = some (.int .u8 (X j))
theorem Bytes.keeps {F : Nat → Prop} {w w' : World} {S o l : Nat} {X : Nat → Int} (h : Bytes w S o l X) (k : Keeps F w w') (hF : ¬ F S) : Bytes w' S o l X := fun j hj => by
  obtain ⟨h1, h2, h3⟩ := h j hj
  refine ⟨h1, h2, ?_⟩
  have hlt : S < w.heap.size := by
    rcases Nat.lt_or_ge S w.heap.size with h | h
    · exact h
    · simp [World.cell?, Array.getElem?_eq_none h] at h3
  rw [World.cell?_of_block (w := w) (a := ⟨S, o + j, none⟩) (k.block S hlt hF)]; exact h3

set_option maxHeartbeats 1000000 in
theorem size_any (op : Int) (h : Bool) (h0 : 0 ≤ op) (h1 : op < 256) (w : World) :
    Calls Tryz.prog 88 #[.int .u8 op, .bool h] w fun e w' => e = .returned (.int .i64 (formL op h).n) ∧ Same w w' := by
  have HC := hidE  (formOf_any op h h0 h1 w)
  generalize formL op h = f at *
  have hix : ∀ w, (Instr.index 164 (.agg #[.int .i64 f.n, .int .i64 f.a, .int .i64 f.b, .int .i64 f.m, .int .i64 f.s]) (.int .i64 0)).run Tryz.prog w = .ok (.int .i64 f.n) w := fun _ => by kernel_rfl
  go_enter Tryz.func88, Tryz.ntmps88
  go_wp2_with fail
  refine HC.out.mono ?_
  rintro e w1 ⟨rfl, hk⟩
  unfold fmA
  go_wp2
  go_ret
  exact ⟨rfl, hk⟩

def NextPost (w : World) (r S o l c : Nat) (at_ x : Int) (e : Ending) (w' : World) : Prop :=
  e = .returned (.int .u8 x) ∧ Keeps (fun k => k = r) w w' ∧ w'.heap[r]? = some (.cells #[.slice (some ⟨S, o, none⟩) l c, .int .i64 (at_ + 1)] 168 (0, 0))
set_option maxHeartbeats 1000000 in
theorem next_any (r S o l c : Nat) (at_ : Nat) (X : Nat → Int) (w : World) (hat : at_ < l) (hl : l ≤ 4611686018427387904) (hr : w.heap[r]? = some (.cells #[.slice (some ⟨S, o, none⟩) l c, .int .i64 at_] 168 (0, 0)))
    (hX : Bytes w S o l X) (hne : S ≠ r) :
    Calls Tryz.prog 85 #[.pointer (some ⟨r, 0, none⟩)] w (NextPost w r S o l c at_ (X at_)) := by
  have c0 : w.cell? ⟨r, 0, none⟩ = some (.slice (some ⟨S, o, none⟩) l c) := by rw [cell_of hr]; rfl
  have c1 : w.cell? ⟨r, 1, none⟩ = some (.int .i64 at_) := by rw [cell_of hr]; rfl
  have f1 := frozen_of hr 1
  have cx := (hX at_ hat).2.2
  have b0 := block_set hr 1 (.int .i64 ((at_ : Int) + 1))
  have HB := hidE  b0
  have HR := hidE  hr
  clear hr b0
  have ea : IntKind.i64.wrap ((at_ : Int) + 1 - 1) = at_ := by rw [wrapI _ (by omega) (by omega)]; omega
  have HX := hidE  hX
  clear hX
  go_enter Tryz.func85, Tryz.ntmps85
  go_wp2
  go_quiet (fail)
  go_wp2
  go_ret
  exact ⟨rfl, (Keeps.setCell (F := fun k => k = r) (Keeps.refl _ _) (p := ⟨r, 1, none⟩) (fun _ => rfl) _).drewN _, HB.out⟩

/-- The number of so many bytes, the lowest first. -/
def leN (X : Nat → Int) (o : Nat) : Nat → Int
  | 0 => 0
  | k + 1 => leN X o k + X (o + k) * 256 ^ k
theorem leN_bd (X : Nat → Int) (o : Nat) : ∀ k, (∀ j, j < k → 0 ≤ X (o + j) ∧ X (o + j) < 256) → 0 ≤ leN X o k ∧ leN X o k < 256 ^ k
  | 0, _ => by simp [leN]
  | k + 1, h => by
    have ih := leN_bd X o k fun j hj => h j (by omega)
    have hk := h k (by omega)
    simp only [leN]
    have e : (256 : Int) ^ (k + 1) = 256 ^ k * 256 := Int.pow_succ 256 k
    have hp : (0 : Int) < 256 ^ k := Int.pow_pos (by omega)
    generalize (256 : Int) ^ k = p at *
    generalize X (o + k) = x at *
    generalize leN X o k = y at *
    have h1 : 0 ≤ x * p := Int.mul_nonneg hk.1 (by omega)
    have h2 : x * p ≤ 255 * p := Int.mul_le_mul_of_nonneg_right (by omega) (by omega)
    rw [e]
    omega
/-- With its sign, where the form says so. -/
def numL (f : Fm) (n : Int) : Int :=
  if f.s = 1 then (if f.m = 1 then (if n < 128 then n else n - 256) else if f.m = 2 then (if n < 32768 then n else n - 65536) else if n < 2147483648 then n else n - 4294967296)
  else if n < 2147483648 then n else n - 4294967296

def NumPost (w : World) (f : Fm) (r : Nat) (at_ : Nat) (X : Nat → Int) (e : Ending) (w' : World) : Prop :=
  e = .returned (.int .i32 (numL f (leN X at_ f.m.toNat))) ∧ Keeps (fun k => k = r) w w'
def NumRel (w : World) (f : Fm) (r S o l c : Nat) (at_ k : Nat) (X : Nat → Int) (wr : World) : Prop :=
  Keeps (fun k => k = r) w wr ∧ Bytes wr S o l X ∧ wr.heap[w.heap.size]? = some (.cells (fmA f) 164 (0, 0)) ∧ wr.heap[r]? = some (.cells #[.slice (some ⟨S, o, none⟩) l c, .int .i64 ((at_ + k : Nat) : Int)] 168 (0, 0))

theorem or_join (i : Nat) (a b : Int) (ha : 0 ≤ a) (ha2 : a < 2 ^ i) (hb : 0 ≤ b) (hb2 : b < 4294967296) (hd : b % 2 ^ i = 0) (hi : (2 : Int) ^ i ≤ 4294967296) : bits .or .u32 a b = a + b := by
  rw [u32_or a b ha (by omega) hb hb2]
  obtain ⟨x, rfl⟩ := Int.eq_ofNat_of_zero_le ha
  obtain ⟨y, rfl⟩ := Int.eq_ofNat_of_zero_le hb
  simp only [Int.toNat_natCast]
  have h1 : y % 2 ^ i = 0 := by exact_mod_cast hd
  have h2 : x < 2 ^ i := by exact_mod_cast ha2
  rw [Nat.or_comm, nat_join i y x h1 h2]
  simp; omega

theorem le_step (X : Nat → Int) (o k : Nat) (hk : k < 4) (h0 : 0 ≤ X (o + k)) (h1 : X (o + k) < 256) (hb : 0 ≤ leN X o k ∧ leN X o k < 256 ^ k) :
    bits .or .u32 (leN X o k) (X (o + k) * 256 ^ k) = leN X o (k + 1) := by
  rw [show leN X o (k + 1) = leN X o k + X (o + k) * 256 ^ k from rfl]
  generalize X (o + k) = x at *
  generalize leN X o k = y at *
  rcases (show k = 0 ∨ k = 1 ∨ k = 2 ∨ k = 3 by omega) with rfl | rfl | rfl | rfl
  · exact or_join 0 _ _ hb.1 (by simpa using hb.2) (by simpa using h0) (by omega) (by simp) (by omega)
  · exact or_join 8 _ _ hb.1 (by simpa using hb.2) (by omega) (by omega) (by omega) (by omega)
  · exact or_join 16 _ _ hb.1 (by simpa using hb.2) (by omega) (by omega) (by omega) (by omega)
  · exact or_join 24 _ _ hb.1 (by simpa using hb.2) (by omega) (by omega) (by omega) (by omega)

set_option maxHeartbeats 4000000 in
theorem number_any (f : Fm) (r S o l c at_ : Nat) (X : Nat → Int) (w : World) (hm : f.m = 0 ∨ f.m = 1 ∨ f.m = 2 ∨ f.m = 4) (hs : f.s = 0 ∨ f.s = 1) (hat : at_ + f.m ≤ l) (hl : l ≤ 4611686018427387904)
    (hr : w.heap[r]? = some (.cells #[.slice (some ⟨S, o, none⟩) l c, .int .i64 at_] 168 (0, 0))) (hX : Bytes w S o l X) (hne : S ≠ r) :
    Calls Tryz.prog 86 #[.agg (fmA f), .func (.func 85) #[.pointer (some ⟨r, 0, none⟩)] #[]] w (NumPost w f r at_ X) := by
  have hrw := lt_of_block hr
  have hstart : NumRel w f r S o l c at_ 0 X (w.alloc (.cells (fmA f) 164)) := ⟨(Keeps.refl _ _).alloc _, hX.keeps ((Keeps.refl (fun _ => False) _).alloc _) id, block_new _ _, block_old _ hr⟩
  have HS := hidE  hstart
  have hbd : ∀ k, at_ + k ≤ l → 0 ≤ leN X at_ k ∧ leN X at_ k < 256 ^ k := fun k hk => leN_bd X at_ k fun j hj => ⟨(hX (at_ + j) (by omega)).1, (hX (at_ + j) (by omega)).2.1⟩
  have HBd := hidE  hbd
  clear hstart hr hX hbd
  obtain ⟨fn, fa, fb, fm, fs⟩ := f
  simp only at hm hs hat
  simp only [fmA] at HS ⊢
  obtain ⟨m, rfl⟩ : ∃ m : Nat, fm = m := ⟨fm.toNat, by omega⟩
  have hm4 : m ≤ 4 := by omega
  go_enter Tryz.func86, Tryz.ntmps86
  go_wp2_with fail
  go_loopw [5, 10] (fun t5 t10 wr => ∃ k : Nat, t10 = .int .i64 k ∧ t5 = .int .u32 (leN X at_ k) ∧ k ≤ m ∧ NumRel w ⟨fn, fa, fb, m, fs⟩ r S o l c at_ k X wr) (fun _ t10 _ => (m - intOf t10).toNat)
  case atStart => exact ⟨0, rfl, rfl, by omega, HS.out⟩
  case round =>
    obtain ⟨k, rfl, rfl, hk, hR⟩ := hrel
    obtain ⟨hK, hX, hf, hr⟩ := hR
    have cf := cell_of hf
    simp only [fmA] at cf
    clear HS
    by_cases hlt : k < m
    · have hx := hX (at_ + k) (by omega)
      have hb := HBd.out k (by omega)
      have HV := hidE  (le_step X at_ k (by omega) hx.1 hx.2.1 hb)
      have HXb := hidE  (And.intro hx.1 hx.2.1)
      clear hx hb
      rcases (show k = 0 ∨ k = 1 ∨ k = 2 ∨ k = 3 by omega) with rfl | rfl | rfl | rfl
      · go_wp2_with fail
        refine (next_any r S o l c (at_ + 0) X _ (by omega) hl hr hX hne).mono ?_
        rintro e w2 ⟨rfl, hk2, hr2⟩
        have hR2 : NumRel w ⟨fn, fa, fb, m, fs⟩ r S o l c at_ 1 X w2 := ⟨hK.trans hk2, hX.keeps hk2 hne, hk2.get hf (by omega), by rw [hr2]; congr 3⟩
        have HR := hidE  hR2
        clear hR2 hk2 hr2 hK hX hf hr cf
        go_wp2
        go_roundw
        case rel => exact ⟨1, by go_num, by rw [← HV.out]; have := HXb.out; (try simp only [Nat.add_zero] at this ⊢); congr 2; omega, by omega, HR.out⟩
        case measure => simp [intOf]; omega
      · go_wp2_with fail
        refine (next_any r S o l c (at_ + 1) X _ (by omega) hl hr hX hne).mono ?_
        rintro e w2 ⟨rfl, hk2, hr2⟩
        have hR2 : NumRel w ⟨fn, fa, fb, m, fs⟩ r S o l c at_ 2 X w2 := ⟨hK.trans hk2, hX.keeps hk2 hne, hk2.get hf (by omega), by rw [hr2]; congr 3⟩
        have HR := hidE  hR2
        clear hR2 hk2 hr2 hK hX hf hr cf
        go_wp2
        go_roundw
        case rel => exact ⟨2, by go_num, by rw [← HV.out]; have := HXb.out; (try simp only [Nat.add_zero] at this ⊢); congr 2; omega, by omega, HR.out⟩
        case measure => simp [intOf]; omega
      · go_wp2_with fail
        refine (next_any r S o l c (at_ + 2) X _ (by omega) hl hr hX hne).mono ?_
        rintro e w2 ⟨rfl, hk2, hr2⟩
        have hR2 : NumRel w ⟨fn, fa, fb, m, fs⟩ r S o l c at_ 3 X w2 := ⟨hK.trans hk2, hX.keeps hk2 hne, hk2.get hf (by omega), by rw [hr2]; congr 3⟩
        have HR := hidE  hR2
        clear hR2 hk2 hr2 hK hX hf hr cf
        go_wp2
        go_roundw
        case rel => exact ⟨3, by go_num, by rw [← HV.out]; have := HXb.out; (try simp only [Nat.add_zero] at this ⊢); congr 2; omega, by omega, HR.out⟩
        case measure => simp [intOf]; omega
      · go_wp2_with fail
        refine (next_any r S o l c (at_ + 3) X _ (by omega) hl hr hX hne).mono ?_
        rintro e w2 ⟨rfl, hk2, hr2⟩
        have hR2 : NumRel w ⟨fn, fa, fb, m, fs⟩ r S o l c at_ 4 X w2 := ⟨hK.trans hk2, hX.keeps hk2 hne, hk2.get hf (by omega), by rw [hr2]; congr 3⟩
        have HR := hidE  hR2
        clear hR2 hk2 hr2 hK hX hf hr cf
        go_wp2
        go_roundw
        case rel => exact ⟨4, by go_num, by rw [← HV.out]; have := HXb.out; (try simp only [Nat.add_zero] at this ⊢); congr 2; omega, by omega, HR.out⟩
        case measure => simp [intOf]; omega
    · obtain rfl : k = m := by omega
      have hb := HBd.out k (by omega)
      have HK := hidE  hK
      clear hK hX hr hlt HBd
      generalize hN : leN X at_ k = N at *
      have HN := hidE  hN
      clear hN
      rcases (show k = 0 ∨ k = 1 ∨ k = 2 ∨ k = 4 by omega) with rfl | rfl | rfl | rfl <;> rcases hs with rfl | rfl
      all_goals
        go_wp2
        go_ret
        refine ⟨?_, HK.out⟩
        refine congrArg (fun z => Ending.returned (Value.int .i32 z)) (?_ : _ = numL _ _)
        have h1 := HN.out
        simp only [Int.toNat_natCast]
        rw [h1]
        clear h1 HN HK
        obtain ⟨hb1, hb2⟩ := hb
        simp at hb2
        simp [numL, wrap32]
        first | omega | (split <;> omega)
end Go.Proofs.YtomphgpplbekiaaGreat
