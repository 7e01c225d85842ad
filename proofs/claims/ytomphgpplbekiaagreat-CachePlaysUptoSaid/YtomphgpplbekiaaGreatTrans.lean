/- The walk of Translate. -/
import Derived.Test.YtomphgpplbekiaaGreatEnd
import Derived.Test.YtomphgpplbekiaaGreatMayW
namespace Go.Proofs.YtomphgpplbekiaaGreat
open Go.RowKit

/-- What is known of a block that may be. -/
theorem mayTo_all {n : Nat} {e : Int} {X : Nat → In} : ∀ m, mayTo n e X m = true → ∀ k, k < m → stepB n e (X k) k = true
  | 0, _, k, h => by omega
  | m + 1, h, k, hk => by
    simp only [mayTo, Bool.and_eq_true] at h
    rcases Nat.lt_or_ge k m with h1 | h1
    · exact mayTo_all m h.1 k h1
    · obtain rfl : k = m := by omega
      exact h.2
structure Good (b : Bk) : Prop where
  n1 : 1 ≤ b.n
  n2 : b.n ≤ 32
  m : b.m = b.n
  may : ∀ k, k < b.n → mayB (b.X k) false = true
  go_on : ∀ k, k + 1 < b.n → ending3 (b.X k).op = false
  fit : fitsE (lastX b).op b.fin (ending3 (lastX b).op) = true
theorem good_of {b : Bk} (h : mayBlk b = true) : Good b := by
  simp only [mayBlk, Bool.and_eq_true, decide_eq_true_eq] at h
  obtain ⟨⟨⟨h1, h2⟩, h3⟩, h4⟩ := h
  have ha := mayTo_all _ h4
  refine ⟨h1, h2, h3, fun k hk => ?_, fun k hk => ?_, ?_⟩
  · have := ha k hk
    simp only [stepB, Bool.and_eq_true] at this
    exact this.1
  · have := ha k (by omega)
    simp only [stepB, Bool.and_eq_true, if_pos hk] at this
    simpa using this.2
  · have := ha (b.n - 1) (by omega)
    simp only [stepB, Bool.and_eq_true, if_neg (show ¬ (b.n - 1 + 1 < b.n) by omega)] at this
    exact this.2
theorem fits_ways {op e : Int} {ends : Bool} (h : fitsE op e ends = true) : (e = 1 ∧ ends = false) ∨ (e = 2 ∧ (op = 64 ∨ op = 72)) ∨ (e = 3 ∧ 65 ≤ op ∧ op ≤ 71) ∨ (e = 4 ∧ ends = true ∧ op ≠ 64 ∧ op ≠ 72 ∧ ¬ (65 ≤ op ∧ op ≤ 71)) := by
  unfold fitsE at h
  by_cases e1 : e = 1
  · simp [e1] at h; exact .inl ⟨e1, h⟩
  by_cases e2 : e = 2
  · simp [e2] at h; exact .inr (.inl ⟨e2, h⟩)
  by_cases e3 : e = 3
  · simp [e3] at h; exact .inr (.inr (.inl ⟨e3, h.1, h.2⟩))
  by_cases e4 : e = 4
  · simp [e4] at h
    refine .inr (.inr (.inr ⟨e4, h.1.1, h.1.2.1, h.1.2.2, ?_⟩))
    rintro ⟨q1, q2⟩
    rcases h.2 with h | h <;> omega
  · simp [e1, e2, e3, e4] at h
theorem end_any (w : World) (W : Nat) (b : Bk) (bv rv : Value) (c : Cd) (nx : Int) (h : WkSt w W b bv rv c.1 c.2 nx) (hb : b.Ok w) (hg : Good b) (hl : c.1.length ≤ 2000) (hr : c.2.length ≤ 2000) (x0 : 0 ≤ nx) (x1 : nx ≤ 65534) :
    Calls Tryz.prog 102 #[.pointer (some ⟨W, 0, none⟩)] w fun e w' => e = .returned (.tuple #[]) ∧ EndPost w W b bv rv c nx w' := by
  obtain ⟨n1, n2, hm, -, -, hf⟩ := hg
  rcases fits_ways hf with ⟨e, -⟩ | ⟨e, ho⟩ | ⟨e, h0, h1⟩ | ⟨e, -⟩
  · exact end_1 w W b bv rv c nx h hb n1 n2 hm hl hr x0 x1 e
  · by_cases h72 : (lastX b).op = 72
    · exact end_3 w W b bv rv c nx h hb n1 n2 hm hl hr x0 x1 e h72
    · exact end_2 w W b bv rv c nx h hb n1 n2 hm hl hr x0 x1 e h72
  · exact end_4 w W b bv rv c nx h hb n1 n2 hm hl hr x0 x1 e h0 h1
  · exact end_5 w W b bv rv c nx h hb n1 n2 hm hl hr x0 x1 e
theorem endC_len (b : Bk) (c : Cd) (nx : Int) : (endC b c nx).1.length ≤ c.1.length + 20 ∧ (endC b c nx).2.length ≤ c.2.length + 6 := by
  have h1 := encL_6 (ldiI b) false
  have h2 := encL_6 (brI b) false
  unfold endC
  split
  · simp only [outL, List.length_append, List.length_cons, List.length_nil, stubL_len]; omega
  · split
    · split <;> simp only [outL, withL, List.length_append, List.length_cons, List.length_nil, stubL_len] <;> omega
    · split <;> simp only [outL, withL, List.length_append, List.length_cons, List.length_nil, stubL_len] <;> omega
theorem trC_len {b : Bk} (hg : Good b) (first : Int) : (trC b first).1.length ≤ 400 ∧ (trC b first).2.length ≤ 50 := by
  obtain ⟨N, hN, hN2⟩ : ∃ N : Nat, trC b first = endC b (bodyC b N) first ∧ N ≤ 32 := ⟨_, rfl, by have := hg.n2; split <;> omega⟩
  have h1 := bodyC_len b N
  have h2 := endC_len b (bodyC b N) first
  rw [hN]
  omega
def TrRel (w2 : World) (W : Nat) (b : Bk) (first : Int) (k : Nat) (wr : World) : Prop :=
  ∃ bv rv, WkSt wr W b bv rv (bodyC b k).1 (bodyC b k).2 first ∧ Touch w2 wr W (.slice none 0 0) (.slice none 0 0) bv rv
def TrPost (w : World) (b : Bk) (first : Int) (e : Ending) (w' : World) : Prop :=
  ∃ bv rv, e = .returned (.tuple #[.agg #[bv, rv], .int .i64 0]) ∧ RowB w' w.heap.size bv (trC b first).1 ∧ RowR w' w.heap.size rv (trC b first).2 ∧ Same w w'
set_option maxHeartbeats 4000000 in
set_option maxRecDepth 100000 in
theorem trans_no (b : Bk) (first : Int) (w : World) (hb : b.Ok w) (hno : ¬ (mayBlk b = true ∧ 0 ≤ first ∧ first ≤ 65534)) :
    Calls Tryz.prog 73 #[.agg (bkA b), .int .i64 first] w fun e w' => e = .returned (.tuple #[.agg #[.slice none 0 0, .slice none 0 0], .int .i64 2]) ∧ Same w w' := by
  have HM := hidE (fun (w' : World) (hk : Same w w') => mayT_any b w' (hb.keeps hk))
  generalize mayBlk b = M at *
  obtain ⟨ia, n, cn, aa, m, cm, next, to, fin, fr, tb, X, Y⟩ := b
  simp only [bkA] at *
  clear hb
  by_cases c1 : first < 0 <;> by_cases c2 : 65534 < first <;> cases M <;> first | (exfalso; omega) | (exfalso; exact hno ⟨rfl, by omega, by omega⟩) | skip
  all_goals
    clear hno
    go_enter Tryz.func73, Tryz.ntmps73
    go_wp2_with fail
    refine (HM.out _ (((Keeps.refl _ _).alloc _).alloc _)).mono ?_
    rintro e w1 ⟨rfl, hk⟩
    have B : w1.heap[w.heap.size + 1]? = some (.cells #[.slice none 0 0, .slice none 0 0] 60 (0, 0)) := hk.get (block_at _ (by simp)) id
    have f0 := frozen_of B
    have c0 := cell_of B
    have HK := hidE hk
    have HB := hidE B
    have hlt := lt_of_block B
    clear hk B
    simp at f0 c0
    go_wp2
    exact bodyPost_ret (results_ct rfl rfl (block_set (block_set HB.out 0 _) 1 _) Tryz.underlying60 rfl (by kernel_rfl)) rfl ⟨rfl, Keeps.setCell (F := fun _ => False) (Keeps.setCell (F := fun _ => False) ((((Keeps.refl _ _).alloc _).alloc _).trans HK.out) (fun h => by simp at h; omega) _) (fun h => by simp at h; omega) _⟩
set_option maxHeartbeats 4000000 in
set_option maxRecDepth 100000 in
theorem trans_yes (b : Bk) (first : Int) (w : World) (hb : b.Ok w) (hM : mayBlk b = true) (x0 : 0 ≤ first) (x1 : first ≤ 65534) :
    Calls Tryz.prog 73 #[.agg (bkA b), .int .i64 first] w (TrPost w b first) := by
  have HG := hidE (good_of hM)
  have HM := hidE (fun (w' : World) (hk : Same w w') => by have h := mayT_any b w' (hb.keeps hk); rw [hM] at h; exact h)
  have HOK := hidE hb
  have HE := hidE (fun (w' : World) (W : Nat) (bv rv : Value) (c : Cd) (hk : Same w w') (h : WkSt w' W b bv rv c.1 c.2 first) (hl : c.1.length ≤ 2000) (hr : c.2.length ≤ 2000) => end_any w' W b bv rv c first h (hb.keeps hk) HG.out hl hr x0 x1)
  have n1 := HG.out.n1
  have n2 := HG.out.n2
  have hm := HG.out.m
  have hcn := hb.hcn
  have hcm := hb.hcm
  have hn' := hb.hn
  have hm' := hb.hm
  clear hb hM
  have HBC := hidE (bodyC_len b)
  unfold TrPost
  rcases HOK.out.ins with hI | ⟨S, o, ha, hS, hI⟩
  · omega
  rcases HOK.out.at_ with hY | ⟨S2, o2, ha2, hS2, hY⟩
  · omega
  rw [hm] at hY
  have HI := hidE hI
  have HY := hidE hY
  clear hI hY
  have hA : bkA b = #[.slice (some ⟨S, o, none⟩) b.n b.cn, .slice (some ⟨S2, o2, none⟩) b.n b.cm, .int .u32 b.next, .int .u32 b.to, .int .i64 b.fin, b.fr, b.tb] := by simp only [bkA, ha, ha2, hm]
  have hwk : ∀ bv rv nx, wkA bv rv b nx = #[bv, rv, .slice (some ⟨S, o, none⟩) b.n b.cn, .slice (some ⟨S2, o2, none⟩) b.n b.cm, .int .u32 b.next, .int .u32 b.to, .int .i64 b.fin, b.fr, b.tb, .int .i64 nx] := fun bv rv nx => by simp only [wkA, ha, ha2, hm]
  have HWK := hidE hwk
  have HA := hidE hA
  clear hm ha ha2 hA hwk
  by_cases hf1 : b.fin = 1
  · have hq1 : (b.fin != 1) = false := by simp [hf1]
    have HC : Hid (trC b first = endC b (bodyC b b.n) first) := hidE (by simp [trC, hf1])
    generalize trC b first = TC at *
    rw [HA.out]
    clear hf1
    go_enter Tryz.func73, Tryz.ntmps73
    go_wp2_with fail
    rw [← HA.out]
    refine (HM.out _ (((Keeps.refl _ _).alloc _).alloc _)).mono ?_
    rintro e w1 ⟨rfl, hk⟩
    have B1 : w1.heap[w.heap.size + 1]? = some (.cells #[.slice none 0 0, .slice none 0 0] 60 (0, 0)) := hk.get (block_at _ (by simp)) id
    have B0 : w1.heap[w.heap.size]? = some (.cells (bkA b) 36 (0, 0)) := hk.get (block_old _ (block_new _ _)) id
    rw [HA.out] at B0
    have c0 := cell_of B0
    have hlt := lt_of_block B1
    have hlt0 := lt_of_block B0
    have hs1 : Same w w1 := (((Keeps.refl _ _).alloc _).alloc _).trans hk
    have H0 : Hid (WkSt (w1.alloc (.cells (wkA (.slice none 0 0) (.slice none 0 0) b first) 191)) w1.heap.size b (.slice none 0 0) (.slice none 0 0) [] [] first) :=
      hidE ⟨block_new _ _, rfl, rfl, World.ownsRow_nil _ _ _ _, World.ownsRow_nil _ _ _ _, fun _ h => by cases h⟩
    have HR0 : Hid (TrRel (w1.alloc (.cells (wkA (.slice none 0 0) (.slice none 0 0) b first) 191)) w1.heap.size b first 0 (w1.alloc (.cells (wkA (.slice none 0 0) (.slice none 0 0) b first) 191))) := hidE ⟨_, _, H0.out, Touch.refl _ _ _ _⟩
    rw [HWK.out] at HR0
    have HS1 := hidE hs1
    have HB1 := hidE B1
    have HB0 := hidE B0
    clear hk B1 B0 H0 hs1
    go_wp2_with fail
    go_loopw [34] (fun t34 wr => ∃ k : Nat, t34 = .int .i64 k ∧ k ≤ b.n ∧ TrRel (w1.alloc (.cells #[.slice none 0 0, .slice none 0 0, .slice (some ⟨S, o, none⟩) b.n b.cn, .slice (some ⟨S2, o2, none⟩) b.n b.cm, .int .u32 b.next, .int .u32 b.to, .int .i64 b.fin, b.fr, b.tb, .int .i64 first] 191)) w1.heap.size b first k wr) (fun t34 _ => (b.n - intOf t34).toNat)
    case atStart => exact ⟨0, rfl, by omega, HR0.out⟩
    case round =>
      obtain ⟨k, rfl, hkm, hR⟩ := hrel
      obtain ⟨bv, rv, hw, ht⟩ := hR
      have HW := hidE hw
      have HT := hidE ht
      have hsw : Same w wr := same_then (HS1.out.alloc _) (HT.out.keeps) (fun j hj => by
        rcases hj with hj | hj | hj
        · have := HS1.out.size; omega
        · cases hj
        · cases hj)
      have B0 := HT.out.get (block_old _ HB0.out) (by omega) (by simp [Value.ownBlock]) (by simp [Value.ownBlock])
      have c0r := cell_of B0
      have HSW := hidE hsw
      have hl6 := (HBC.out k).1
      have hl7 := (HBC.out k).2
      have HL7 := hidE hl7
      have hl8 : (bodyC b k).2.length ≤ 32 := by omega
      clear hw ht hsw B0 HR0 c0 hl7
      by_cases hlt2 : k < b.n
      · obtain ⟨hok, d0, d1, d2, d3⟩ := HI.out k (by omega)
        obtain ⟨y0, y1, dy⟩ := HY.out k (by omega)
        have e0 := cellK (F := fun _ => False) HSW.out id d0
        have e1 := cellK (F := fun _ => False) HSW.out id d1
        have e2 := cellK (F := fun _ => False) HSW.out id d2
        have e3 := cellK (F := fun _ => False) HSW.out id d3
        have ey := cellK (F := fun _ => False) HSW.out id dy
        have HO := hidE hok
        have qa : (0 : Int) ≤ k := by omega
        have qb : (k : Int) < b.n := by omega
        have qc : (k : Int) < (b.n : Int) := by omega
        have HMY := hidE (HG.out.may k (by omega))
        clear d0 d1 d2 d3 dy hok
        go_wp2_with fail
        go_still_tail 14, (by kernel_rfl)
        change wpList _ _ _ _ _ wr.drew
        go_wp2_with fail
        refine (lay_any _ w1.heap.size _ _ bv rv (bodyC b k).1 (bodyC b k).2 (HW.out.same ((Keeps.refl _ _).drew)) (b.X k) HO.out HMY.out (b.Y k) k (by omega) (by omega)).mono ?_
        rintro e w2 ⟨rfl, bv2, rv2, hw2, ht2⟩
        have HN : Hid (TrRel (w1.alloc (.cells #[.slice none 0 0, .slice none 0 0, .slice (some ⟨S, o, none⟩) b.n b.cn, .slice (some ⟨S2, o2, none⟩) b.n b.cm, .int .u32 b.next, .int .u32 b.to, .int .i64 b.fin, b.fr, b.tb, .int .i64 first] 191)) w1.heap.size b first (k + 1) w2) := hidE ⟨bv2, rv2, hw2, HT.out.trans ((Touch.of_same (Keeps.refl _ _).drew _ _ _).trans ht2)⟩
        clear hw2 ht2
        go_wp2
        go_roundw
        case rel => exact ⟨k + 1, by go_num, by omega, HN.out⟩
        case measure => simp [intOf]; omega
      · obtain rfl : k = b.n := by omega
        go_wp2_with fail
        refine (HE.out _ w1.heap.size bv rv (bodyC b b.n) HSW.out HW.out (by omega) (by omega)).mono ?_
        rintro e w2 ⟨rfl, bv2, rv2, nx2, hw2, ht2⟩
        obtain ⟨ab, cb, rfl⟩ := owns_slice hw2.rb
        obtain ⟨ar, cr, rfl⟩ := owns_slice hw2.rr
        have B1 := HT.out.get (block_old _ HB1.out) (by omega) (by simp [Value.ownBlock]) (by simp [Value.ownBlock])
        have B2 := ht2.get B1 (by omega) (fun e => by
          rcases HT.out.fb _ e with h | h
          · cases h
          · simp at h; omega) (fun e => by
          rcases HT.out.fr _ e with h | h
          · cases h
          · simp at h; omega)
        have cW := cell_of hw2.blk
        have x0 : w2.cell? ⟨w1.heap.size, 0, none⟩ = some (.slice ab (endC b (bodyC b b.n) first).1.length cb) := by rw [cW]; rfl
        have x1 : w2.cell? ⟨w1.heap.size, 1, none⟩ = some (.slice ar (endC b (bodyC b b.n) first).2.length cr) := by rw [cW]; rfl
        have c1 := cell_of B2
        have f1 := frozen_of B2
        have HB2 := hidE B2
        have HW2 := hidE hw2
        have hsw2 : Same w w2 := same_then (HS1.out.alloc _) (HT.out.trans ht2).keeps (fun j hj => by
          rcases hj with hj | hj | hj
          · have := HS1.out.size; omega
          · cases hj
          · cases hj)
        have HSW2 := hidE hsw2
        clear B1 B2 cW hw2 ht2 hsw2 c0r hl6 hl8
        go_wp2
        refine bodyPost_ret (results_ct rfl rfl (block_set (block_set HB2.out 0 _) 1 _) Tryz.underlying60 rfl (by kernel_rfl)) rfl ⟨_, _, rfl, ?_, ?_, Keeps.setCell (F := fun _ => False) (Keeps.setCell (F := fun _ => False) HSW2.out (fun h => by simp at h; omega) _) (fun h => by simp at h; omega) _⟩
        · rw [HC.out]
          refine owns_apart (owns_mono HW2.out.rb (by omega)) (Keeps.setCell (F := fun k => k = w.heap.size + 1) (Keeps.setCell (F := fun k => k = w.heap.size + 1) (Keeps.refl _ _) (p := ⟨w.heap.size + 1, 0, none⟩) (fun _ => rfl) _) (p := ⟨w.heap.size + 1, 1, none⟩) (fun _ => rfl) _) (fun g hg e => ?_)
          have := (World.ownsRow.lt HW2.out.rb g hg.symm).1
          omega
        · rw [HC.out]
          refine owns_apart (owns_mono HW2.out.rr (by omega)) (Keeps.setCell (F := fun k => k = w.heap.size + 1) (Keeps.setCell (F := fun k => k = w.heap.size + 1) (Keeps.refl _ _) (p := ⟨w.heap.size + 1, 0, none⟩) (fun _ => rfl) _) (p := ⟨w.heap.size + 1, 1, none⟩) (fun _ => rfl) _) (fun g hg e => ?_)
          have := (World.ownsRow.lt HW2.out.rr g hg.symm).1
          omega
  · have hq1 : (b.fin != 1) = true := by simp [hf1]
    have HC : Hid (trC b first = endC b (bodyC b (b.n - 1)) first) := hidE (by simp [trC, hf1])
    generalize trC b first = TC at *
    rw [HA.out]
    clear hf1
    go_enter Tryz.func73, Tryz.ntmps73
    go_wp2_with fail
    rw [← HA.out]
    refine (HM.out _ (((Keeps.refl _ _).alloc _).alloc _)).mono ?_
    rintro e w1 ⟨rfl, hk⟩
    have B1 : w1.heap[w.heap.size + 1]? = some (.cells #[.slice none 0 0, .slice none 0 0] 60 (0, 0)) := hk.get (block_at _ (by simp)) id
    have B0 : w1.heap[w.heap.size]? = some (.cells (bkA b) 36 (0, 0)) := hk.get (block_old _ (block_new _ _)) id
    rw [HA.out] at B0
    have c0 := cell_of B0
    have hlt := lt_of_block B1
    have hlt0 := lt_of_block B0
    have hs1 : Same w w1 := (((Keeps.refl _ _).alloc _).alloc _).trans hk
    have H0 : Hid (WkSt (w1.alloc (.cells (wkA (.slice none 0 0) (.slice none 0 0) b first) 191)) w1.heap.size b (.slice none 0 0) (.slice none 0 0) [] [] first) :=
      hidE ⟨block_new _ _, rfl, rfl, World.ownsRow_nil _ _ _ _, World.ownsRow_nil _ _ _ _, fun _ h => by cases h⟩
    have HR0 : Hid (TrRel (w1.alloc (.cells (wkA (.slice none 0 0) (.slice none 0 0) b first) 191)) w1.heap.size b first 0 (w1.alloc (.cells (wkA (.slice none 0 0) (.slice none 0 0) b first) 191))) := hidE ⟨_, _, H0.out, Touch.refl _ _ _ _⟩
    rw [HWK.out] at HR0
    have HS1 := hidE hs1
    have HB1 := hidE B1
    have HB0 := hidE B0
    clear hk B1 B0 H0 hs1
    go_wp2_with fail
    go_loopw [34] (fun t34 wr => ∃ k : Nat, t34 = .int .i64 k ∧ k ≤ (b.n - 1) ∧ TrRel (w1.alloc (.cells #[.slice none 0 0, .slice none 0 0, .slice (some ⟨S, o, none⟩) b.n b.cn, .slice (some ⟨S2, o2, none⟩) b.n b.cm, .int .u32 b.next, .int .u32 b.to, .int .i64 b.fin, b.fr, b.tb, .int .i64 first] 191)) w1.heap.size b first k wr) (fun t34 _ => ((b.n - 1) - intOf t34).toNat)
    case atStart => exact ⟨0, rfl, by omega, HR0.out⟩
    case round =>
      obtain ⟨k, rfl, hkm, hR⟩ := hrel
      obtain ⟨bv, rv, hw, ht⟩ := hR
      have HW := hidE hw
      have HT := hidE ht
      have hsw : Same w wr := same_then (HS1.out.alloc _) (HT.out.keeps) (fun j hj => by
        rcases hj with hj | hj | hj
        · have := HS1.out.size; omega
        · cases hj
        · cases hj)
      have B0 := HT.out.get (block_old _ HB0.out) (by omega) (by simp [Value.ownBlock]) (by simp [Value.ownBlock])
      have c0r := cell_of B0
      have HSW := hidE hsw
      have hl6 := (HBC.out k).1
      have hl7 := (HBC.out k).2
      have HL7 := hidE hl7
      have hl8 : (bodyC b k).2.length ≤ 32 := by omega
      clear hw ht hsw B0 HR0 c0 hl7
      by_cases hlt2 : k < (b.n - 1)
      · obtain ⟨hok, d0, d1, d2, d3⟩ := HI.out k (by omega)
        obtain ⟨y0, y1, dy⟩ := HY.out k (by omega)
        have e0 := cellK (F := fun _ => False) HSW.out id d0
        have e1 := cellK (F := fun _ => False) HSW.out id d1
        have e2 := cellK (F := fun _ => False) HSW.out id d2
        have e3 := cellK (F := fun _ => False) HSW.out id d3
        have ey := cellK (F := fun _ => False) HSW.out id dy
        have HO := hidE hok
        have qa : (0 : Int) ≤ k := by omega
        have qb : (k : Int) < b.n := by omega
        have qc : (k : Int) < ((b.n : Int) - 1) := by omega
        have HMY := hidE (HG.out.may k (by omega))
        clear d0 d1 d2 d3 dy hok
        go_wp2_with fail
        go_still_tail 14, (by kernel_rfl)
        change wpList _ _ _ _ _ wr.drew
        go_wp2_with fail
        refine (lay_any _ w1.heap.size _ _ bv rv (bodyC b k).1 (bodyC b k).2 (HW.out.same ((Keeps.refl _ _).drew)) (b.X k) HO.out HMY.out (b.Y k) k (by omega) (by omega)).mono ?_
        rintro e w2 ⟨rfl, bv2, rv2, hw2, ht2⟩
        have HN : Hid (TrRel (w1.alloc (.cells #[.slice none 0 0, .slice none 0 0, .slice (some ⟨S, o, none⟩) b.n b.cn, .slice (some ⟨S2, o2, none⟩) b.n b.cm, .int .u32 b.next, .int .u32 b.to, .int .i64 b.fin, b.fr, b.tb, .int .i64 first] 191)) w1.heap.size b first (k + 1) w2) := hidE ⟨bv2, rv2, hw2, HT.out.trans ((Touch.of_same (Keeps.refl _ _).drew _ _ _).trans ht2)⟩
        clear hw2 ht2
        go_wp2
        go_roundw
        case rel => exact ⟨k + 1, by go_num, by omega, HN.out⟩
        case measure => simp [intOf]; omega
      · obtain rfl : k = (b.n - 1) := by omega
        go_wp2_with fail
        refine (HE.out _ w1.heap.size bv rv (bodyC b (b.n - 1)) HSW.out HW.out (by omega) (by omega)).mono ?_
        rintro e w2 ⟨rfl, bv2, rv2, nx2, hw2, ht2⟩
        obtain ⟨ab, cb, rfl⟩ := owns_slice hw2.rb
        obtain ⟨ar, cr, rfl⟩ := owns_slice hw2.rr
        have B1 := HT.out.get (block_old _ HB1.out) (by omega) (by simp [Value.ownBlock]) (by simp [Value.ownBlock])
        have B2 := ht2.get B1 (by omega) (fun e => by
          rcases HT.out.fb _ e with h | h
          · cases h
          · simp at h; omega) (fun e => by
          rcases HT.out.fr _ e with h | h
          · cases h
          · simp at h; omega)
        have cW := cell_of hw2.blk
        have x0 : w2.cell? ⟨w1.heap.size, 0, none⟩ = some (.slice ab (endC b (bodyC b (b.n - 1)) first).1.length cb) := by rw [cW]; rfl
        have x1 : w2.cell? ⟨w1.heap.size, 1, none⟩ = some (.slice ar (endC b (bodyC b (b.n - 1)) first).2.length cr) := by rw [cW]; rfl
        have c1 := cell_of B2
        have f1 := frozen_of B2
        have HB2 := hidE B2
        have HW2 := hidE hw2
        have hsw2 : Same w w2 := same_then (HS1.out.alloc _) (HT.out.trans ht2).keeps (fun j hj => by
          rcases hj with hj | hj | hj
          · have := HS1.out.size; omega
          · cases hj
          · cases hj)
        have HSW2 := hidE hsw2
        clear B1 B2 cW hw2 ht2 hsw2 c0r hl6 hl8
        go_wp2
        refine bodyPost_ret (results_ct rfl rfl (block_set (block_set HB2.out 0 _) 1 _) Tryz.underlying60 rfl (by kernel_rfl)) rfl ⟨_, _, rfl, ?_, ?_, Keeps.setCell (F := fun _ => False) (Keeps.setCell (F := fun _ => False) HSW2.out (fun h => by simp at h; omega) _) (fun h => by simp at h; omega) _⟩
        · rw [HC.out]
          refine owns_apart (owns_mono HW2.out.rb (by omega)) (Keeps.setCell (F := fun k => k = w.heap.size + 1) (Keeps.setCell (F := fun k => k = w.heap.size + 1) (Keeps.refl _ _) (p := ⟨w.heap.size + 1, 0, none⟩) (fun _ => rfl) _) (p := ⟨w.heap.size + 1, 1, none⟩) (fun _ => rfl) _) (fun g hg e => ?_)
          have := (World.ownsRow.lt HW2.out.rb g hg.symm).1
          omega
        · rw [HC.out]
          refine owns_apart (owns_mono HW2.out.rr (by omega)) (Keeps.setCell (F := fun k => k = w.heap.size + 1) (Keeps.setCell (F := fun k => k = w.heap.size + 1) (Keeps.refl _ _) (p := ⟨w.heap.size + 1, 0, none⟩) (fun _ => rfl) _) (p := ⟨w.heap.size + 1, 1, none⟩) (fun _ => rfl) _) (fun g hg e => ?_)
          have := (World.ownsRow.lt HW2.out.rr g hg.symm).1
          omega
end Go.Proofs.YtomphgpplbekiaaGreat
