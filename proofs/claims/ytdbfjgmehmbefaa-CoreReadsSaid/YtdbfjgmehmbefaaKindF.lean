/- Package kind: the registers of letters. -/
import Derived.Test.YtdbfjgmehmbefaaKindE
import Derived.Test.YtdbfjgmehmbefaaRa
import Derived.Test.YtdbfjgmehmbefaaState
import Derived.Test.YtdbfjgmehmbefaaIsaC
namespace Go.Proofs.Ytdbfjgmehmbefaa
open Go.RowKit
attribute [local go_sem ↓] x_ldS x_stS x_ldI x_stI x_ldA x_stA x_ldF x_stF
attribute [local go_sem] ne_s1 en_s1 ne_s2 en_s2 ne_s3 en_s3 ne_s4 en_s4 ne_s5 en_s5 ne_s6 en_s6 ne_s7 en_s7 ne_s8 en_s8 ne_s9 en_s9 ne_s10 en_s10 ne_s11 en_s11 lt_s2 lt_s3 lt_s4 lt_s5 lt_s6 lt_s7 lt_s8 lt_s9 lt_s10 lt_s11 rowAt_at rowAt_old rowAt_drew rowAt_drewN setRow_drew setRow_at setRow_old setCell_row setRow_setRow rowAt_setRow_eq rowAt_setRow_ne cell_setRow_eq cell_setRow_ne frozen_setRow_eq frozen_setRow_ne ones_lit oc_int oc_bool oc_str oc_ptr oc_sl oc_map oc_fn oc_nf oc_ni oc_if ld_S st_S ld_I st_I ld_A st_A ld_F st_F sa_size sa_one ac_size fl_size ac_one fl_one fl_c fl_a fg_c fg_a sa_pc sa_ps sg_pc sg_ps sa_r6 sa_r7 sg_r6 sg_r7 sa_r sg_r ss_pc ss_ps ss_r6 ss_r7 ss_r st0_eq

/-- The bits of the first k letters. -/
def accL (ls ks : ByteArray) (reg : Int → Int) : Nat → Int
  | 0 => 0
  | k + 1 => if hasB ks ((ls.data.toList.getD k 0).toNat : Int) then bits .or .u8 (accL ls ks reg k) (2 ^ (reg ((ls.data.toList.getD k 0).toNat : Int)).toNat % 256) else accL ls ks reg k
def setL (i : In) (ls : ByteArray) (reg : Int → Int) : Int := if mayB i true then accL ls (kindM i.op).2 reg 3 else 0
theorem accL_bd (ls ks : ByteArray) (reg : Int → Int) : ∀ k, 0 ≤ accL ls ks reg k ∧ accL ls ks reg k < 256
  | 0 => by simp [accL]
  | k + 1 => by
    have := accL_bd ls ks reg k
    simp only [accL]
    split
    · refine ⟨bits_lo_u8 _ _ _, ?_⟩
      have := bits_hi_u8 .or (accL ls ks reg k) (2 ^ (reg ((ls.data.toList.getD k 0).toNat : Int)).toNat % 256)
      omega
    · exact this
/-- What a letter's register is told by. -/
def RegOk (w : World) (tb K : Nat) (cap : Array Value) (reg : Int → Int) : Prop := ∀ c u, Keeps (fun k => k = tb) w u → Calls Try.prog K (#[.int .u8 c] ++ cap) u fun e u' => e = .returned (.int .u8 (reg c)) ∧ u' = u
theorem TabOk.far {F : Nat → Prop} {w w' : World} {tb : Nat} (h : TabOk w tb) (hk : Keeps F w w') (hF : ∀ b, ¬ F b) : TabOk w' tb := by
  rcases h with h | h
  · exact .inl (hk.get h (hF _))
  · exact .inr (h.keeps hk hF)
theorem getD_at (ls : ByteArray) (k : Nat) (h : k < ls.size) : (ls.data.toList.getD k 0) = ls[k] := by
  rw [List.getD_eq_getElem?_getD, List.getElem?_eq_getElem (by simpa using h)]; rfl
set_option maxHeartbeats 2000000 in
set_option maxRecDepth 100000 in
theorem set_no (w : World) (tb : Nat) (op a b imm : Int) (ls : ByteArray) (fv : Value) (hi : (⟨op, a, b, imm⟩ : In).Ok) (hm : mayB ⟨op, a, b, imm⟩ true = false) :
    Calls Try.prog 51 #[.pointer (some ⟨tb, 0, none⟩), .agg #[.int .u8 op, .int .u8 a, .int .u8 b, .int .i32 imm], .string ls, fv] w fun e w' => e = .returned (.int .u8 0) ∧ Same w w' := by
  have HM : Hid (∀ w, _) := hidE (fun w => may_any _ true hi w)
  rw [hm] at HM
  simp only [inA] at HM
  clear hm hi
  go_enter Try.func51, Try.ntmps51
  go_wp2_with fail
  refine (HM.out _).mono ?_
  rintro e w1 ⟨rfl, hk⟩
  (obtain ⟨hc1, hf1, hr1, -, -, -⟩ := same_facts hk); have lt_w1_0 : w.heap.size < w1.heap.size := (by have hh := (hk).size; (try simp at hh); omega); have lt1_w1_0 : w.heap.size < w1.heap.size + 1 := (by omega); have lt2_w1_0 : w.heap.size < w1.heap.size + 1 + 1 := (by omega); have rw_w1_0 := (hr1 (w.heap.size) (by (try simp); (try omega))).trans (show rowAt _ (w.heap.size) = _ by go_simp; rfl); have HK1 := hidE hk; clear hk
  go_wp2
  go_ret
  refine ⟨rfl, ?_⟩
  (repeat (first | with_reducible exact Keeps.refl _ _ | (with_reducible refine Keeps.drew ?_) | (with_reducible refine Keeps.alloc ?_ _) | (with_reducible refine Keeps.setRow ?_ (fun h => absurd h (by omega)) _) | (with_reducible refine Keeps.setCell ?_ (fun h => absurd h (by simp only []; omega)) _) | (with_reducible refine Keeps.trans ?_ HK8.out) | (with_reducible refine same_then ?_ HK8.out (fun k hk => by omega)) | (with_reducible refine Keeps.trans ?_ HK7.out) | (with_reducible refine same_then ?_ HK7.out (fun k hk => by omega)) | (with_reducible refine Keeps.trans ?_ HK6.out) | (with_reducible refine same_then ?_ HK6.out (fun k hk => by omega)) | (with_reducible refine Keeps.trans ?_ HK5.out) | (with_reducible refine same_then ?_ HK5.out (fun k hk => by omega)) | (with_reducible refine Keeps.trans ?_ HK4.out) | (with_reducible refine same_then ?_ HK4.out (fun k hk => by omega)) | (with_reducible refine Keeps.trans ?_ HK3.out) | (with_reducible refine same_then ?_ HK3.out (fun k hk => by omega)) | (with_reducible refine Keeps.trans ?_ HK2.out) | (with_reducible refine same_then ?_ HK2.out (fun k hk => by omega)) | (with_reducible refine Keeps.trans ?_ HK1.out) | (with_reducible refine same_then ?_ HK1.out (fun k hk => by omega))))
set_option maxHeartbeats 2000000 in
set_option maxRecDepth 100000 in
theorem set_yes (w : World) (tb : Nat) (_htb : tb < w.heap.size) (op a b imm : Int) (ls : ByteArray) (K : Nat) (cap : Array Value) (reg : Int → Int) (hls : ls.size = 3) (hreg : ∀ c, 0 ≤ reg c ∧ reg c < 8) (HC : RegOk w tb K cap reg)
    (HF : ∀ args u, (callFunc K args).run Try.prog u = .ok (.enter K args) u) (hi : (⟨op, a, b, imm⟩ : In).Ok) (hm : mayB ⟨op, a, b, imm⟩ true = true) (ht : TabOk w tb) :
    Calls Try.prog 51 #[.pointer (some ⟨tb, 0, none⟩), .agg #[.int .u8 op, .int .u8 a, .int .u8 b, .int .i32 imm], .string ls, .func (.func K) #[] cap] w fun e w' => e = .returned (.int .u8 (accL ls (kindM op).2 reg 3)) ∧ Keeps (fun k => k = tb) w w' ∧ TabHas w' tb := by
  have HM : Hid (∀ w, _) := hidE (fun w => may_any _ true hi w)
  rw [hm] at HM
  simp only [inA] at HM
  have HO := hidE (fun w ht => of_ok w tb op hi.o0 hi.o1 ht)
  have HS := hidE (fun c w => has_any (kindM op).1 (kindM op).2 c (kind_size op hi.o0 hi.o1) w)
  have HT := hidE ht
  have HCC := hidE HC
  have HFF := hidE HF
  have HR := hidE hreg
  clear hm hi ht HC HF hreg
  generalize kindM op = x at *
  obtain ⟨x1, x2⟩ := x
  simp only [knV] at HO HS
  go_enter Try.func51, Try.ntmps51
  go_wp2_with fail
  refine (HM.out _).mono ?_
  rintro e w1 ⟨rfl, hk⟩
  (obtain ⟨hc1, hf1, hr1, -, -, -⟩ := same_facts hk); have lt_w1_0 : w.heap.size < w1.heap.size := (by have hh := (hk).size; (try simp at hh); omega); have lt1_w1_0 : w.heap.size < w1.heap.size + 1 := (by omega); have lt2_w1_0 : w.heap.size < w1.heap.size + 1 + 1 := (by omega); have rw_w1_0 := (hr1 (w.heap.size) (by (try simp); (try omega))).trans (show rowAt _ (w.heap.size) = _ by go_simp; rfl); have HK1 := hidE hk; clear hk
  go_wp2_with fail
  refine (HO.out _ (HT.out.far (((Keeps.refl (fun _ => False) _).alloc _).trans HK1.out) (fun _ => id))).mono ?_
  rintro e w2 ⟨rfl, hk, ht2⟩
  have HK2 := hidE hk
  have HT2 := hidE ht2
  clear hk ht2
  go_wp2_with fail
  have B0 : (w2.alloc (.cells #[.int .i64 x1, .string x2] 107)).heap[w2.heap.size]? = some (.cells #[.int .i64 x1, .string x2] 107 (0, 0)) := block_new _ _
  have KW : Keeps (fun k => k = tb) w (w2.alloc (.cells #[.int .i64 x1, .string x2] 107)) := ((((Keeps.refl _ _).alloc _).trans (HK1.out.mono fun _ _ h => h.elim)).trans HK2.out).alloc _
  have TW : TabHas (w2.alloc (.cells #[.int .i64 x1, .string x2] 107)) tb := HT2.out.keeps ((Keeps.refl (fun _ => False) _).alloc _) (fun _ => id)
  obtain ⟨W, hW⟩ : ∃ W, W = w2.alloc (.cells #[.int .i64 x1, .string x2] 107) := ⟨_, rfl⟩
  rw [← hW] at B0 KW TW ⊢
  have lb : w2.heap.size < W.heap.size := lt_of_block B0
  have HB := hidE B0
  have HKW := hidE KW
  have HTW := hidE TW
  clear hW B0 KW TW HT2 hc1 hf1 hr1 rw_w1_0 lt_w1_0 lt1_w1_0 lt2_w1_0 HK1 HK2 HM HO HT
  generalize w2.heap.size = g at *
  go_loopw [9, 21] (fun t9 t21 wr => ∃ k : Nat, k ≤ 3 ∧ t21 = .int .i64 k ∧ t9 = .int .u8 (accL ls x2 reg k) ∧ Hid (Same W wr)) (fun _ t21 _ => 3 - (intOf t21).toNat)
  case atStart => exact ⟨0, by omega, rfl, rfl, hidE (Keeps.refl _ _)⟩
  case round =>
    obtain ⟨k, hk, rfl, rfl, HKr⟩ := hrel
    have c0 := cell_of (HKr.out.get HB.out id)
    have f0 := frozen_of (HKr.out.get HB.out id)
    have lg : g < wr.heap.size := lt_of_block (HKr.out.get HB.out id)
    by_cases hlt : k < 3
    · have hlt2 : k < ls.size := by omega
      have hge := getD_at ls k hlt2
      have hr := HR.out (ls[k].toNat : Int)
      have HAC : Hid (accL ls x2 reg (k + 1) = if hasB x2 (ls[k].toNat : Int) then bits .or .u8 (accL ls x2 reg k) (2 ^ (reg (ls[k].toNat : Int)).toNat % 256) else accL ls x2 reg k) := hidE (by simp only [accL, hge])
      have hbd := accL_bd ls x2 reg k
      clear hge
      have HSK := hidE (HS.out (ls[k].toNat : Int))
      cases hB : hasB x2 (ls[k].toNat : Int)
      all_goals
        rw [hB] at HSK HAC
        clear hB
        go_wp2_with fail
        refine wp_region_ra [0, 1, 2, 3, 4] [] 0 (Same _) (by kernel_rfl) (by kernel_rfl) (fun u u' h k => Keeps.trans h k) (Keeps.refl _ _).drew ?_
        simp only [opsOf, List.filterMap_cons, List.filterMap_nil, List.getElem?_cons_zero, List.getElem?_cons_succ]
        repeat (refine seqV_run (v := ?_) rfl (fun u hu => ?_) ?_; rotate_left; (focus (obtain ⟨hc, hf, hr, hl, hn, hm⟩ := same_facts hu; clear hu; go_simp; first | done | with_reducible rfl)); (try simp only [Act.put, List.setIfInBounds_toArray, List.set_cons_zero, List.set_cons_succ]))
      · refine seqV_call (f := 50) (args := #[.agg #[.int .i64 x1, .string x2], .int .u8 (ls[k].toNat : Int)]) (v := .bool false) rfl (fun u hu => ?_) (fun u _ => HSK.out u) ?_
        · (obtain ⟨hc, hf, hr, hl, hn, hm⟩ := same_facts hu; clear hu; go_simp)
        simp only [Act.put, List.setIfInBounds_toArray, List.set_cons_zero, List.set_cons_succ]
        refine seqV_nil ?_
        refine tailR_zero fun u1 hu _ => ?_
        have HK5 := hidE hu
        clear hu
        go_wp2
        go_roundw
        case rel => exact ⟨k + 1, by omega, by go_num, by rw [HAC.out]; rfl, hidE (HKr.out.trans HK5.out)⟩
        case measure => simp [intOf]; omega
      · refine seqV_call (f := 50) (args := #[.agg #[.int .i64 x1, .string x2], .int .u8 (ls[k].toNat : Int)]) (v := .bool true) rfl (fun u hu => ?_) (fun u _ => HSK.out u) ?_
        · (obtain ⟨hc, hf, hr, hl, hn, hm⟩ := same_facts hu; clear hu; go_simp)
        simp only [Act.put, List.setIfInBounds_toArray, List.set_cons_zero, List.set_cons_succ]
        refine seqV_nil ?_
        refine tailR_zero fun u1 hu _ => ?_
        have HK5 := hidE hu
        clear hu
        have hcf := HFF.out
        go_wp2_with fail
        clear hcf
        refine (HCC.out _ _ (HKW.out.trans ((HKr.out.trans HK5.out).mono fun _ _ h => h.elim))).mono ?_
        rintro e w5 ⟨rfl, hw5⟩
        subst hw5
        simp only []
        generalize reg (ls[k].toNat : Int) = rg at *
        obtain ⟨hr0, hr1⟩ := hr
        go_wp2
        go_roundw
        case rel => exact ⟨k + 1, by omega, by go_num, by rw [HAC.out]; rfl, hidE (HKr.out.trans HK5.out)⟩
        case measure => simp [intOf]; omega
    · obtain rfl : k = 3 := by omega
      go_wp2
      go_ret
      exact ⟨rfl, HKW.out.trans (HKr.out.mono fun _ _ h => h.elim), HTW.out.keeps HKr.out (fun _ => id)⟩
theorem may_regs_h {i : In} (h : mayB i true = true) : i.a < 8 ∧ i.b < 8 := by
  unfold mayB at h
  simp only [Bool.and_eq_true, decide_eq_true_eq] at h
  obtain ⟨-, -, ha, hb, -⟩ := fm_facts i.op true
  omega
def regR (a b c : Int) : Int := if c = 97 then a else if c = 98 then b else 7
theorem regR_bd (a b c : Int) (a0 : 0 ≤ a) (a1 : a < 8) (b0 : 0 ≤ b) (b1 : b < 8) : 0 ≤ regR a b c ∧ regR a b c < 8 := by
  unfold regR; split
  · omega
  split <;> omega
def abp : ByteArray := ⟨#[97, 98, 112]⟩
theorem regR_call (r : Nat) (a b op imm c : Int) (u : World) (hb : u.heap[r]? = some (.cells #[.int .u8 op, .int .u8 a, .int .u8 b, .int .i32 imm] 27 (0, 0))) :
    Calls Try.prog 53 #[.int .u8 c, .pointer (some ⟨r, 0, none⟩)] u fun e u' => e = .returned (.int .u8 (regR a b c)) ∧ u' = u := by
  have c0 := cell_of hb
  unfold regR
  clear hb
  by_cases h1 : c = 97
  · subst h1
    go_enter Try.func53, Try.ntmps53
    go_wp2
    go_ret
    exact ⟨rfl, rfl⟩
  by_cases h2 : c = 98
  · subst h2
    go_enter Try.func53, Try.ntmps53
    go_wp2
    go_ret
    exact ⟨rfl, rfl⟩
  rw [if_neg h1, if_neg h2]
  have e1 : (c == 97) = false := by simpa using h1
  have e2 : (c == 98) = false := by simpa using h2
  clear h1 h2
  go_enter Try.func53, Try.ntmps53
  go_wp2
  go_ret
  exact ⟨rfl, rfl⟩
set_option maxHeartbeats 2000000 in
set_option maxRecDepth 100000 in
theorem reads_ok (w : World) (tb : Nat) (htb : tb < w.heap.size) (i : In) (hi : i.Ok) (ht : TabOk w tb) :
    Calls Try.prog 24 #[.pointer (some ⟨tb, 0, none⟩), .agg (inA i)] w fun e w' => e = .returned (.int .u8 (setL i abp (regR i.a i.b))) ∧ Keeps (fun k => k = tb) w w' ∧ TabOk w' tb := by
  obtain ⟨op, a, b, imm⟩ := i
  have B0 : (w.alloc (.cells #[.int .u8 op, .int .u8 a, .int .u8 b, .int .i32 imm] 27)).heap[w.heap.size]? = some (.cells #[.int .u8 op, .int .u8 a, .int .u8 b, .int .i32 imm] 27 (0, 0)) := block_new _ _
  have k0 : Same w (w.alloc (.cells #[.int .u8 op, .int .u8 a, .int .u8 b, .int .i32 imm] 27)) := (Keeps.refl _ _).alloc _
  have T0 := ht.far k0 (fun _ => id)
  cases hm : mayB ⟨op, a, b, imm⟩ true
  · have HS := hidE (set_no (w.alloc (.cells #[.int .u8 op, .int .u8 a, .int .u8 b, .int .i32 imm] 27)) tb op a b imm abp (.func (.func 53) #[] #[.pointer (some ⟨w.heap.size, 0, none⟩)]) hi hm)
    have hv : setL ⟨op, a, b, imm⟩ abp (regR a b) = 0 := by simp [setL, hm]
    have HV := hidE hv
    have HT := hidE T0
    have HK := hidE k0
    unfold inA
    simp only [abp] at *
    clear hv T0 k0 B0 ht hm hi
    go_enter Try.func24, Try.ntmps24
    go_wp2_with fail
    refine HS.out.mono ?_
    rintro e w1 ⟨rfl, hk⟩
    have HK1 := hidE hk
    clear hk
    go_wp2
    go_ret
    exact ⟨by rw [HV.out]; rfl, (HK.out.trans HK1.out).mono fun _ _ h => h.elim, HT.out.far HK1.out (fun _ => id)⟩
  · obtain ⟨a1, b1⟩ := may_regs_h hm
    simp only at a1 b1
    have a0 := hi.a0
    have b0 := hi.b0
    simp only at a0 b0
    have HS := hidE (set_yes (w.alloc (.cells #[.int .u8 op, .int .u8 a, .int .u8 b, .int .i32 imm] 27)) tb (by simp; omega) op a b imm abp 53 #[.pointer (some ⟨w.heap.size, 0, none⟩)] (regR a b) (by decide) (fun c => regR_bd a b c a0 a1 b0 b1)
      (fun c u hu => regR_call w.heap.size a b op imm c u (hu.get B0 (by omega))) (fun args u => by simp) hi hm T0)
    have hv : setL ⟨op, a, b, imm⟩ abp (regR a b) = accL abp (kindM op).2 (regR a b) 3 := by simp [setL, hm]
    have HV := hidE hv
    generalize accL abp (kindM op).2 (regR a b) 3 = R at *
    have HK := hidE k0
    unfold inA
    simp only [abp] at *
    clear hv T0 k0 B0 ht hm hi a0 a1 b0 b1
    go_enter Try.func24, Try.ntmps24
    go_wp2_with fail
    refine HS.out.mono ?_
    rintro e w1 ⟨rfl, hk, ht⟩
    have HK1 := hidE hk
    have HT := hidE ht
    clear hk ht
    go_wp2
    go_ret
    exact ⟨by rw [HV.out]; rfl, (HK.out.mono fun _ _ h => h.elim).trans HK1.out, .inr HT.out⟩
def regW (a _b c : Int) : Int := if c = 65 then a else if c = 76 then 6 else 7
theorem regW_bd (a b c : Int) (a0 : 0 ≤ a) (a1 : a < 8) (_ : 0 ≤ b) (_ : b < 8) : 0 ≤ regW a b c ∧ regW a b c < 8 := by
  unfold regW; split
  · omega
  split <;> omega
def ALP : ByteArray := ⟨#[65, 76, 80]⟩
theorem regW_call (r : Nat) (a b op imm c : Int) (u : World) (hb : u.heap[r]? = some (.cells #[.int .u8 op, .int .u8 a, .int .u8 b, .int .i32 imm] 27 (0, 0))) :
    Calls Try.prog 52 #[.int .u8 c, .pointer (some ⟨r, 0, none⟩)] u fun e u' => e = .returned (.int .u8 (regW a b c)) ∧ u' = u := by
  have c0 := cell_of hb
  unfold regW
  clear hb
  by_cases h1 : c = 65
  · subst h1
    go_enter Try.func52, Try.ntmps52
    go_wp2
    go_ret
    exact ⟨rfl, rfl⟩
  by_cases h2 : c = 76
  · subst h2
    go_enter Try.func52, Try.ntmps52
    go_wp2
    go_ret
    exact ⟨rfl, rfl⟩
  rw [if_neg h1, if_neg h2]
  have e1 : (c == 65) = false := by simpa using h1
  have e2 : (c == 76) = false := by simpa using h2
  clear h1 h2
  go_enter Try.func52, Try.ntmps52
  go_wp2
  go_ret
  exact ⟨rfl, rfl⟩
set_option maxHeartbeats 2000000 in
set_option maxRecDepth 100000 in
theorem writes_ok (w : World) (tb : Nat) (htb : tb < w.heap.size) (i : In) (hi : i.Ok) (ht : TabOk w tb) :
    Calls Try.prog 22 #[.pointer (some ⟨tb, 0, none⟩), .agg (inA i)] w fun e w' => e = .returned (.int .u8 (setL i ALP (regW i.a i.b))) ∧ Keeps (fun k => k = tb) w w' ∧ TabOk w' tb := by
  obtain ⟨op, a, b, imm⟩ := i
  have B0 : (w.alloc (.cells #[.int .u8 op, .int .u8 a, .int .u8 b, .int .i32 imm] 27)).heap[w.heap.size]? = some (.cells #[.int .u8 op, .int .u8 a, .int .u8 b, .int .i32 imm] 27 (0, 0)) := block_new _ _
  have k0 : Same w (w.alloc (.cells #[.int .u8 op, .int .u8 a, .int .u8 b, .int .i32 imm] 27)) := (Keeps.refl _ _).alloc _
  have T0 := ht.far k0 (fun _ => id)
  cases hm : mayB ⟨op, a, b, imm⟩ true
  · have HS := hidE (set_no (w.alloc (.cells #[.int .u8 op, .int .u8 a, .int .u8 b, .int .i32 imm] 27)) tb op a b imm ALP (.func (.func 52) #[] #[.pointer (some ⟨w.heap.size, 0, none⟩)]) hi hm)
    have hv : setL ⟨op, a, b, imm⟩ ALP (regW a b) = 0 := by simp [setL, hm]
    have HV := hidE hv
    have HT := hidE T0
    have HK := hidE k0
    unfold inA
    simp only [ALP] at *
    clear hv T0 k0 B0 ht hm hi
    go_enter Try.func22, Try.ntmps22
    go_wp2_with fail
    refine HS.out.mono ?_
    rintro e w1 ⟨rfl, hk⟩
    have HK1 := hidE hk
    clear hk
    go_wp2
    go_ret
    exact ⟨by rw [HV.out]; rfl, (HK.out.trans HK1.out).mono fun _ _ h => h.elim, HT.out.far HK1.out (fun _ => id)⟩
  · obtain ⟨a1, b1⟩ := may_regs_h hm
    simp only at a1 b1
    have a0 := hi.a0
    have b0 := hi.b0
    simp only at a0 b0
    have HS := hidE (set_yes (w.alloc (.cells #[.int .u8 op, .int .u8 a, .int .u8 b, .int .i32 imm] 27)) tb (by simp; omega) op a b imm ALP 52 #[.pointer (some ⟨w.heap.size, 0, none⟩)] (regW a b) (by decide) (fun c => regW_bd a b c a0 a1 b0 b1)
      (fun c u hu => regW_call w.heap.size a b op imm c u (hu.get B0 (by omega))) (fun args u => by simp) hi hm T0)
    have hv : setL ⟨op, a, b, imm⟩ ALP (regW a b) = accL ALP (kindM op).2 (regW a b) 3 := by simp [setL, hm]
    have HV := hidE hv
    generalize accL ALP (kindM op).2 (regW a b) 3 = R at *
    have HK := hidE k0
    unfold inA
    simp only [ALP] at *
    clear hv T0 k0 B0 ht hm hi a0 a1 b0 b1
    go_enter Try.func22, Try.ntmps22
    go_wp2_with fail
    refine HS.out.mono ?_
    rintro e w1 ⟨rfl, hk, ht⟩
    have HK1 := hidE hk
    have HT := hidE ht
    clear hk ht
    go_wp2
    go_ret
    exact ⟨by rw [HV.out]; rfl, (HK.out.mono fun _ _ h => h.elim).trans HK1.out, .inr HT.out⟩
end Go.Proofs.Ytdbfjgmehmbefaa
