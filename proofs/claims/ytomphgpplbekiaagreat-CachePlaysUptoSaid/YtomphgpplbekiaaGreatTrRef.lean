/- The walk of the reference's Translate. -/
import Derived.Test.YtomphgpplbekiaaGreatWith
import Derived.Test.YtomphgpplbekiaaGreatTrans
import Derived.Test.YtomphgpplbekiaaGreatEv
namespace Go.Proofs.YtomphgpplbekiaaGreat
open Go.RowKit

theorem ending_jumps : ∀ n : Fin 256, (64 ≤ n.val ∧ n.val ≤ 72) → ending3 (n.val : Int) = true := by decide +kernel
theorem ending_jump (op : Int) (h0 : 64 ≤ op) (h1 : op ≤ 72) : ending3 op = true := by
  obtain ⟨n, rfl⟩ := Int.eq_ofNat_of_zero_le (show 0 ≤ op by omega)
  exact ending_jumps ⟨n, by omega⟩ ⟨by simp; omega, by simp; omega⟩
inductive EndWay (b : Bk) : Prop
  | next (h : b.fin = 1) (e : ending3 (lastX b).op = false)
  | call (h : b.fin = 2) (o : (lastX b).op = 72)
  | jump (h : b.fin = 2) (o : (lastX b).op = 64)
  | branch (h : b.fin = 3) (o0 : 65 ≤ (lastX b).op) (o1 : (lastX b).op ≤ 71)
  | ask (h : b.fin = 4)
theorem end_way {b : Bk} (h : Good b) : EndWay b ∧ (b.fin ≠ 1 → ending3 (lastX b).op = true) := by
  rcases fits_ways h.fit with ⟨e, he⟩ | ⟨e, ho⟩ | ⟨e, h0, h1⟩ | ⟨e, he, -⟩
  · exact ⟨.next e he, fun hh => absurd e hh⟩
  · rcases ho with ho | ho
    · exact ⟨.jump e ho, fun _ => ending_jump _ (by omega) (by omega)⟩
    · exact ⟨.call e ho, fun _ => ending_jump _ (by omega) (by omega)⟩
  · exact ⟨.branch e h0 h1, fun _ => ending_jump _ (by omega) (by omega)⟩
  · exact ⟨.ask e, fun _ => he⟩
structure TrR (w : World) (b : Bk) (bv rv : Value) (c : Cd) (wr : World) : Prop where
  b0 : wr.heap[w.heap.size]? = some (.cells (bkA b) 36 (0, 0))
  b1 : wr.heap[w.heap.size + 1]? = some (.cells #[.slice none 0 0, .slice none 0 0] 60 (0, 0))
  b2 : wr.heap[w.heap.size + 2]? = some (.cells #[bv, rv] 60 (0, 0))
  cd : CdSt wr (w.heap.size + 3) bv rv c
  same : Same w wr
theorem TrR.keep {w wr w2 : World} {b : Bk} {bv rv : Value} {c : Cd} (h : TrR w b bv rv c wr) (hk : Same wr w2) : TrR w b bv rv c w2 :=
  ⟨hk.get h.b0 id, hk.get h.b1 id, hk.get h.b2 id, h.cd.same hk, h.same.trans hk⟩
/-- Behind a call that made more of the code, and its store. -/
theorem TrR.step {w wr w2 : World} {b : Bk} {bv rv bv' rv' : Value} {c c' : Cd} (h : TrR w b bv rv c wr) (hc : CdSt w2 (w.heap.size + 3) bv' rv' c') (hm : Moved wr w2 bv rv bv' rv') :
    TrR w b bv' rv' c' ((w2.setCell ⟨w.heap.size + 2, 0, none⟩ bv').setCell ⟨w.heap.size + 2, 1, none⟩ rv') := by
  have hl := h.cd.lt
  have hK : Keeps (fun k => k = w.heap.size + 2) w2 ((w2.setCell ⟨w.heap.size + 2, 0, none⟩ bv').setCell ⟨w.heap.size + 2, 1, none⟩ rv') := (keeps_set _ _ _ _).trans (keeps_set _ _ _ _)
  have hn : ∀ j, j < w.heap.size + 3 → ¬ (some j = bv.ownBlock ∨ some j = rv.ownBlock) := fun j hj e => by have := (hl j e).1; omega
  refine ⟨hK.get (hm.keeps.get h.b0 (hn _ (by omega))) (by omega), hK.get (hm.keeps.get h.b1 (hn _ (by omega))) (by omega), ?_, hc.far hK (fun k e e2 => by have := (hc.lt k e2).1; omega), ?_⟩
  · exact block_set (block_set (hm.keeps.get h.b2 (hn _ (by omega))) 0 bv') 1 rv'
  · exact same_then (same_then h.same hm.keeps (fun k e => by have := (hl k e).1; omega)) hK (fun k e => by omega)
/-- Behind the last call, and the store of the result. -/
theorem TrR.fin {w wr w2 : World} {b : Bk} {bv rv bv' rv' : Value} {c c' : Cd} (h : TrR w b bv rv c wr) (hc : CdSt w2 (w.heap.size + 3) bv' rv' c') (hm : Moved wr w2 bv rv bv' rv') :
    w2.heap[w.heap.size + 1]? = some (.cells #[.slice none 0 0, .slice none 0 0] 60 (0, 0)) ∧
    ((w2.setCell ⟨w.heap.size + 1, 0, none⟩ bv').setCell ⟨w.heap.size + 1, 1, none⟩ rv').heap[w.heap.size + 1]? = some (.cells #[bv', rv'] 60 (0, 0)) ∧
    RowB ((w2.setCell ⟨w.heap.size + 1, 0, none⟩ bv').setCell ⟨w.heap.size + 1, 1, none⟩ rv') w.heap.size bv' c'.1 ∧ RowR ((w2.setCell ⟨w.heap.size + 1, 0, none⟩ bv').setCell ⟨w.heap.size + 1, 1, none⟩ rv') w.heap.size rv' c'.2 ∧ Same w ((w2.setCell ⟨w.heap.size + 1, 0, none⟩ bv').setCell ⟨w.heap.size + 1, 1, none⟩ rv') := by
  have hl := h.cd.lt
  have hK : Keeps (fun k => k = w.heap.size + 1) w2 ((w2.setCell ⟨w.heap.size + 1, 0, none⟩ bv').setCell ⟨w.heap.size + 1, 1, none⟩ rv') := (keeps_set _ _ _ _).trans (keeps_set _ _ _ _)
  have hn : ∀ j, j < w.heap.size + 3 → ¬ (some j = bv.ownBlock ∨ some j = rv.ownBlock) := fun j hj e => by have := (hl j e).1; omega
  have hb1 := hm.keeps.get h.b1 (hn _ (by omega))
  have hc2 := hc.far hK (fun k e e2 => by have := (hc.lt k e2).1; omega)
  exact ⟨hb1, block_set (block_set hb1 0 bv') 1 rv', owns_mono hc2.rb (by omega), owns_mono hc2.rr (by omega), same_then (same_then h.same hm.keeps (fun k e => by have := (hl k e).1; omega)) hK (fun k e => by omega)⟩
def RefTr (w : World) (b : Bk) (first : Int) (e : Ending) (w' : World) : Prop :=
  ∃ bv rv, e = .returned (.agg #[bv, rv]) ∧ RowB w' w.heap.size bv (trC b first).1 ∧ RowR w' w.heap.size rv (trC b first).2 ∧ Same w w'
set_option maxHeartbeats 1600000 in
set_option maxRecDepth 100000 in
theorem refTr_any (b : Bk) (first : Int) (w : World) (hb : b.Ok w) (hG : Good b) (x0 : 0 ≤ first) (x1 : first ≤ 65534) :
    Calls Tryz.prog 76 #[.agg (bkA b), .int .i64 first] w (RefTr w b first) := by
  have HG := hidE hG
  obtain ⟨hway, hlast⟩ := end_way hG
  have HWAY := hidE hway
  have HLAST := hidE hlast
  have HOK := hidE hb
  have n1 := HG.out.n1
  have n2 := HG.out.n2
  have hm := HG.out.m
  have hcn := hb.hcn
  have hcm := hb.hcm
  have hn' := hb.hn
  have hm' := hb.hm
  have hx0 := hb.n0
  have hx1 := hb.n1
  clear hb hG hway hlast
  have HBC := hidE (bodyC_len b)
  unfold RefTr
  rcases HOK.out.ins with hI | ⟨S, o, ha, hS, hI⟩
  · omega
  rcases HOK.out.at_ with hY | ⟨S2, o2, ha2, hS2, hY⟩
  · omega
  rw [hm] at hY
  have HI := hidE hI
  have HY := hidE hY
  clear hI hY
  have hA : bkA b = #[.slice (some ⟨S, o, none⟩) b.n b.cn, .slice (some ⟨S2, o2, none⟩) b.n b.cm, .int .u32 b.next, .int .u32 b.to, .int .i64 b.fin, b.fr, b.tb] := by simp only [bkA, ha, ha2, hm]
  have HA := hidE hA
  clear hm ha ha2 hA
  obtain ⟨N, hN⟩ : ∃ N : Nat, N = if b.fin = 1 then b.n else b.n - 1 := ⟨_, rfl⟩
  have hN1 : N ≤ b.n := by rw [hN]; split <;> omega
  have hN2 : b.n ≤ N + 1 := by rw [hN]; split <;> omega
  have HC : Hid (trC b first = endC b (bodyC b N) first) := hidE (by rw [hN]; rfl)
  have HEK : Hid (∀ k, k < b.n → ending3 (b.X k).op = decide (N ≤ k)) := hidE (fun k hk => by
    by_cases h1 : k + 1 < b.n
    · rw [HG.out.go_on k h1]
      have : ¬ N ≤ k := by rw [hN]; split <;> omega
      simp [this]
    · obtain rfl : k = b.n - 1 := by omega
      have hl : lastX b = b.X (b.n - 1) := rfl
      by_cases hf : b.fin = 1
      · have hh := HWAY.out
        have : ¬ N ≤ b.n - 1 := by rw [hN, if_pos hf]; omega
        rcases hh with ⟨-, e⟩ | ⟨h, -⟩ | ⟨h, -⟩ | ⟨h, -, -⟩ | ⟨h⟩
        · rw [← hl, e]; simp [this]
        all_goals omega
      · have : N ≤ b.n - 1 := by rw [hN, if_neg hf]; exact Nat.le_refl _
        rw [← hl, HLAST.out hf]; simp [this])
  have HN := hidE hN
  clear hN
  generalize trC b first = TC at *
  rw [HA.out]
  have HR0 : Hid (TrR w b (.slice none 0 0) (.slice none 0 0) (bodyC b 0) (((w.alloc (.cells #[.slice (some ⟨S, o, none⟩) b.n b.cn, .slice (some ⟨S2, o2, none⟩) b.n b.cm, .int .u32 b.next, .int .u32 b.to, .int .i64 b.fin, b.fr, b.tb] 36)).alloc (.cells #[.slice none 0 0, .slice none 0 0] 60)).alloc (.cells #[.slice none 0 0, .slice none 0 0] 60))) :=
    hidE ⟨by rw [HA.out]; exact block_old _ (block_old _ (block_new _ _)), block_old _ (block_at _ (by simp)), block_at _ (by simp), ⟨World.ownsRow_nil _ _ _ _, World.ownsRow_nil _ _ _ _, fun _ h => by cases h⟩, ((((Keeps.refl _ _).alloc _).alloc _).alloc _)⟩
  go_enter Tryz.func76, Tryz.ntmps76
  go_wp2_with fail
  go_loopw [7] (fun t7 wr => ∃ (k M : Nat) (bv rv : Value), t7 = .int .i64 k ∧ k ≤ b.n ∧ M = min k N ∧ TrR w b bv rv (bodyC b M) wr) (fun t7 _ => (b.n - intOf t7).toNat)
  case atStart => exact ⟨0, 0, _, _, rfl, by omega, by omega, HR0.out⟩
  case round =>
    obtain ⟨k, M, bv, rv, rfl, hkn, hM, hR⟩ := hrel
    have hM1 : M ≤ k := by omega
    have hM2 : M ≤ N := by omega
    have hM3 : k ≤ M ∨ N ≤ M := by omega
    clear hM
    have HR := hidE hR
    have B0 := hR.b0
    rw [HA.out] at B0
    have c0 := cell_of B0
    have hlt0 := lt_of_block B0
    have hlt2 := lt_of_block hR.b2
    have HBL := hidE (HBC.out (M))
    have hl6 := HBL.out.1
    have hl7 := HBL.out.2
    have hl8 : (bodyC b (M)).2.length ≤ 32 := by omega
    have hl9 : (bodyC b (M)).1.length ≤ 200 := by omega
    obtain ⟨ab, cb, rfl⟩ := owns_slice hR.cd.rb
    obtain ⟨ar, cr, rfl⟩ := owns_slice hR.cd.rr
    have c2 := cell_of hR.b2
    clear hl7 hl6 HR0 hR B0
    by_cases hlt : k < b.n
    · obtain ⟨hok, d0, d1, d2, d3⟩ := HI.out k (by omega)
      obtain ⟨y0, y1, dy⟩ := HY.out k (by omega)
      have e0 := cellK (F := fun _ => False) HR.out.same id d0
      have e1 := cellK (F := fun _ => False) HR.out.same id d1
      have e2 := cellK (F := fun _ => False) HR.out.same id d2
      have e3 := cellK (F := fun _ => False) HR.out.same id d3
      have ey := cellK (F := fun _ => False) HR.out.same id dy
      have HO := hidE hok
      have HMY := hidE (HG.out.may k (by omega))
      obtain ⟨n0, b1, b2, b3, b4, b5, b6, b7, b8, b9, hsh⟩ := of3Shape (b.X k).op
      have hE := HEK.out k hlt
      rw [hE] at hsh
      have HOF := hidE (fun (w' : World) => by have h := of3_any (b.X k).op hok.o0 hok.o1 w'; rw [hsh] at h; exact h)
      clear hE hsh d0 d1 d2 d3 dy hok
      have qa : (0 : Int) ≤ k := by omega
      have qb : (k : Int) < b.n := by omega
      by_cases hkN : k < N
      · obtain rfl : k = M := by omega
        have hdn : ¬ N ≤ k := by omega
        simp only [hdn, decide_false] at HOF
        have hfd : ∀ w, (Instr.field 194 (.agg #[.int .i64 n0, .bool b1, .bool b2, .bool b3, .bool b4, .bool b5, .bool b6, .bool b7, .bool b8, .bool b9, .bool false]) 10).run Tryz.prog w = .ok (.bool false) w := fun _ => by kernel_rfl
        go_wp2_with fail
        refine (HOF.out _).mono ?_
        rintro e w1 ⟨rfl, hk1⟩
        have HR1 := hidE (HR.out.keep hk1)
        have HK1 := hidE hk1
        have B0 := HR1.out.b0
        rw [HA.out] at B0
        have g0 := cell_of B0
        have g2 := cell_of HR1.out.b2
        have e0 := cellK (F := fun _ => False) HK1.out id e0
        have e1 := cellK (F := fun _ => False) HK1.out id e1
        have e2 := cellK (F := fun _ => False) HK1.out id e2
        have e3 := cellK (F := fun _ => False) HK1.out id e3
        have ey := cellK (F := fun _ => False) HK1.out id ey
        have hz1 := hk1.size
        clear hk1 B0 c0 c2 HOF
        go_wp2_with fail
        go_still_tail 12, (by kernel_rfl)
        change wpList _ _ _ _ _ w1.drew
        have HRd := hidE (HR1.out.keep (w2 := w1.drew) ((Keeps.refl _ _).drew))
        go_wp2_with fail
        refine (with_any _ (w.heap.size + 3) _ _ (bodyC b k) HRd.out.cd (by have := lt_of_block HRd.out.b2; omega) (b.X k) HO.out HMY.out (b.Y k) k (by omega) (by omega)).mono ?_
        rintro e w2 ⟨bv2, rv2, rfl, hc2, hm2⟩
        obtain ⟨ab2, cb2, rfl⟩ := owns_slice hc2.rb
        obtain ⟨ar2, cr2, rfl⟩ := owns_slice hc2.rr
        have HN2 := hidE (HRd.out.step hc2 hm2)
        have hB2 := hm2.keeps.get HRd.out.b2 (fun e => by have := (HRd.out.cd.lt _ e).1; omega)
        have j2 := cell_of hB2
        have jf := frozen_of hB2
        clear hc2 hm2 hB2
        go_wp2
        go_roundw
        case rel => exact ⟨k + 1, k + 1, _, _, by go_num, by omega, by omega, HN2.out⟩
        case measure => simp [intOf]; omega
      · obtain rfl : N = M := by omega
        have hdn : N ≤ k := by omega
        simp only [hdn, decide_true] at HOF
        have hfd : ∀ w, (Instr.field 194 (.agg #[.int .i64 n0, .bool b1, .bool b2, .bool b3, .bool b4, .bool b5, .bool b6, .bool b7, .bool b8, .bool b9, .bool true]) 10).run Tryz.prog w = .ok (.bool true) w := fun _ => by kernel_rfl
        go_wp2_with fail
        refine (HOF.out _).mono ?_
        rintro e w1 ⟨rfl, hk1⟩
        have HR1 := hidE (HR.out.keep hk1)
        clear hk1 c0 c2 HOF
        go_wp2
        go_roundw
        case rel => exact ⟨k + 1, N, _, _, by go_num, by omega, by omega, HR1.out⟩
        case measure => simp [intOf]; omega
    · obtain rfl : k = b.n := by omega
      obtain rfl : N = M := by omega
      obtain ⟨j, hj⟩ : ∃ j : Nat, b.n - 1 = j := ⟨_, rfl⟩
      have hj1 : (j : Int) + 1 ≤ b.n := by omega
      have hj2 : (b.n : Int) ≤ j + 1 := by omega
      have HJ := hidE hj
      have HJJ : Hid ((b.n : Int) - 1 = j) := hidE (by omega)
      clear hj
      obtain ⟨hok, d0, d1, d2, d3⟩ := HI.out j (by omega)
      obtain ⟨y0, y1, dy⟩ := HY.out j (by omega)
      have e0 := cellK (F := fun _ => False) HR.out.same id d0
      have e1 := cellK (F := fun _ => False) HR.out.same id d1
      have e2 := cellK (F := fun _ => False) HR.out.same id d2
      have e3 := cellK (F := fun _ => False) HR.out.same id d3
      have ey := cellK (F := fun _ => False) HR.out.same id dy
      have HO := hidE hok
      have q9 : IntKind.i64.wrap ((b.n : Int) - 1) = (j : Int) := by rw [wrapI] <;> omega
      have qa : (0 : Int) ≤ (j : Int) := by omega
      have qb : (j : Int) < b.n := by omega
      have g0 : wr.cell? ⟨w.heap.size, 0, none⟩ = some (.slice (some ⟨S, o, none⟩) b.n b.cn) := c0 0
      have g1 : wr.cell? ⟨w.heap.size, 1, none⟩ = some (.slice (some ⟨S2, o2, none⟩) b.n b.cm) := c0 1
      clear d0 d1 d2 d3 dy hok
      go_wp2_with fail
      refine wp_region_ev 12 14 2 rfl (fun u => u.cell? ⟨w.heap.size, 0, none⟩ = some (.slice (some ⟨S, o, none⟩) b.n b.cn) ∧ u.cell? ⟨w.heap.size, 1, none⟩ = some (.slice (some ⟨S2, o2, none⟩) b.n b.cm) ∧ u.cell? ⟨S, o + j * 4, none⟩ = some (.int .u8 (b.X j).op) ∧ u.cell? ⟨S, o + j * 4 + 1, none⟩ = some (.int .u8 (b.X j).a) ∧ u.cell? ⟨S, o + j * 4 + 2, none⟩ = some (.int .u8 (b.X j).b) ∧ u.cell? ⟨S, o + j * 4 + 3, none⟩ = some (.int .i32 (b.X j).imm) ∧ u.cell? ⟨S2, o2 + j, none⟩ = some (.int .u32 (b.Y j))) (by kernel_rfl) (by kernel_rfl) (fun c a d v w h => by cases d <;> exact h) ?_ ?_
      · (refine ⟨?_, ?_, ?_, ?_, ?_, ?_, ?_⟩ <;> (repeat (first | with_reducible assumption | with_reducible refine cellD ?_ | with_reducible refine cellA _ ?_)))
      simp only [List.take_succ_cons, List.take_zero, List.drop_succ_cons, List.drop_zero]
      repeat (refine stS_cons (v := ?_) rfl (fun u hu => ?_) ?_; rotate_left; · (go_simp; first | done | with_reducible rfl); (try simp only [Act.put, List.setIfInBounds_toArray, List.set_cons_zero, List.set_cons_succ]))
      refine stS_nil ?_
      refine wpListS_cons ?_
      go_wp2
      refine Then1_mk ⟨?_, ?_⟩
      · (refine ⟨?_, ?_, ?_, ?_, ?_, ?_, ?_⟩ <;> (repeat (first | with_reducible assumption | with_reducible refine cellD ?_ | with_reducible refine cellA _ ?_)))
      refine wpListS_cons ?_
      go_wp2
      refine Then1_mk ⟨?_, ?_⟩
      · (refine ⟨?_, ?_, ?_, ?_, ?_, ?_, ?_⟩ <;> (repeat (first | with_reducible assumption | with_reducible refine cellD ?_ | with_reducible refine cellA _ ?_)))
      refine wpListS_zero ?_
      have HRe := hidE (HR.out.keep (w2 := (wr.alloc (.cells #[.int .u8 (b.X j).op, .int .u8 (b.X j).a, .int .u8 (b.X j).b, .int .i32 (b.X j).imm] 122)).drew) ((Keeps.refl _ _).alloc _).drew)
      have HBX : Hid ((wr.alloc (.cells #[.int .u8 (b.X j).op, .int .u8 (b.X j).a, .int .u8 (b.X j).b, .int .i32 (b.X j).imm] 122)).drew.heap[wr.heap.size]? = some (.cells #[.int .u8 (b.X j).op, .int .u8 (b.X j).a, .int .u8 (b.X j).b, .int .i32 (b.X j).imm] 122 (0, 0))) := hidE (block_new _ _)
      generalize (wr.alloc (.cells #[.int .u8 (b.X j).op, .int .u8 (b.X j).a, .int .u8 (b.X j).b, .int .i32 (b.X j).imm] 122)).drew = w1 at *
      have B0 := HRe.out.b0
      rw [HA.out] at B0
      have k0 := cell_of B0
      have k2 := cell_of HRe.out.b2
      have kx := cell_of HBX.out
      have hwz := lt_of_block HRe.out.b2
      have HLX : Hid (lastX b = b.X j) := hidE (by unfold lastX; rw [HJ.out])
      have HLY : Hid (lastY b = b.Y j) := hidE (by unfold lastY; rw [HJ.out])
      have q6 : IntKind.i32.wrap b.next = s32 b.next := wrap_u32i32 b.next hx0 hx1
      have qf : IntKind.i64.wrap (first + 1) = first + 1 := by rw [wrapI] <;> omega
      clear e0 e1 e2 e3 ey g0 g1 c0 c2 B0 HEK HN HLAST
      rcases HWAY.out with ⟨hf, -⟩ | ⟨hf, ho⟩ | ⟨hf, ho⟩ | ⟨hf, o0, o1⟩ | ⟨h⟩
      · have HEC := hidE (show TC = outL (bodyC b N) b.n b.next first by rw [HC.out]; simp [endC, hf])
        have hf1 : (b.fin == 1) = true := by simp [hf]
        clear hf HC
        go_wp2_with fail
        refine (out_any _ (w.heap.size + 3) _ _ (bodyC b N) HRe.out.cd (by omega) b.n b.next first (by omega) (by omega) x0 (by omega) (by omega) (by omega)).mono ?_
        rintro e w2 ⟨bv2, rv2, rfl, hc2, hm2⟩
        obtain ⟨ab2, cb2, rfl⟩ := owns_slice hc2.rb
        obtain ⟨ar2, cr2, rfl⟩ := owns_slice hc2.rr
        have HF := hidE (HRe.out.fin hc2 hm2)
        have j1 := cell_of HF.out.1
        have jf := frozen_of HF.out.1
        clear hc2 hm2
        go_wp2
        exact bodyPost_ret (results_c rfl rfl HF.out.2.1 Tryz.underlying60 rfl (by kernel_rfl)) rfl ⟨_, _, rfl, by rw [HEC.out]; exact HF.out.2.2.1, by rw [HEC.out]; exact HF.out.2.2.2.1, HF.out.2.2.2.2⟩
      · have HEC := hidE (show TC = outL (withL (bodyC b N) (⟨32, 6, 0, s32 b.next⟩ : In) (b.Y j) (j : Int)) b.n b.to first by rw [HC.out]; simp only [endC, hf, ho, ldiI, HLY.out, HJJ.out]; rfl)
        have hf1 : (b.fin == 1) = false := by simp [hf]
        have hf2 : (b.fin == 2) = true := by simp [hf]
        have hf3 : (b.fin == 3) = false := by simp [hf]
        have ho2 : (b.X j).op = 72 := by rw [← HLX.out]; exact ho
        rw [ho2] at kx
        clear hf HC ho ho2
        go_wp2_with fail
        refine (with_any _ (w.heap.size + 3) _ _ (bodyC b N) HRe.out.cd (by omega) (⟨32, 6, 0, s32 b.next⟩ : In) ⟨by simp, by simp, by simp, by simp, by simp, by simp, (s32_bd b.next hx0 hx1).1, (s32_bd b.next hx0 hx1).2⟩ (may_ldi _) (b.Y j) (j : Int) (by omega) (by omega)).mono ?_
        rintro e w3 ⟨bv3, rv3, rfl, hc3, hm3⟩
        obtain ⟨ab3, cb3, rfl⟩ := owns_slice hc3.rb
        obtain ⟨ar3, cr3, rfl⟩ := owns_slice hc3.rr
        have HR3 := hidE (HRe.out.step hc3 hm3)
        have hB3 := hm3.keeps.get HRe.out.b2 (fun e => by have := (HRe.out.cd.lt _ e).1; omega)
        have u2 := cell_of hB3
        have uf := frozen_of hB3
        have B0 := hm3.keeps.get HRe.out.b0 (fun e => by have := (HRe.out.cd.lt _ e).1; omega)
        rw [HA.out] at B0
        have u0 := cell_of B0
        have hwz3 := lt_of_block hB3
        have hlen3 := encL_6 (⟨32, 6, 0, s32 b.next⟩ : In) false
        have hw1 : (withL (bodyC b N) (⟨32, 6, 0, s32 b.next⟩ : In) (b.Y j) (j : Int)).1.length ≤ 300 := by simp only [withL, List.length_append]; omega
        have hw2 : (withL (bodyC b N) (⟨32, 6, 0, s32 b.next⟩ : In) (b.Y j) (j : Int)).2.length ≤ 100 := by simp only [withL, List.length_append, List.length_cons, List.length_nil]; omega
        clear hc3 hm3 hB3 B0 k0 k2 kx
        go_wp2_with fail
        refine (out_any _ (w.heap.size + 3) _ _ _ HR3.out.cd (by have := lt_of_block HR3.out.b2; omega) b.n b.to first (by omega) (by omega) x0 (by omega) (by omega) (by omega)).mono ?_
        rintro e w2 ⟨bv2, rv2, rfl, hc2, hm2⟩
        obtain ⟨ab2, cb2, rfl⟩ := owns_slice hc2.rb
        obtain ⟨ar2, cr2, rfl⟩ := owns_slice hc2.rr
        have HF := hidE (HR3.out.fin hc2 hm2)
        have j1 := cell_of HF.out.1
        have jf := frozen_of HF.out.1
        clear hc2 hm2
        go_wp2
        exact bodyPost_ret (results_c rfl rfl HF.out.2.1 Tryz.underlying60 rfl (by kernel_rfl)) rfl ⟨_, _, rfl, by rw [HEC.out]; exact HF.out.2.2.1, by rw [HEC.out]; exact HF.out.2.2.2.1, HF.out.2.2.2.2⟩
      · have HEC := hidE (show TC = outL (bodyC b N) b.n b.to first by rw [HC.out]; simp [endC, hf, ho])
        have hf1 : (b.fin == 1) = false := by simp [hf]
        have hf2 : (b.fin == 2) = true := by simp [hf]
        have hf3 : (b.fin == 3) = false := by simp [hf]
        have ho2 : (b.X j).op = 64 := by rw [← HLX.out]; exact ho
        rw [ho2] at kx
        clear hf HC ho ho2
        go_wp2_with fail
        refine (out_any _ (w.heap.size + 3) _ _ (bodyC b N) HRe.out.cd (by omega) b.n b.to first (by omega) (by omega) x0 (by omega) (by omega) (by omega)).mono ?_
        rintro e w2 ⟨bv2, rv2, rfl, hc2, hm2⟩
        obtain ⟨ab2, cb2, rfl⟩ := owns_slice hc2.rb
        obtain ⟨ar2, cr2, rfl⟩ := owns_slice hc2.rr
        have HF := hidE (HRe.out.fin hc2 hm2)
        have j1 := cell_of HF.out.1
        have jf := frozen_of HF.out.1
        clear hc2 hm2
        go_wp2
        exact bodyPost_ret (results_c rfl rfl HF.out.2.1 Tryz.underlying60 rfl (by kernel_rfl)) rfl ⟨_, _, rfl, by rw [HEC.out]; exact HF.out.2.2.1, by rw [HEC.out]; exact HF.out.2.2.2.1, HF.out.2.2.2.2⟩
      · have HEC := hidE (show TC = outL (outL (withL (bodyC b N) (⟨(b.X j).op, 0, 0, 5⟩ : In) (b.Y j) (j : Int)) b.n b.next first) b.n b.to (first + 1) by rw [HC.out]; simp only [endC, hf, brI, HLX.out, HLY.out, HJJ.out]; rfl)
        have hf1 : (b.fin == 1) = false := by simp [hf]
        have hf2 : (b.fin == 2) = false := by simp [hf]
        have hf3 : (b.fin == 3) = true := by simp [hf]
        have p0 : 65 ≤ (b.X j).op := by rw [← HLX.out]; exact o0
        have p1 : (b.X j).op ≤ 71 := by rw [← HLX.out]; exact o1
        clear hf HC o0 o1
        go_wp2_with fail
        refine (with_any _ (w.heap.size + 3) _ _ (bodyC b N) HRe.out.cd (by omega) (⟨(b.X j).op, 0, 0, 5⟩ : In) ⟨by simp; omega, by simp; omega, by simp, by simp, by simp, by simp, by simp, by simp⟩ (may_br _ p0 p1) (b.Y j) (j : Int) (by omega) (by omega)).mono ?_
        rintro e w3 ⟨bv3, rv3, rfl, hc3, hm3⟩
        obtain ⟨ab3, cb3, rfl⟩ := owns_slice hc3.rb
        obtain ⟨ar3, cr3, rfl⟩ := owns_slice hc3.rr
        have HR3 := hidE (HRe.out.step hc3 hm3)
        have hB3 := hm3.keeps.get HRe.out.b2 (fun e => by have := (HRe.out.cd.lt _ e).1; omega)
        have u2 := cell_of hB3
        have uf := frozen_of hB3
        have B0 := hm3.keeps.get HRe.out.b0 (fun e => by have := (HRe.out.cd.lt _ e).1; omega)
        rw [HA.out] at B0
        have u0 := cell_of B0
        have hwz3 := lt_of_block hB3
        have hlen3 := encL_6 (⟨(b.X j).op, 0, 0, 5⟩ : In) false
        have hw1 : (withL (bodyC b N) (⟨(b.X j).op, 0, 0, 5⟩ : In) (b.Y j) (j : Int)).1.length ≤ 300 := by simp only [withL, List.length_append]; omega
        have hw2 : (withL (bodyC b N) (⟨(b.X j).op, 0, 0, 5⟩ : In) (b.Y j) (j : Int)).2.length ≤ 100 := by simp only [withL, List.length_append, List.length_cons, List.length_nil]; omega
        clear hc3 hm3 hB3 B0 k0 k2 kx
        go_wp2_with fail
        have HR4 : Hid (TrR w b (.slice ab3 (withL (bodyC b N) (⟨(b.X j).op, 0, 0, 5⟩ : In) (b.Y j) (j : Int)).1.length cb3) (.slice ar3 (withL (bodyC b N) (⟨(b.X j).op, 0, 0, 5⟩ : In) (b.Y j) (j : Int)).2.length cr3) (withL (bodyC b N) (⟨(b.X j).op, 0, 0, 5⟩ : In) (b.Y j) (j : Int)) ((w3.setCell ⟨w.heap.size + 1 + 1, 0, none⟩ (.slice ab3 (withL (bodyC b N) (⟨(b.X j).op, 0, 0, 5⟩ : In) (b.Y j) (j : Int)).1.length cb3)).setCell ⟨w.heap.size + 1 + 1, 1, none⟩ (.slice ar3 (withL (bodyC b N) (⟨(b.X j).op, 0, 0, 5⟩ : In) (b.Y j) (j : Int)).2.length cr3))) := HR3
        clear HR3 u0 u2 uf
        generalize (w3.setCell ⟨w.heap.size + 1 + 1, 0, none⟩ (.slice ab3 (withL (bodyC b N) (⟨(b.X j).op, 0, 0, 5⟩ : In) (b.Y j) (j : Int)).1.length cb3)).setCell ⟨w.heap.size + 1 + 1, 1, none⟩ (.slice ar3 (withL (bodyC b N) (⟨(b.X j).op, 0, 0, 5⟩ : In) (b.Y j) (j : Int)).2.length cr3) = w4 at *
        have B0 := HR4.out.b0
        rw [HA.out] at B0
        have v0 := cell_of B0
        have v2 := cell_of HR4.out.b2
        have s0 : w4.cell? ⟨w.heap.size + 1 + 1, 0, none⟩ = some (.slice ab3 (withL (bodyC b N) (⟨(b.X j).op, 0, 0, 5⟩ : In) (b.Y j) (j : Int)).1.length cb3) := v2 0
        have s1 : w4.cell? ⟨w.heap.size + 1 + 1, 1, none⟩ = some (.slice ar3 (withL (bodyC b N) (⟨(b.X j).op, 0, 0, 5⟩ : In) (b.Y j) (j : Int)).2.length cr3) := v2 1
        have s2 : w4.cell? ⟨w.heap.size, 2, none⟩ = some (.int .u32 b.next) := v0 2
        have s3 : w4.cell? ⟨w.heap.size, 3, none⟩ = some (.int .u32 b.to) := v0 3
        have hwz4 := lt_of_block HR4.out.b2
        clear B0 v0 v2
        refine wp_region_evp [0, 1, 2, 3, 4, 6, 7, 8, 9, 10] [5, 11, 12] 2 (fun u => u.cell? ⟨w.heap.size + 1 + 1, 0, none⟩ = some (.slice ab3 (withL (bodyC b N) (⟨(b.X j).op, 0, 0, 5⟩ : In) (b.Y j) (j : Int)).1.length cb3) ∧ u.cell? ⟨w.heap.size + 1 + 1, 1, none⟩ = some (.slice ar3 (withL (bodyC b N) (⟨(b.X j).op, 0, 0, 5⟩ : In) (b.Y j) (j : Int)).2.length cr3) ∧ u.cell? ⟨w.heap.size, 2, none⟩ = some (.int .u32 b.next) ∧ u.cell? ⟨w.heap.size, 3, none⟩ = some (.int .u32 b.to)) (by kernel_rfl) (by kernel_rfl) (fun c a d v w h => by cases d <;> exact h) ⟨s0, s1, s2, s3⟩ ?_
        simp only [opsOf, List.filterMap_cons, List.filterMap_nil, List.getElem?_cons_zero, List.getElem?_cons_succ]
        repeat (refine stS_cons (v := ?_) rfl (fun u hu => ?_) ?_; rotate_left; · (go_simp; first | done | with_reducible rfl); (try simp only [Act.put, List.setIfInBounds_toArray, List.set_cons_zero, List.set_cons_succ]))
        refine stS_nil ?_
        refine wpListS_cons ?_
        go_wp2_with fail
        refine (out_any _ (w.heap.size + 3) _ _ (withL (bodyC b N) (⟨(b.X j).op, 0, 0, 5⟩ : In) (b.Y j) (j : Int)) (HR4.out.keep (w2 := w4.drew) (Keeps.refl _ _).drew).cd (by simp; omega) b.n b.next first (by omega) (by omega) x0 (by omega) (by omega) (by omega)).mono ?_
        rintro e w5 ⟨bv5, rv5, rfl, hc5, hm5⟩
        obtain ⟨ab5, cb5, rfl⟩ := owns_slice hc5.rb
        obtain ⟨ar5, cr5, rfl⟩ := owns_slice hc5.rr
        have hn5 : ∀ i, i < w.heap.size + 3 → ¬ (some i = (Value.slice ab3 (withL (bodyC b N) (⟨(b.X j).op, 0, 0, 5⟩ : In) (b.Y j) (j : Int)).1.length cb3).ownBlock ∨ some i = (Value.slice ar3 (withL (bodyC b N) (⟨(b.X j).op, 0, 0, 5⟩ : In) (b.Y j) (j : Int)).2.length cr3).ownBlock) := fun i hi e => by have := (HR4.out.cd.lt _ e).1; omega
        have r0 := cellK hm5.keeps (hn5 _ (by omega)) (cellD s0)
        have r1 := cellK hm5.keeps (hn5 _ (by omega)) (cellD s1)
        have r2 := cellK hm5.keeps (hn5 _ (by omega)) (cellD s2)
        have r3 := cellK hm5.keeps (hn5 _ (by omega)) (cellD s3)
        have HC5 := hidE hc5
        have HM5 := hidE hm5
        have hz5 := hm5.keeps.size
        have hy1 : (outL (withL (bodyC b N) (⟨(b.X j).op, 0, 0, 5⟩ : In) (b.Y j) (j : Int)) b.n b.next first).1.length ≤ 400 := by simp only [outL, List.length_append, stubL_len]; omega
        have hy2 : (outL (withL (bodyC b N) (⟨(b.X j).op, 0, 0, 5⟩ : In) (b.Y j) (j : Int)) b.n b.next first).2.length ≤ 200 := by simp only [outL, List.length_append, List.length_cons, List.length_nil]; omega
        clear hc5 hm5 s0 s1 s2 s3
        go_wp2
        refine Then1_mk ⟨⟨r0, r1, r2, r3⟩, ?_⟩
        refine wpListS_cons ?_
        go_wp2_with fail
        refine (out_any _ (w.heap.size + 3) _ _ (outL (withL (bodyC b N) (⟨(b.X j).op, 0, 0, 5⟩ : In) (b.Y j) (j : Int)) b.n b.next first) HC5.out (by simp at hz5; omega) b.n b.to (first + 1) (by omega) (by omega) (by omega) (by omega) (by omega) (by omega)).mono ?_
        rintro e w6 ⟨bv6, rv6, rfl, hc6, hm6⟩
        obtain ⟨ab6, cb6, rfl⟩ := owns_slice hc6.rb
        obtain ⟨ar6, cr6, rfl⟩ := owns_slice hc6.rr
        have hn6 : ∀ i, i < w.heap.size + 3 → ¬ (some i = (Value.slice ab5 (outL (withL (bodyC b N) (⟨(b.X j).op, 0, 0, 5⟩ : In) (b.Y j) (j : Int)) b.n b.next first).1.length cb5).ownBlock ∨ some i = (Value.slice ar5 (outL (withL (bodyC b N) (⟨(b.X j).op, 0, 0, 5⟩ : In) (b.Y j) (j : Int)) b.n b.next first).2.length cr5).ownBlock) := fun i hi e => by have := (HC5.out.lt _ e).1; omega
        have HF := hidE ((HR4.out.keep (w2 := w4.drew) (Keeps.refl _ _).drew).fin hc6 (HM5.out.trans hm6))
        have t0 := cellK hm6.keeps (hn6 _ (by omega)) r0
        have t1 := cellK hm6.keeps (hn6 _ (by omega)) r1
        have t2 := cellK hm6.keeps (hn6 _ (by omega)) r2
        have t3 := cellK hm6.keeps (hn6 _ (by omega)) r3
        have j1 := cell_of HF.out.1
        have jf := frozen_of HF.out.1
        clear hc6 hm6 r0 r1 r2 r3
        go_wp2
        refine Then1_mk ⟨⟨t0, t1, t2, t3⟩, ?_⟩
        refine wpListS_zero ?_
        go_wp2
        exact bodyPost_ret (results_c rfl rfl HF.out.2.1 Tryz.underlying60 rfl (by kernel_rfl)) rfl ⟨_, _, rfl, by rw [HEC.out]; exact HF.out.2.2.1, by rw [HEC.out]; exact HF.out.2.2.2.1, HF.out.2.2.2.2⟩
      · have HEC := hidE (show TC = outL (bodyC b N) (j : Int) (b.Y j) first by rw [HC.out]; simp only [endC, h, HLY.out, HJJ.out]; rfl)
        have hf1 : (b.fin == 1) = false := by simp [h]
        have hf2 : (b.fin == 2) = false := by simp [h]
        have hf3 : (b.fin == 3) = false := by simp [h]
        clear h HC
        go_wp2_with fail
        refine (out_any _ (w.heap.size + 3) _ _ (bodyC b N) HRe.out.cd (by omega) (j : Int) (b.Y j) first (by omega) (by omega) x0 (by omega) (by omega) (by omega)).mono ?_
        rintro e w2 ⟨bv2, rv2, rfl, hc2, hm2⟩
        obtain ⟨ab2, cb2, rfl⟩ := owns_slice hc2.rb
        obtain ⟨ar2, cr2, rfl⟩ := owns_slice hc2.rr
        have HF := hidE (HRe.out.fin hc2 hm2)
        have j1 := cell_of HF.out.1
        have jf := frozen_of HF.out.1
        clear hc2 hm2
        go_wp2
        exact bodyPost_ret (results_c rfl rfl HF.out.2.1 Tryz.underlying60 rfl (by kernel_rfl)) rfl ⟨_, _, rfl, by rw [HEC.out]; exact HF.out.2.2.1, by rw [HEC.out]; exact HF.out.2.2.2.1, HF.out.2.2.2.2⟩
end Go.Proofs.YtomphgpplbekiaaGreat
