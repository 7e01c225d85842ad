/- The walk of the statement TranslateMakes. -/
import Derived.Test.YtdchhkdgcjnhpaaTrRef
import Derived.Test.YtdchhkdgcjnhpaaWorks20
namespace Go.Proofs.Ytdchhkdgcjnhpaa
open Go.RowKit

set_option maxHeartbeats 2000000 in
set_option maxRecDepth 100000 in
theorem makes_no (w : World) (b : Bk) (first : Int) (hb : b.Ok w) (hno : ¬ (mayBlk b = true ∧ 0 ≤ first ∧ first ≤ 65534)) :
    Calls Try.prog 8 #[.agg (bkA b), .int .i64 first] w fun e w' => e = .returned (.bool true) ∧ Below w.heap.size w w' := by
  have H1 := hidE (fun (w' : World) (hk : Same w w') => trans_no b first w' (hb.keeps hk) hno)
  have H2 := hidE (fun (w' : World) (hk : Same w w') => mayR_any b w' (hb.keeps hk))
  have H3 := hidE works_20
  generalize mayBlk b = M at *
  clear hb
  simp only [bkA] at *
  have hbl := block_new w (.cells #[.slice b.ia b.n b.cn, .slice b.aa b.m b.cm, .int .u32 b.next, .int .u32 b.to, .int .i64 b.fin, b.fr, b.tb] 41)
  have HBL := hidE hbl
  clear hbl
  by_cases c1 : first < 0 <;> by_cases c2 : 65534 < first <;> cases M <;> first | (exfalso; omega) | (exfalso; exact hno ⟨rfl, by omega, by omega⟩) | skip
  all_goals
    clear hno
    go_enter Try.func8, Try.ntmps8
    go_wp2_with fail
    refine (H1.out _ ((Keeps.refl _ _).alloc _)).mono ?_
    rintro e w1 ⟨rfl, hk1⟩
    have c1 := cell_of (hk1.get HBL.out id)
    have hlt := lt_of_block (hk1.get HBL.out id)
    have HK1 := hidE hk1
    clear hk1
    go_wp2_with fail
    refine (H2.out _ ((((Keeps.refl _ _).alloc _).trans HK1.out).alloc _)).mono ?_
    rintro e w2 ⟨rfl, hk2⟩
    have B2 := hk2.get (block_new w1 (.cells #[.slice none 0 0, .slice none 0 0] 45)) id
    have c2 := cell_of B2
    have HK2 := hidE hk2
    clear hk2 B2
    go_wp2_with fail
    refine (same_yes _ 0 0 0 0 (.slice none 0 0) (.slice none 0 0) (.slice none 0 0) (.slice none 0 0) [] [] (World.ownsRow_nil _ _ _ _) (World.ownsRow_nil _ _ _ _) (World.ownsRow_nil _ _ _ _) (World.ownsRow_nil _ _ _ _) (by simp)).mono ?_
    rintro e w3 ⟨rfl, hk3⟩
    go_wp2_with fail
    refine (H3.out _).mono ?_
    rintro e w4 ⟨rfl, hk4⟩
    go_wp2
    go_ret
    exact ⟨rfl, same_below ((((((Keeps.refl _ _).alloc _).trans HK1.out).alloc _).trans HK2.out).trans (hk3.trans hk4))⟩
set_option maxHeartbeats 400000 in
set_option maxRecDepth 100000 in
theorem makes_yes (w : World) (b : Bk) (first : Int) (hb : b.Ok w) (hm : mayBlk b = true) (x0 : 0 ≤ first) (x1 : first ≤ 65534) :
    Calls Try.prog 8 #[.agg (bkA b), .int .i64 first] w fun e w' => e = .returned (.bool true) ∧ Below w.heap.size w w' := by
  have H1 := hidE (fun (w' : World) (hk : Same w w') => trans_yes b first w' (hb.keeps hk) hm x0 x1)
  have H2 := hidE (fun (w' : World) (hk : Same w w') => by have h := mayR_any b w' (hb.keeps hk); rw [hm] at h; exact h)
  have H4 := hidE (fun (w' : World) (hk : Same w w') => refTr_any b first w' (hb.keeps hk) (good_of hm) x0 x1)
  have H3 := hidE works_20
  have hlen := (trC_len (good_of hm) first).2
  unfold TrPost at H1
  unfold RefTr at H4
  generalize trC b first = TC at *
  clear hb hm
  simp only [bkA] at *
  have hbl := block_new w (.cells #[.slice b.ia b.n b.cn, .slice b.aa b.m b.cm, .int .u32 b.next, .int .u32 b.to, .int .i64 b.fin, b.fr, b.tb] 41)
  have HBL := hidE hbl
  clear hbl
  have n1 : ¬ first < 0 := by omega
  have n2 : ¬ 65534 < first := by omega
  go_enter Try.func8, Try.ntmps8
  go_wp2_with fail
  refine (H1.out _ ((Keeps.refl _ _).alloc _)).mono ?_
  rintro e w1 ⟨bv, rv, rfl, hbv, hrv, hk1⟩
  obtain ⟨ab, cb, rfl⟩ := owns_slice hbv
  obtain ⟨ar, cr, rfl⟩ := owns_slice hrv
  have c1 := cell_of (hk1.get HBL.out id)
  have hlt := lt_of_block (hk1.get HBL.out id)
  have HK1 := hidE hk1
  have HBV := hidE hbv
  have HRV := hidE hrv
  clear hk1 hbv hrv
  go_wp2_with fail
  refine (H2.out _ ((((Keeps.refl _ _).alloc _).trans HK1.out).alloc _)).mono ?_
  rintro e w2 ⟨rfl, hk2⟩
  have B2 := hk2.get (block_new w1 (.cells #[.slice ab TC.1.length cb, .slice ar TC.2.length cr] 45)) id
  have B1 := hk2.get (block_old (.cells #[.slice ab TC.1.length cb, .slice ar TC.2.length cr] 45) (HK1.out.get HBL.out id)) id
  have c2 := cell_of B2
  have c3 := cell_of B1
  have HS2 : Hid (Same w w2) := hidE (((((Keeps.refl _ _).alloc _).trans HK1.out).alloc _).trans hk2)
  have HS12 : Hid (Same w1 w2) := hidE (((Keeps.refl _ _).alloc _).trans hk2)
  have d0 : w2.cell? ⟨w.heap.size, 0, none⟩ = some (.slice b.ia b.n b.cn) := c3 0
  have d1 : w2.cell? ⟨w.heap.size, 1, none⟩ = some (.slice b.aa b.m b.cm) := c3 1
  have d2 : w2.cell? ⟨w.heap.size, 2, none⟩ = some (.int .u32 b.next) := c3 2
  have d3 : w2.cell? ⟨w.heap.size, 3, none⟩ = some (.int .u32 b.to) := c3 3
  have d4 : w2.cell? ⟨w.heap.size, 4, none⟩ = some (.int .i64 b.fin) := c3 4
  have d5 : w2.cell? ⟨w.heap.size, 5, none⟩ = some b.fr := c3 5
  have d6 : w2.cell? ⟨w.heap.size, 6, none⟩ = some b.tb := c3 6
  have e0 : w2.cell? ⟨w1.heap.size, 0, none⟩ = some (.slice ab TC.1.length cb) := c2 0
  have e1 : w2.cell? ⟨w1.heap.size, 1, none⟩ = some (.slice ar TC.2.length cr) := c2 1
  clear hk2 B2 B1 c1 c2 c3
  go_wp2_with fail
  refine wp_region_evp [0, 1, 2, 3, 4, 5] [6, 7, 8, 9, 10, 11, 12] 6 (fun u => Same w2 u ∧ u.cell? ⟨w.heap.size, 0, none⟩ = some (.slice b.ia b.n b.cn) ∧ u.cell? ⟨w.heap.size, 1, none⟩ = some (.slice b.aa b.m b.cm) ∧ u.cell? ⟨w.heap.size, 2, none⟩ = some (.int .u32 b.next) ∧ u.cell? ⟨w.heap.size, 3, none⟩ = some (.int .u32 b.to) ∧ u.cell? ⟨w.heap.size, 4, none⟩ = some (.int .i64 b.fin) ∧ u.cell? ⟨w.heap.size, 5, none⟩ = some b.fr ∧ u.cell? ⟨w.heap.size, 6, none⟩ = some b.tb ∧ u.cell? ⟨w1.heap.size, 0, none⟩ = some (.slice ab TC.1.length cb) ∧ u.cell? ⟨w1.heap.size, 1, none⟩ = some (.slice ar TC.2.length cr)) (by kernel_rfl) (by kernel_rfl) (fun c a d v w h => by cases d <;> exact h) ⟨(Keeps.refl _ _).drew, d0, d1, d2, d3, d4, d5, d6, e0, e1⟩ ?_
  simp only [opsOf, List.filterMap_cons, List.filterMap_nil, List.getElem?_cons_zero, List.getElem?_cons_succ]
  (refine stS_cons (v := ?_) rfl (fun u hu => ?_) ?_; rotate_left; (focus (obtain ⟨-, hu⟩ := hu; go_simp; first | done | with_reducible rfl)); (try simp only [Act.put, List.setIfInBounds_toArray, List.set_cons_zero, List.set_cons_succ]))
  (refine stS_cons (v := ?_) rfl (fun u hu => ?_) ?_; rotate_left; (focus (obtain ⟨-, hu⟩ := hu; go_simp; first | done | with_reducible rfl)); (try simp only [Act.put, List.setIfInBounds_toArray, List.set_cons_zero, List.set_cons_succ]))
  (refine stS_cons (v := ?_) rfl (fun u hu => ?_) ?_; rotate_left; (focus (obtain ⟨-, hu⟩ := hu; go_simp; first | done | with_reducible rfl)); (try simp only [Act.put, List.setIfInBounds_toArray, List.set_cons_zero, List.set_cons_succ]))
  (refine stS_yes (v := ?_) (by simp [Region.wanted, yielded]) (fun u hu => ?_) ?_; rotate_left; (focus (obtain ⟨-, hu⟩ := hu; go_simp; first | done | with_reducible rfl)); (try simp only [Act.put, List.setIfInBounds_toArray, List.set_cons_zero, List.set_cons_succ]))
  (refine stS_yes (v := ?_) (by simp [Region.wanted, yielded]) (fun u hu => ?_) ?_; rotate_left; (focus (obtain ⟨-, hu⟩ := hu; go_simp; first | done | with_reducible rfl)); (try simp only [Act.put, List.setIfInBounds_toArray, List.set_cons_zero, List.set_cons_succ]))
  (refine stS_yes (v := ?_) (by simp [Region.wanted, yielded]) (fun u hu => ?_) ?_; rotate_left; (focus (obtain ⟨-, hu⟩ := hu; go_simp; first | done | with_reducible rfl)); (try simp only [Act.put, List.setIfInBounds_toArray, List.set_cons_zero, List.set_cons_succ]))
  refine stS_nil ?_
  refine wpListS_cons ?_
  go_wp2_with fail
  refine (H4.out _ (HS2.out.drew)).mono ?_
  rintro e w3 ⟨bv2, rv2, rfl, hb2, hr2, hk3⟩
  obtain ⟨ab2, cb2, rfl⟩ := owns_slice hb2
  obtain ⟨ar2, cr2, rfl⟩ := owns_slice hr2
  have HK3 : Hid (Same w2 w3) := hidE (((Keeps.refl _ w2).drew).trans hk3)
  have HQp := HK3
  have d7 := e0
  have d8 := e1
  clear e0 e1
  have p0 := cellK (F := fun _ => False) HK3.out id d0
  have p1 := cellK (F := fun _ => False) HK3.out id d1
  have p2 := cellK (F := fun _ => False) HK3.out id d2
  have p3 := cellK (F := fun _ => False) HK3.out id d3
  have p4 := cellK (F := fun _ => False) HK3.out id d4
  have p5 := cellK (F := fun _ => False) HK3.out id d5
  have p6 := cellK (F := fun _ => False) HK3.out id d6
  have p7 := cellK (F := fun _ => False) HK3.out id d7
  have p8 := cellK (F := fun _ => False) HK3.out id d8
  have HB2 := hidE hb2
  have HR2 := hidE hr2
  have HB1 := hidE (owns_apart HBV.out (HS12.out.trans HK3.out) (fun _ _ => id))
  have HR1 := hidE (owns_apart HRV.out (HS12.out.trans HK3.out) (fun _ _ => id))
  clear hk3 hb2 hr2 d0 d1 d2 d3 d4 d5 d6 d7 d8
  go_wp2
  refine Then1_mk ⟨⟨HQp.out, p0, p1, p2, p3, p4, p5, p6, p7, p8⟩, ?_⟩
  refine wpListS_cons ?_
  go_wp2_with fail
  refine (same_yes _ _ _ _ _ _ _ _ _ TC.1 TC.2 HB1.out HR1.out HB2.out HR2.out (by omega)).mono ?_
  rintro e w4 ⟨rfl, hk4⟩
  have HK4 := hidE hk4
  have HQq : Hid (Same w2 w4) := hidE (HK3.out.trans hk4)
  have q0 := cellK (F := fun _ => False) HK4.out id p0
  have q1 := cellK (F := fun _ => False) HK4.out id p1
  have q2 := cellK (F := fun _ => False) HK4.out id p2
  have q3 := cellK (F := fun _ => False) HK4.out id p3
  have q4 := cellK (F := fun _ => False) HK4.out id p4
  have q5 := cellK (F := fun _ => False) HK4.out id p5
  have q6 := cellK (F := fun _ => False) HK4.out id p6
  have q7 := cellK (F := fun _ => False) HK4.out id p7
  have q8 := cellK (F := fun _ => False) HK4.out id p8
  clear hk4 p0 p1 p2 p3 p4 p5 p6 p7 p8 HB1 HR1 HB2 HR2
  go_wp2
  refine Then1_mk ⟨⟨HQq.out, q0, q1, q2, q3, q4, q5, q6, q7, q8⟩, ?_⟩
  refine wpListS_cons ?_
  go_wp2
  refine Then1_mk ⟨⟨HQq.out, q0, q1, q2, q3, q4, q5, q6, q7, q8⟩, ?_⟩
  refine wpListS_cons ?_
  go_wp2
  refine Then1_mk ⟨⟨HQq.out, q0, q1, q2, q3, q4, q5, q6, q7, q8⟩, ?_⟩
  refine wpListS_cons ?_
  go_wp2_with fail
  refine (H3.out _).mono ?_
  rintro e w5 ⟨rfl, hk5⟩
  have HK5 := hidE hk5
  have HQr : Hid (Same w2 w5) := hidE (HQq.out.trans hk5)
  have r0 := cellK (F := fun _ => False) HK5.out id q0
  have r1 := cellK (F := fun _ => False) HK5.out id q1
  have r2 := cellK (F := fun _ => False) HK5.out id q2
  have r3 := cellK (F := fun _ => False) HK5.out id q3
  have r4 := cellK (F := fun _ => False) HK5.out id q4
  have r5 := cellK (F := fun _ => False) HK5.out id q5
  have r6 := cellK (F := fun _ => False) HK5.out id q6
  have r7 := cellK (F := fun _ => False) HK5.out id q7
  have r8 := cellK (F := fun _ => False) HK5.out id q8
  clear hk5 q0 q1 q2 q3 q4 q5 q6 q7 q8
  go_wp2
  refine Then1_mk ⟨⟨HQr.out, r0, r1, r2, r3, r4, r5, r6, r7, r8⟩, ?_⟩
  refine wpListS_cons ?_
  go_wp2
  refine Then1_mk ⟨⟨HQr.out, r0, r1, r2, r3, r4, r5, r6, r7, r8⟩, ?_⟩
  refine wpListS_zero ?_
  go_wp2
  go_ret
  exact ⟨rfl, same_below (HS2.out.trans HQr.out)⟩
theorem translateMakes_walk (w : World) (s0 : Array Value) (h0 : RdV Try.prog w 41 s0.toList) (x1 : Int) (_h1 : RdV Try.prog w 3 [.int .i64 x1]) :
    Calls Try.prog 8 #[.agg s0, .int .i64 x1] w fun e w' => e = .returned (.bool true) ∧ Below w.heap.size w w' := by
  obtain ⟨b, rfl, hb⟩ := bk_open h0
  by_cases h : mayBlk b = true ∧ 0 ≤ x1 ∧ x1 ≤ 65534
  · exact makes_yes w b x1 hb h.1 h.2.1 h.2.2
  · exact makes_no w b x1 hb h
end Go.Proofs.Ytdchhkdgcjnhpaa
