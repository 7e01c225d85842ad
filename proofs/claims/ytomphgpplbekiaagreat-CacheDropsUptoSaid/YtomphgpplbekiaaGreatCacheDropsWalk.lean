/- Plain: a cache behind a drop. The walk of the statement CacheDrops. -/
import Derived.Test.YtomphgpplbekiaaGreatPa
import Derived.Test.YtomphgpplbekiaaGreatFr
namespace Go.Proofs.YtomphgpplbekiaaGreat
open Go.RowKit
section
variable {l : List Fb} {f : Int} {n : Nat}
/-- The blocks behind a drop. -/
def dropAll (l : List Fb) (f : Int) : List Fb := dropTo l f (liveIdx l l.length)
theorem dropTo_get : ∀ (pre : List Nat) (j : Nat), (dropTo l f pre)[j]? = if j ∈ pre ∧ hasf l f j = true then (l[j]?).map deadB else l[j]? := by
  refine rev_ind (fun j => by simp [dropTo]) fun pre k ih j => ?_
  rw [dropTo_snoc]
  unfold dropStep
  by_cases hk : hasf l f k = true
  · rw [if_pos hk]
    cases hx : l[k]? with
    | none =>
      have hk' : hasf l f k = false := by simp [hasf, hx]
      rw [hk'] at hk; cases hk
    | some x =>
      simp only
      rw [List.getElem?_set]
      by_cases hkj : k = j
      · subst hkj
        have hlt : k < (dropTo l f pre).length := by rw [dropTo_len]; exact (List.getElem?_eq_some_iff.1 hx).1
        rw [if_pos rfl, if_pos hlt, if_pos ⟨by simp, hk⟩, hx]
        rfl
      · rw [if_neg hkj, ih j]
        have : (j ∈ pre ++ [k]) ↔ j ∈ pre := by simp [show ¬ j = k from fun e => hkj e.symm]
        simp only [this]
  · rw [if_neg hk, ih j]
    by_cases hjk : j = k
    · subst hjk
      rw [if_neg (fun h => hk h.2), if_neg (fun h => hk h.2)]
    · have : (j ∈ pre ++ [k]) ↔ j ∈ pre := by simp [hjk]
      simp only [this]
theorem liveAt_lt {j : Nat} (h : liveAt l j = true) : j < l.length := by
  unfold liveAt at h
  cases hx : l[j]? with
  | none => rw [hx] at h; cases h
  | some x => exact (List.getElem?_eq_some_iff.1 hx).1
theorem mem_liveIdx {j k : Nat} : j ∈ liveIdx l k ↔ j < k ∧ liveAt l j = true := by simp [liveIdx]
theorem dropAll_at {j : Nat} {x : Fb} (h : (dropAll l f)[j]? = some x) (hl : x.1.live = true) : l[j]? = some x ∧ hasf l f j = false := by
  unfold dropAll at h
  rw [dropTo_get] at h
  by_cases hc : j ∈ liveIdx l l.length ∧ hasf l f j = true
  · rw [if_pos hc] at h
    cases hx : l[j]? with
    | none => rw [hx] at h; cases h
    | some y =>
      rw [hx] at h
      simp at h
      rw [← h] at hl
      cases hl
  · rw [if_neg hc] at h
    refine ⟨h, ?_⟩
    cases hh : hasf l f j with
    | false => rfl
    | true =>
      exfalso
      refine hc ⟨mem_liveIdx.2 ⟨(List.getElem?_eq_some_iff.1 h).1, ?_⟩, hh⟩
      simp [liveAt, h, hl]
theorem dropAll_live (j : Nat) : liveAt (dropAll l f) j = (liveAt l j && !hasf l f j) := by
  unfold liveAt dropAll
  rw [dropTo_get]
  by_cases hc : j ∈ liveIdx l l.length ∧ hasf l f j = true
  · rw [if_pos hc, hc.2]
    cases l[j]? <;> simp [deadB, deadF]
  · rw [if_neg hc]
    cases hx : l[j]? with
    | none => rfl
    | some x =>
      cases hl : x.1.live with
      | false => simp [hl]
      | true =>
        have hh : hasf l f j = false := by
          cases hh : hasf l f j with
          | false => rfl
          | true => exact absurd ⟨mem_liveIdx.2 ⟨(List.getElem?_eq_some_iff.1 hx).1, by simp [liveAt, hx, hl]⟩, hh⟩ hc
        simp [hl, hh]
theorem dropAll_hasf (j : Nat) : hasf (dropAll l f) f j = hasf l f j := by
  unfold dropAll
  conv => lhs; unfold hasf
  rw [dropTo_get]
  split
  · unfold hasf
    cases l[j]? <;> rfl
  · rfl
theorem dropAll_len : (dropAll l f).length = l.length := dropTo_len _ _ _
theorem dropAll_idx : liveIdx (dropAll l f) (dropAll l f).length = (liveIdx l l.length).filter (fun j => !hasf l f j) := by
  rw [dropAll_len]
  unfold liveIdx
  rw [List.filter_filter]
  congr 1
  funext j
  rw [dropAll_live, Bool.and_comm]
theorem filter_both {α : Type} (p : α → Bool) : ∀ l : List α, (l.filter p).length + (l.filter fun x => !p x).length = l.length
  | [] => rfl
  | a :: l => by
    have := filter_both p l
    cases h : p a <;> simp [h] <;> omega
theorem dropAll_count : (keysL (dropAll l f)).length + (dropK l f (liveIdx l l.length)).length = (keysL l).length := by
  have := filter_both (hasf l f) (liveIdx l l.length)
  simp only [keysL, dropK, List.length_map, dropAll_idx]
  omega
theorem dropAll_none : dropK (dropAll l f) f (liveIdx (dropAll l f) (dropAll l f).length) = [] := by
  unfold dropK
  rw [dropAll_idx, show hasf (dropAll l f) f = hasf l f from funext dropAll_hasf, List.filter_filter]
  simp
theorem dropAll_used : usedL (pl (dropAll l f)) = usedL (pl l) := dropTo_keeps (P := fun L => usedL L = usedL (pl l)) (fun _ _ _ hg h => by rw [usedL_dead hg]; exact h) rfl _
theorem dropAll_inv (h : Inv n (pl l)) : Inv n (pl (dropAll l f)) := dropTo_keeps (P := Inv n) (fun _ _ _ hg h => h.dead hg) h _
theorem dropAll_frs {b : Nat} (h : FrB b (pl l)) : FrB b (pl (dropAll l f)) := dropTo_keeps (P := FrB b) (fun _ _ g hg h f hf => by
    rcases List.mem_or_eq_of_mem_set hf with hf | rfl
    · exact h f hf
    · exact h g (List.mem_of_getElem? hg)) h _
/-- No frame of a live block is the one that was dropped. -/
theorem dropAll_frames {x : Int} (h : x ∈ framesV (dropAll l f)) : x ≠ f := by
  have h1 := (sortedL_mem _ _).1 (compact_sub h)
  unfold frsL at h1
  obtain ⟨j, hj, hx⟩ := List.mem_flatMap.1 h1
  have hlv := (mem_liveIdx.1 hj).2
  unfold frsAt at hx
  cases hy : (dropAll l f)[j]? with
  | none => rw [hy] at hx; cases hx
  | some y =>
    rw [hy] at hx
    have hl : y.1.live = true := by simpa [liveAt, hy] using hlv
    obtain ⟨h2, h3⟩ := dropAll_at hy hl
    intro e
    subst e
    have : hasI y.1.frs x = true := by
      unfold hasI
      rw [List.any_eq_true]
      exact ⟨x, hx, by simp⟩
    simp [hasf, h2, this] at h3
/-- A key that was dropped is not found. -/
theorem dropAll_gone (h : Inv n (pl l)) {k : Nat} {c : List Value} (hc : (dropK l f (liveIdx l l.length))[k]? = some c) : ∃ k1 k2, c = [.int .u32 k1, .int .u32 k2] ∧ idxL (pl (dropAll l f)) (k1, k2) = none := by
  obtain ⟨j, hj, rfl⟩ := List.mem_map.1 (List.mem_of_getElem? hc)
  obtain ⟨hj1, hj2⟩ := List.mem_filter.1 hj
  obtain ⟨hj3, hj4⟩ := mem_liveIdx.1 hj1
  obtain ⟨x, hx⟩ : ∃ x, l[j]? = some x := ⟨_, List.getElem?_eq_getElem hj3⟩
  have hl : x.1.live = true := by simpa [liveAt, hx] using hj4
  refine ⟨x.1.k1, x.1.k2, by unfold keyAt; rw [hx]; rfl, ?_⟩
  cases hq : idxL (pl (dropAll l f)) (x.1.k1, x.1.k2) with
  | none => rfl
  | some i =>
    exfalso
    obtain ⟨g, hg, h1, h2, h3⟩ := idxL_some hq
    obtain ⟨y, hy, rfl⟩ := pl_at hg
    obtain ⟨h4, h5⟩ := dropAll_at hy h1
    have e1 := idx_self h.nd (j := i) (f := y.1) (by rw [pl_get, h4]; rfl) h1
    have e2 := idx_self h.nd (j := j) (f := x.1) (by rw [pl_get, hx]; rfl) hl
    rw [h2, h3, e2] at e1
    cases e1
    rw [hj2] at h5
    cases h5
end
end Go.Proofs.YtomphgpplbekiaaGreat
namespace Go.Proofs.YtomphgpplbekiaaGreat
open Go.RowKit
attribute [local go_sem ↓] Go.wp_at_zero Go.wp_at_succ
section
/-- Find, of a key that is not there. -/
theorem find_gone {w : World} {N cb : Nat} {R : RamAt} {M : List Int} {V : CV} {l : List Fb} {hi mi : Int} (h : IsCache w N cb R M V l hi mi) (h0 : 0 ≤ hi ∧ hi < 1000) (h1 : 0 ≤ mi ∧ mi < 10000) (hl : l.length ≤ 1000) {k1 k2 : Int} (hn : idxL (pl l) (k1, k2) = none) :
    Calls Tryz.prog 17 #[.pointer (some ⟨cb, 0, none⟩), .agg #[.int .u32 k1, .int .u32 k2]] w fun e w' => e = .returned (.tuple #[.int .i64 0, .bool false]) ∧ IsCache w' N cb R M V l hi (mi + 1) ∧ Keeps (fun k => k = cb) w w' := by
  refine (cs_find h ⟨by omega, by omega⟩ ⟨by omega, by omega⟩ (by omega) k1 k2).mono fun e w' hp => ?_
  unfold FindPost at hp
  rw [hn] at hp
  exact hp
theorem exits_gone {l : List Fb} {k1 k2 : Int} (hn : idxL (pl l) (k1, k2) = none) : exitsL l (k1, k2) = [] := by unfold exitsL; rw [hn]
attribute [local go_sem ↓] x_stKy x_stRw x_stLd x_stOu x_stRb x_stCd x_stBk x_stLk
attribute [local go_sem] st_Ky st_Rw st_Ld st_Ou st_Rb st_Cd st_Bk st_Lk ne_s1 en_s1 ne_s2 en_s2 ne_s3 en_s3 ne_s4 en_s4 ne_s5 en_s5 ne_s6 en_s6 ne_s7 en_s7 ne_s8 en_s8 lt_s2 lt_s3 lt_s4 lt_s5 lt_s6 lt_s7 lt_s8 rowAt_at rowAt_old rowAt_drew rowAt_drewN setRow_drew setRow_at setRow_old setRow_setRow rowAt_setRow_eq rowAt_setRow_ne cell_setRow_eq cell_setRow_ne frozen_setRow_eq frozen_setRow_ne ones_lit oc_int oc_bool oc_str oc_ptr oc_sl oc_map oc_fn oc_nf oc_ni oc_if
attribute [local go_sem ↓] x_neKy x_neRw x_neOu x_eqKy x_eqRw x_eqOu
attribute [local go_sem] ne_Ky ne_Rw ne_Ou eq_Ky eq_Rw eq_Ou
attribute [local go_sem ↓] x_ldSt
set_option maxRecDepth 100000 in
set_option maxHeartbeats 8000000 in
theorem cacheDrops_any (w : World) (x fr : Int) (x0 : 0 ≤ x) (x1 : x < 256) (a : Option Addr) (len cap B : Nat) (hs : StepsOk w a len B) (hB : B ≤ 1048576) :
    Calls Tryz.prog 7 #[.int .u8 x, .slice a len cap, .int .i64 fr] w fun e w' => e = .returned (.bool true) ∧ Same w w' := by
  have HS := hidE hs
  clear hs
  go_enter Tryz.func7, Tryz.ntmps7
  go_wp2_with fail
  refine (made22 w x x0 x1).mono ?_
  rintro _ w1 ⟨R, M, cb, V, rb, rfl, hP, hk⟩
  have HQ1 : Hid (LoopQ w w1 cb rb R B 0) := hidE ⟨M, V, _, [], [], 0, 0, hP, by simp, by omega, by omega, fun f hf => by cases hf⟩
  have HK1 := hidE hk
  clear hP hk
  go_wp2_with fail
  go_loopw [10] (fun t10 wr => ∃ k : Nat, t10 = .int .i64 (k : Int) ∧ k ≤ len ∧ k ≤ 40 ∧ LoopQ w wr cb rb R B k ∧ Same w wr) (fun t10 _ => (40 - intOf t10).toNat)
  case atStart => exact ⟨0, rfl, by omega, by omega, HQ1.out, HK1.out⟩
  case round =>
    obtain ⟨k, rfl, hk1, hk2, hq, hw⟩ := hrel
    have HW := hidE hw
    obtain ⟨M, V, Vb, l, l', hi, mi, hP, hl, hh, hm, hF⟩ := hq
    have HP := hidE hP
    clear hP hw HQ1 HK1
    by_cases hlt : k < len ∧ k < 40
    · have q0 : decide ((k : Int) < (len : Int)) = true := decide_eq_true (by omega)
      have q1 : (k : Int) < (len : Int) := by omega
      have q2 : decide ((k : Int) < 40) = true := decide_eq_true (by omega)
      have q3 : (0 : Int) ≤ (k : Int) := by omega
      have e1 := wrapI ((k : Int) + 1) (by omega) (by omega)
      obtain ⟨kd, n, k1, k2, b, xs, hso, hxl, g, o, rfl, hg, hcell⟩ := HS.out k hlt.1
      have hld := ld_at (P := Tryz.prog) (w := wr) (t := 38) (g := g) (o := o + k * 11) Tryz.underlying38 rfl infoSt (c := [.int .i64 kd, .int .i64 n, .int .u32 k1, .int .u32 k2, .slice b.ia b.n b.cn, .slice b.aa b.m b.cm, .int .u32 b.next, .int .u32 b.to, .int .i64 b.fin, b.fr, b.tb]) rfl (fun i v hv => by
        have := cell_same1 HW.out (hcell i v hv)
        rwa [← Nat.add_assoc] at this)
      have HC := hidE (step_loop HP.out HW.out hl hh hm hF (by omega) kd n k1 k2 b xs hso hxl (by omega))
      simp only [stepA] at HC
      clear hcell hso
      go_wp2_with fail
      refine HC.out.mono ?_
      rintro _ w2 ⟨rfl, h1, h2⟩
      clear HC hld
      go_wp2_with fail
      exact ⟨⟨k + 1, by simp, by omega, by omega, h1, h2⟩, by simp only [intOf]; omega⟩
    · have hll : l.length ≤ 40 := by omega
      have hFB := hidE (dropAll_frs (f := fr) hF)
      have hIV := hidE (dropAll_inv (f := fr) HP.out.inv)
      have hfb : ∀ x ∈ dropAll l fr, x.1.frs.length ≤ 1048576 := fun x hx => by
        have := hFB.out x.1 (List.mem_map.2 ⟨x, hx, rfl⟩)
        omega
      have HFB := hidE hfb
      have hlA : (dropAll l fr).length ≤ 40 := by rw [dropAll_len]; exact hll
      have hKl := dropK_len l fr
      have hcnt := dropAll_count (l := l) (f := fr)
      have hkl : (keysL l).length ≤ 40 := by
        have := liveIdx_le l l.length
        simp only [keysL, List.length_map]
        omega
      have HKY := hidE (cs_keys HP.out.c (by omega))
      have HUS := hidE (fun u (hu : Same wr u) => cs_used (HP.out.same hu).c)
      have HDR := hidE (fun u (hu : Same wr u) => cs_drop (HP.out.same hu).c (by omega) fr HP.out.inv.nd)
      clear hF hFB hfb
      have q0 : (decide ((k : Int) < (len : Int)) = true ∧ decide ((k : Int) < 40) = false ∧ (k : Int) < (len : Int) ∧ ¬ ((k : Int) < 40)) ∨ (decide ((k : Int) < (len : Int)) = false ∧ decide ((k : Int) < 40) = decide ((k : Int) < 40) ∧ ¬ ((k : Int) < (len : Int)) ∧ True) := by
        by_cases h9 : k < len
        · exact .inl ⟨decide_eq_true (by omega), decide_eq_false (by omega), by omega, by omega⟩
        · exact .inr ⟨decide_eq_false (by omega), rfl, by omega, trivial⟩
      rcases q0 with ⟨q0, q2, q1, q3⟩ | ⟨q0, -, q1, -⟩
      all_goals focus (
        go_wp2_with fail
        refine HKY.out.mono ?_
        rintro _ w2 ⟨kv, rfl, hkv, hk⟩
        obtain ⟨kp, kc, rfl⟩ := hkv.sl
        have HK2 := hidE hk
        clear hkv hk HKY
        go_wp2_with fail
        refine (HUS.out _ HK2.out).mono ?_
        rintro _ w3 ⟨rfl, rfl⟩
        go_wp2_with fail
        refine (HDR.out _ HK2.out).mono ?_
        rintro _ w3 ⟨gv, rfl, hgv, hI, hk3⟩
        change IsCache w3 _ cb R M V (dropAll l fr) hi mi at hI
        obtain ⟨gp, gc, rfl⟩ := hgv.sl
        have HGV := hidE hgv
        have HI := hidE hI
        have HW3 := hidE (same_then (HW.out.trans HK2.out) hk3 (fun g hg => by
          rcases hg with hg | hg
          · exact HP.out.c.far g (.inr (.inl hg))
          · exact HP.out.c.far g (.inr (.inr (.inr (.inl hg))))))
        clear hgv hI hk3 HUS HDR
        go_wp2_with fail
        have HASK := hidE (hIV.out.asked (l := dropAll l fr) (by have := HP.out.n8; omega))
        have hgtag : ∀ g, some g = (Value.slice gp (dropK l fr (liveIdx l l.length)).length gc).ownBlock → g ≠ cb := fun g hg => ne_tg (tg_own HGV.out.own g hg) HI.out.c_.tA.1 (by decide)
        have hncb := HI.out.lt cb (.inl rfl)
        have HTG := hidE hgtag
        have HGONE := hidE (fun (i : Nat) c hc => dropAll_gone HP.out.inv (f := fr) (k := i) (c := c) hc)
        have HFRM := hidE (fun y hy => dropAll_frames (l := l) (f := fr) (x := y) hy)
        have hw3 := HW3.out.size
        have hcb : w.heap.size ≤ cb := HI.out.far cb (.inl rfl)
        clear hgtag
        generalize hG : dropK l fr (liveIdx l l.length) = G at *
        clear hG
        go_loopw [14] (fun t14 wr => ∃ (i : Nat) (mi' : Int), t14 = .int .i64 (i : Int) ∧ i ≤ G.length ∧ (0 ≤ mi' ∧ mi' ≤ 40 + (i : Int)) ∧ IsCache wr w.heap.size cb R M V (dropAll l fr) hi mi' ∧ Keeps (fun g => g = cb) w3 wr) (fun t14 _ => (G.length - intOf t14).toNat)
        case atStart => exact ⟨0, mi, rfl, by omega, ⟨by omega, by omega⟩, HI.out, Keeps.refl _ _⟩
        case round =>
          obtain ⟨i, mi', rfl, hi2, hmi, hIr, hkr⟩ := hrel
          have HIr := hidE hIr
          have HKr := hidE hkr
          clear hIr hkr
          by_cases hlt2 : i < G.length
          · have p0 : decide ((i : Int) < (G.length : Int)) = true := decide_eq_true (by omega)
            have p1 : (i : Int) < (G.length : Int) := by omega
            have p3 : (0 : Int) ≤ (i : Int) := by omega
            have e2 := wrapI ((i : Int) + 1) (by omega) (by omega)
            obtain ⟨c, hcq⟩ : ∃ c, G[i]? = some c := ⟨_, List.getElem?_eq_getElem hlt2⟩
            obtain ⟨k1, k2, rfl, hnone⟩ := HGONE.out i c hcq
            obtain ⟨g1, cap1, ee1, -, -, -, -, hc1, -⟩ := (HGV.out.keeps HKr.out (fun g hg => HTG.out g hg)).at_ hcq
            cases ee1
            have a0 := hc1 0 _ rfl
            have a1 := hc1 1 _ rfl
            simp only [Nat.add_zero] at a0
            have hg1 : g1 ≠ cb := HTG.out g1 rfl
            have HFD := hidE (find_gone HIr.out ⟨by omega, by omega⟩ ⟨by omega, by omega⟩ (by omega) hnone)
            clear hc1 hcq
            go_wp2_with fail
            refine HFD.out.mono ?_
            rintro _ w4 ⟨rfl, hI4, hk4⟩
            have HI4 := hidE hI4
            have HK4 := hidE (HKr.out.trans hk4)
            have b0 := cellK hk4 hg1 a0
            have b1 := cellK hk4 hg1 a1
            have HEX := hidE (cs_exits hI4 k1 k2 fun z hz => (HASK.out z hz).2.2.2.1)
            rw [exits_gone hnone] at HEX
            have z0 : ((0 : Int) != 0) = false := by simp
            clear hI4 hk4 a0 a1 HFD
            go_wp2_with fail
            refine HEX.out.mono ?_
            rintro _ w5 ⟨xv, rfl, hxv, hk5⟩
            obtain ⟨xp, xc, rfl⟩ := rowI_sl hxv
            have HI5 := hidE (HI4.out.same hk5)
            have HK5 := hidE (HK4.out.trans (hk5.mono fun _ _ h => h.elim))
            simp only [List.length_nil]
            clear hxv hk5 HEX b0 b1
            go_wp2_with fail
            exact ⟨⟨i + 1, mi' + 1, by simp, by omega, ⟨by omega, by omega⟩, HI5.out, HK5.out⟩, by simp only [intOf]; omega⟩
          · obtain rfl : i = G.length := by omega
            have p0 : decide ((G.length : Int) < (G.length : Int)) = false := by simp
            have HFR := hidE (cs_frames HIr.out (by omega) HFB.out)
            have HW4 := hidE (same_then HW3.out HKr.out (fun g e => by subst e; exact hcb))
            go_wp2_with fail
            refine HFR.out.mono ?_
            rintro _ w5 ⟨fv, rfl, hfv, hk5⟩
            have HI5 := hidE (HIr.out.same hk5)
            have HW5 := hidE (HW4.out.trans hk5)
            have HFV := hidE hfv
            obtain ⟨fp, fc, rfl, hf1, hf2, hf3⟩ := hfv
            generalize framesV (dropAll l fr) = FV at *
            clear hk5 HFR
            go_wp2_with fail
            go_loopw [18] (fun t18 wr => ∃ (j : Nat), t18 = .int .i64 (j : Int) ∧ j ≤ FV.length ∧ Same w5 wr) (fun t18 _ => (FV.length - intOf t18).toNat)
            case atStart => exact ⟨0, rfl, by omega, Keeps.refl _ _⟩
            case round =>
              obtain ⟨j, rfl, hj2, hsj⟩ := hrel
              have HSJ := hidE hsj
              clear hsj
              have hmx : maxLen = 9223372036854775807 := rfl
              by_cases hlt3 : j < FV.length
              · have p5 : decide ((j : Int) < (FV.length : Int)) = true := decide_eq_true (by omega)
                have p6 : (j : Int) < (FV.length : Int) := by omega
                have p7 : (0 : Int) ≤ (j : Int) := by omega
                have e3 := wrapI ((j : Int) + 1) (by omega) (by omega)
                obtain ⟨y, hy⟩ : ∃ y, FV[j]? = some y := ⟨_, List.getElem?_eq_getElem hlt3⟩
                have hne := HFRM.out y (List.mem_of_getElem? hy)
                have z1 : (y == fr) = false := beq_eq_false_iff_ne.2 hne
                rcases hf3 with hf3 | ⟨S, o, rfl, hS, hcell⟩
                · rw [hf3] at hlt3; simp at hlt3
                have cy := cell_same1 HSJ.out (hcell j y hy)
                clear hcell
                go_wp2_with fail
                exact ⟨⟨j + 1, by simp, by omega, HSJ.out⟩, by simp only [intOf]; omega⟩
              · obtain rfl : j = FV.length := by omega
                have p5 : decide ((FV.length : Int) < (FV.length : Int)) = false := by simp
                have HI6 := hidE (HI5.out.same HSJ.out)
                have HW6 := hidE (HW5.out.trans HSJ.out)
                have HKY2 := hidE (cs_keys HI6.out (by omega))
                have HUS2 := hidE (fun u (hu : Same wr u) => cs_used (HI6.out.same hu))
                have HDR2 := hidE (fun u (hu : Same wr u) => cs_drop (HI6.out.same hu) (by omega) fr hIV.out.nd)
                rw [dropAll_used] at HUS2
                rw [dropAll_none] at HDR2
                have hk9 : (keysL (dropAll l fr)).length ≤ 40 := by omega
                have e4 := wrapI (((keysL (dropAll l fr)).length : Int) + (G.length : Int)) (by omega) (by omega)
                have z2 : ((((keysL (dropAll l fr)).length : Int) + (G.length : Int)) == ((keysL l).length : Int)) = true := beq_iff_eq.2 (by omega)
                have z3 : (((usedL (pl l) : Nat) : Int) == ((usedL (pl l) : Nat) : Int)) = true := by simp
                have z4 : ((0 : Int) == 0) = true := by simp
                go_wp2_with fail
                refine HKY2.out.mono ?_
                rintro _ w7 ⟨kv2, rfl, hkv2, hk7⟩
                obtain ⟨kp2, kc2, rfl⟩ := hkv2.sl
                have HK7 := hidE hk7
                clear hkv2 hk7 HKY2
                go_wp2_with fail
                refine (HUS2.out _ HK7.out).mono ?_
                rintro _ w8 ⟨rfl, rfl⟩
                go_wp2_with fail
                refine (HDR2.out _ HK7.out).mono ?_
                rintro _ w8 ⟨gv2, rfl, hgv2, hI8, hk8⟩
                obtain ⟨gp2, gc2, rfl⟩ := hgv2.sl
                have HW8 := hidE (same_then (HW6.out.trans HK7.out) hk8 (fun g hg => by
                  rcases hg with hg | hg
                  · exact HI6.out.far g (.inr (.inl hg))
                  · exact HI6.out.far g (.inr (.inr (.inr (.inl hg))))))
                simp only [List.length_nil]
                clear hgv2 hI8 hk8 HUS2 HDR2
                go_wp2_with fail
                refine (works22 _).mono ?_
                rintro _ w9 ⟨rfl, hk9⟩
                have HW9 := hidE (HW8.out.trans hk9)
                clear hk9
                go_wp2
                go_ret
                exact ⟨rfl, HW9.out⟩)
end
theorem cacheDrops_walk (w : World) (x0 : Int) (h0 : RdV Tryz.prog w 5 [.int .u8 x0]) (a1 : Option Addr) (l1 c1 : Nat) (h1 : RdV Tryz.prog w 22 [.slice a1 l1 c1]) (x2 : Int) (_h2 : RdV Tryz.prog w 3 [.int .i64 x2]) (hz : RdZV (fun _ len => len ≤ 1048576) Tryz.prog w 22 [.slice a1 l1 c1]) :
    Calls Tryz.prog 7 #[.int .u8 x0, .slice a1 l1 c1, .int .i64 x2] w fun e w' => e = .returned (.bool true) ∧ Below w.heap.size w w' := by
  obtain ⟨x, e, p0, p1⟩ := h0.int (k := .u8) Tryz.underlying5
  simp at e
  subst e
  simp [IntKind.min, IntKind.max, IntKind.bits, IntKind.signed] at p0 p1
  obtain ⟨hs, -, -⟩ := steps_open (B := 1048576) (fun m hm => hm) h1 hz
  exact (cacheDrops_any w x0 x2 (by omega) (by omega) a1 l1 c1 _ hs (by omega)).mono fun e w' h => ⟨h.1, same_below h.2⟩
end Go.Proofs.YtomphgpplbekiaaGreat
