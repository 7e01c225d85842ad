/- A cache: the block of an exit (owned, Asks, Out). A cache: an exit (Out), and whether it asks. A cache: whether an exit asks; a block's exits. Rows: the last one that is not behind a place; the one at a place. A cache: At. -/
import Derived.Test.YtomphgpplbekiaaGreatCnP
import Derived.Test.YtomphgpplbekiaaGreatCmpC
namespace Go.Proofs.YtomphgpplbekiaaGreat
open Go.RowKit
attribute [local go_sem ↓] Go.wp_at_zero Go.wp_at_succ

/-- The live block of an exit. -/
def ownedL (l : List Fb) (e : Int) : Option Fb := if 0 ≤ e then ((ownL (pl l))[e.toNat]?).bind fun n => (l[n.toNat]?).filter fun x => x.1.live else none
theorem ownL_mem {L : List Fp} {j : Nat} {n : Int} (h : (ownL L)[j]? = some n) : 0 ≤ n ∧ n.toNat < L.length := by
  have hm := List.mem_of_getElem? h
  unfold ownL at hm
  rw [List.mem_flatMap] at hm
  obtain ⟨p, hp, hn⟩ := hm
  have := List.eq_of_mem_replicate hn
  subst this
  have h2 := List.mem_zipIdx hp
  omega
theorem cell_same1 {w w' : World} {b o : Nat} {v : Value} (k : Same w w') (h : w.cell? ⟨b, o, none⟩ = some v) : w'.cell? ⟨b, o, none⟩ = some v := cellK k id h
theorem owns_one {w : World} {B e s n : Nat} {v : Value} {xs : List Value} (h : w.ownsRow B e s v n xs) : v.oneCell' = true := by
  obtain ⟨-, ⟨rfl, -⟩ | ⟨g, cap, cur, rfl, -⟩⟩ := h <;> rfl
theorem FbOk.ones {w : World} {x : Fb} (h : FbOk w x) : x.2.bv.oneCell' = true ∧ x.2.rv.oneCell' = true ∧ x.2.fv.oneCell' = true := by
  obtain ⟨⟨_, h1⟩, ⟨_, h2⟩, ⟨a, c, h3, -⟩, -⟩ := h
  exact ⟨owns_one h1, owns_one h2, by rw [h3]; rfl⟩
theorem x_ldLd (ρ : Operand → Value) (dst : Option Tmp) (x : Operand) (ty : TypeId) (pos : String) (after : Array Edge) (guard : Option (Nat × Bool)) :
    execOp ρ { dst, op := .load 112 x, type := ty, pos, after, guard } = ldRow 112 (ρ x) := rfl
section
variable {w w' : World} {N cb : Nat} {R : RamAt} {M : List Int} {V : CV} {l : List Fb} {hi mi : Int}
attribute [local go_sem ↓] x_stKy x_stRw x_stLd x_stOu x_stRb x_stCd x_stBk x_stLk
attribute [local go_sem] st_Ky st_Rw st_Ld st_Ou st_Rb st_Cd st_Bk st_Lk ne_s1 en_s1 ne_s2 en_s2 ne_s3 en_s3 ne_s4 en_s4 ne_s5 en_s5 ne_s6 en_s6 ne_s7 en_s7 ne_s8 en_s8 lt_s2 lt_s3 lt_s4 lt_s5 lt_s6 lt_s7 lt_s8 rowAt_at rowAt_old rowAt_drew rowAt_drewN setRow_drew setRow_at setRow_old setRow_setRow rowAt_setRow_eq rowAt_setRow_ne cell_setRow_eq cell_setRow_ne frozen_setRow_eq frozen_setRow_ne ones_lit oc_int oc_bool oc_str oc_ptr oc_sl oc_map oc_fn oc_nf oc_ni oc_if
attribute [local go_sem ↓] x_ldLd
def laidV (x : Fb) : Value := .agg #[.int .u32 x.1.k1, .int .u32 x.1.k2, .int .i64 x.1.pos, x.2.bv, x.2.rv, .int .i64 x.1.fin, x.2.fv, .bool (!x.1.live)]
def ownedV (l : List Fb) (ex : Int) : Value := match ownedL l ex with | some x => .tuple #[laidV x, .bool true] | none => .tuple #[.agg laidZ, .bool false]
theorem ownedV_no {l : List Fb} {ex : Int} (h : ownedL l ex = none) : ownedV l ex = .tuple #[.agg laidZ, .bool false] := by unfold ownedV; rw [h]
theorem ownedV_yes {l : List Fb} {ex : Int} {x : Fb} (h : ownedL l ex = some x) : ownedV l ex = .tuple #[laidV x, .bool true] := by unfold ownedV; rw [h]
set_option maxRecDepth 100000 in
set_option maxHeartbeats 4000000 in
theorem cs_owned (h : IsCache w N cb R M V l hi mi) (ex : Int) (h0 : -9223372036854775808 ≤ ex) (h1 : ex ≤ 9223372036854775807) (hol : (ownL (pl l)).length ≤ 60000) (_hll : l.length ≤ 10000) :
    Calls Tryz.prog 49 #[.pointer (some ⟨cb, 0, none⟩), .int .i64 ex] w fun e w' => e = .returned (ownedV l ex) ∧ Same w w' := by
  obtain ⟨p1, c1, ebl⟩ := h.bl_sl
  obtain ⟨p3, c3, eow⟩ := rowI_sl h.ow
  have HH := hidE h
  have HK := hidE ((Keeps.refl (fun _ => False) w).alloc (.cells laidZ 112))
  clear h
  simp only [laidZ] at *
  have hno : ∀ (w9 : World), ownedL l ex = none → Same w w9 → (Ending.returned (.tuple #[.agg #[.int .u32 0, .int .u32 0, .int .i64 0, .slice none 0 0, .slice none 0 0, .int .i64 0, .slice none 0 0, .bool false], .bool false]) = .returned (ownedV l ex)) ∧ Same w w9 := fun w9 e hk => by rw [ownedV_no e]; exact ⟨rfl, hk⟩
  by_cases hin : 0 ≤ ex ∧ ex < ((ownL (pl l)).length : Int)
  · obtain ⟨e, rfl⟩ := Int.eq_ofNat_of_zero_le hin.1
    have hlt : e < (ownL (pl l)).length := by omega
    obtain ⟨n, hn⟩ : ∃ n, (ownL (pl l))[e]? = some n := ⟨_, List.getElem?_eq_getElem hlt⟩
    obtain ⟨hn0, hn1⟩ := ownL_mem hn
    obtain ⟨m, rfl⟩ := Int.eq_ofNat_of_zero_le hn0
    have hml : m < l.length := by simpa [pl] using hn1
    obtain ⟨x, hx⟩ : ∃ x, l[m]? = some x := ⟨_, List.getElem?_eq_getElem hml⟩
    have hcell := HH.out.bk hx
    obtain ⟨g3, c3', e3, n3, n3', hc3⟩ := rowI_at HH.out.ow hn
    rw [eow] at e3
    cases e3
    obtain ⟨g1, c1', e1, n1, n1', hc1⟩ := hcell
    rw [ebl] at e1
    cases e1
    have q1 : decide ((e : Int) < 0) = false := decide_eq_false (by omega)
    have q2 : decide (((ownL (pl l)).length : Int) ≤ (e : Int)) = false := decide_eq_false (by omega)
    have q2n : decide ((ownL (pl l)).length ≤ e) = false := decide_eq_false (by omega)
    have q3 : (e : Int) < ((ownL (pl l)).length : Int) := by omega
    have q4 : (m : Int) < (l.length : Int) := by omega
    have q5 : (0 : Int) ≤ (e : Int) := by omega
    have q6 : (0 : Int) ≤ (m : Int) := by omega
    have hval : ownedL l (e : Int) = if x.1.live then some x else none := by
      unfold ownedL
      rw [if_pos (by omega)]
      have : ((e : Int)).toNat = e := by omega
      rw [this, hn]
      simp only [Option.bind_some]
      have : ((m : Int)).toNat = m := by omega
      rw [this, hx]
      cases hl9 : x.1.live <;> simp [Option.filter, hl9]
    have a7 := hc1 7 _ rfl
    have HC1 := hidE hc1
    have HC3 := hidE hc3
    clear hc1 hc3 hn
    cases hlv : x.1.live with
    | false =>
      rw [hlv] at a7 hval
      simp only [Bool.not_false] at a7
      have HNO := hidE (fun w9 => hno w9 (by rw [hval]; rfl))
      have A7 := hidE a7
      clear a7 hval hno
      go_enter Tryz.func49, Tryz.ntmps49
      go_wp2_with fail
      refine wp_region_ra [0, 1, 2, 3, 4, 5, 6, 7, 8, 9, 10, 11, 12, 13, 14, 15, 16, 17, 18, 19, 20, 21, 22, 23, 24, 25, 26, 27, 28, 29, 30] [] 0 (Same _) (by kernel_rfl) (by kernel_rfl) (fun u u' h k => Keeps.trans h k) (Keeps.refl _ _).drew ?_; simp only [opsOf, List.filterMap_cons, List.filterMap_nil, List.getElem?_cons_zero, List.getElem?_cons_succ]
      repeat (first | (refine seqV_run (v := ?_) rfl (fun u hu => ?_) ?_; rotate_left; (focus (clear hu; go_simp; first | done | with_reducible rfl)); (try simp only [Act.put, List.setIfInBounds_toArray, List.set_cons_zero, List.set_cons_succ])) | (refine seqV_no rfl ?_; (try simp only [Act.put, List.setIfInBounds_toArray, List.set_cons_zero, List.set_cons_succ])))
      (refine seqV_call (f := 47) (args := #[.pointer (some ⟨cb, 0, none⟩)]) (v := .bool false) rfl (fun u hu => ?_) (fun u hu => (cs_none (HH.out.same (HK.out.trans hu))).mono (by rintro _ _ ⟨rfl, rfl⟩; exact ⟨rfl, Keeps.refl _ _⟩)) ?_; (focus (clear hu; go_simp)); (try simp only [Act.put, List.setIfInBounds_toArray, List.set_cons_zero, List.set_cons_succ]))
      repeat (first | (refine seqV_run (v := ?_) rfl (fun u hu => ?_) ?_; rotate_left; (focus (have d1 := (HH.out.same (HK.out.trans hu)).c 1; have d3 := (HH.out.same (HK.out.trans hu)).c 3; have d4 := cell_same1 (HK.out.trans hu) HC3.out; have d5 := cell_same1 (HK.out.trans hu) A7.out; simp only [cacheA, ebl, eow] at d1 d3; clear hu; go_simp; first | done | with_reducible rfl)); (try simp only [Act.put, List.setIfInBounds_toArray, List.set_cons_zero, List.set_cons_succ])) | (refine seqV_no rfl ?_; (try simp only [Act.put, List.setIfInBounds_toArray, List.set_cons_zero, List.set_cons_succ])))
      refine seqV_nil ?_
      refine tailR_zero fun u5 hu _ => ?_
      (try simp only [Act.put, List.setIfInBounds_toArray, List.set_cons_zero, List.set_cons_succ])
      have b5 := hu.get (block_new w (.cells #[.int .u32 0, .int .u32 0, .int .i64 0, .slice none 0 0, .slice none 0 0, .int .i64 0, .slice none 0 0, .bool false] 112)) id
      have HK5 := hidE (HK.out.trans hu)
      have r5 := rowAt_of b5
      clear hu b5
      go_wp2
      refine post_row1 (v := .bool false) rfl Tryz.underlying112 rfl infoLd rfl rfl rfl (by go_simp; rfl) rfl ?_
      exact HNO.out _ (HK5.out.setRow (fun h => absurd h (Nat.lt_irrefl _)) _)
    | true =>
      rw [hlv] at a7 hval
      simp only [Bool.not_true] at a7
      have HV := hidE hval
      obtain ⟨o1, o2, o3⟩ := (HH.out.fb x (List.mem_of_getElem? hx)).ones
      have A7 := hidE a7
      have HL := hidE (fun u (hu : Same w u) => ld_at (P := Tryz.prog) (w := u) (t := 112) (g := g1) (o := m * 8) Tryz.underlying112 rfl infoLd (c := fbP x) rfl (fun i v hv => cell_same1 hu (HC1.out i v hv)))
      simp only [fbP, hlv, Bool.not_true] at HL
      clear a7 hval hno
      go_enter Tryz.func49, Tryz.ntmps49
      go_wp2_with fail
      refine wp_region_ra [0, 1, 2, 3, 4, 5, 6, 7, 8, 9, 10, 11, 12, 13, 14, 15, 16, 17, 18, 19, 20, 21, 22, 23, 24, 25, 26, 27, 28, 29, 30] [] 0 (Same _) (by kernel_rfl) (by kernel_rfl) (fun u u' h k => Keeps.trans h k) (Keeps.refl _ _).drew ?_; simp only [opsOf, List.filterMap_cons, List.filterMap_nil, List.getElem?_cons_zero, List.getElem?_cons_succ]
      repeat (first | (refine seqV_run (v := ?_) rfl (fun u hu => ?_) ?_; rotate_left; (focus (clear hu; go_simp; first | done | with_reducible rfl)); (try simp only [Act.put, List.setIfInBounds_toArray, List.set_cons_zero, List.set_cons_succ])) | (refine seqV_no rfl ?_; (try simp only [Act.put, List.setIfInBounds_toArray, List.set_cons_zero, List.set_cons_succ])))
      (refine seqV_call (f := 47) (args := #[.pointer (some ⟨cb, 0, none⟩)]) (v := .bool false) rfl (fun u hu => ?_) (fun u hu => (cs_none (HH.out.same (HK.out.trans hu))).mono (by rintro _ _ ⟨rfl, rfl⟩; exact ⟨rfl, Keeps.refl _ _⟩)) ?_; (focus (clear hu; go_simp)); (try simp only [Act.put, List.setIfInBounds_toArray, List.set_cons_zero, List.set_cons_succ]))
      repeat (first | (refine seqV_run (v := ?_) rfl (fun u hu => ?_) ?_; rotate_left; (focus (have d1 := (HH.out.same (HK.out.trans hu)).c 1; have d3 := (HH.out.same (HK.out.trans hu)).c 3; have d4 := cell_same1 (HK.out.trans hu) HC3.out; have d5 := cell_same1 (HK.out.trans hu) A7.out; simp only [cacheA, ebl, eow] at d1 d3; clear hu; go_simp; first | done | with_reducible rfl)); (try simp only [Act.put, List.setIfInBounds_toArray, List.set_cons_zero, List.set_cons_succ])) | (refine seqV_no rfl ?_; (try simp only [Act.put, List.setIfInBounds_toArray, List.set_cons_zero, List.set_cons_succ])))
      refine seqV_nil ?_
      refine tailR_zero fun u5 hu _ => ?_
      (try simp only [Act.put, List.setIfInBounds_toArray, List.set_cons_zero, List.set_cons_succ])
      have B5 := hidE (hu.get (block_new w (.cells #[.int .u32 0, .int .u32 0, .int .i64 0, .slice none 0 0, .slice none 0 0, .int .i64 0, .slice none 0 0, .bool false] 112)) id)
      have HK5 := hidE (HK.out.trans hu)
      clear hu
      go_wp2_with fail
      refine wp_region_ra [0, 1, 2, 3, 4, 5, 6, 7, 8, 9, 10, 11, 12] [13, 14] 0 (Same _) (by kernel_rfl) (by kernel_rfl) (fun u u' h k => Keeps.trans h k) (Keeps.refl _ _).drew ?_; simp only [opsOf, List.filterMap_cons, List.filterMap_nil, List.getElem?_cons_zero, List.getElem?_cons_succ]
      repeat (first | (refine seqV_run (v := ?_) rfl (fun u hu => ?_) ?_; rotate_left; (focus (have d1 := (HH.out.same (HK5.out.trans hu)).c 1; have d3 := (HH.out.same (HK5.out.trans hu)).c 3; have d4 := cell_same1 (HK5.out.trans hu) HC3.out; have d6 := HL.out _ (HK5.out.trans hu); simp only [cacheA, ebl, eow] at d1 d3; clear hu; go_simp; first | done | with_reducible rfl)); (try simp only [Act.put, List.setIfInBounds_toArray, List.set_cons_zero, List.set_cons_succ])) | (refine seqV_no rfl ?_; (try simp only [Act.put, List.setIfInBounds_toArray, List.set_cons_zero, List.set_cons_succ])))
      refine seqV_nil ?_
      refine tailR_zero fun u6 hu _ => ?_
      (try simp only [Act.put, List.setIfInBounds_toArray, List.set_cons_zero, List.set_cons_succ])
      have r5 := rowAt_of (hu.get B5.out id)
      have HK6 := hidE (HK5.out.trans hu)
      clear hu
      go_wp2
      refine post_row1 (v := .bool true) (A := #[.int .u32 x.1.k1, .int .u32 x.1.k2, .int .i64 x.1.pos, x.2.bv, x.2.rv, .int .i64 x.1.fin, x.2.fv, .bool false]) rfl Tryz.underlying112 rfl infoLd rfl rfl rfl (by go_simp) rfl ?_
      rw [ownedV_yes HV.out]
      refine ⟨?_, HK6.out.setRow (fun h => absurd h (Nat.lt_irrefl _)) _⟩
      simp [laidV, hlv]
  · have hnone : ownedL l ex = none := by
      unfold ownedL
      by_cases h0 : 0 ≤ ex
      · rw [if_pos h0, List.getElem?_eq_none (by omega)]; rfl
      · rw [if_neg h0]
    have HNO := hidE (fun w9 => hno w9 hnone)
    clear hno hnone
    by_cases hneg : ex < 0
    · have q1 : decide (ex < 0) = true := decide_eq_true hneg
      go_enter Tryz.func49, Tryz.ntmps49
      go_wp2_with fail
      refine wp_region_ra [0, 1, 2, 3, 4, 5, 6, 7, 8, 9, 10, 11, 12, 13, 14, 15, 16, 17, 18, 19, 20, 21, 22, 23, 24, 25, 26, 27, 28, 29, 30] [] 0 (Same _) (by kernel_rfl) (by kernel_rfl) (fun u u' h k => Keeps.trans h k) (Keeps.refl _ _).drew ?_; simp only [opsOf, List.filterMap_cons, List.filterMap_nil, List.getElem?_cons_zero, List.getElem?_cons_succ]
      repeat (first | (refine seqV_run (v := ?_) rfl (fun u hu => ?_) ?_; rotate_left; (focus (clear hu; go_simp; first | done | with_reducible rfl)); (try simp only [Act.put, List.setIfInBounds_toArray, List.set_cons_zero, List.set_cons_succ])) | (refine seqV_no rfl ?_; (try simp only [Act.put, List.setIfInBounds_toArray, List.set_cons_zero, List.set_cons_succ])))
      (refine seqV_call (f := 47) (args := #[.pointer (some ⟨cb, 0, none⟩)]) (v := .bool false) rfl (fun u hu => ?_) (fun u hu => (cs_none (HH.out.same (HK.out.trans hu))).mono (by rintro _ _ ⟨rfl, rfl⟩; exact ⟨rfl, Keeps.refl _ _⟩)) ?_; (focus (clear hu; go_simp)); (try simp only [Act.put, List.setIfInBounds_toArray, List.set_cons_zero, List.set_cons_succ]))
      repeat (first | (refine seqV_run (v := ?_) rfl (fun u hu => ?_) ?_; rotate_left; (focus (clear hu; go_simp; first | done | with_reducible rfl)); (try simp only [Act.put, List.setIfInBounds_toArray, List.set_cons_zero, List.set_cons_succ])) | (refine seqV_no rfl ?_; (try simp only [Act.put, List.setIfInBounds_toArray, List.set_cons_zero, List.set_cons_succ])))
      refine seqV_nil ?_
      refine tailR_zero fun u5 hu _ => ?_
      (try simp only [Act.put, List.setIfInBounds_toArray, List.set_cons_zero, List.set_cons_succ])
      have b5 := hu.get (block_new w (.cells #[.int .u32 0, .int .u32 0, .int .i64 0, .slice none 0 0, .slice none 0 0, .int .i64 0, .slice none 0 0, .bool false] 112)) id
      have HK5 := hidE (HK.out.trans hu)
      have r5 := rowAt_of b5
      clear hu b5
      go_wp2
      refine post_row1 (v := .bool false) rfl Tryz.underlying112 rfl infoLd rfl rfl rfl (by go_simp; rfl) rfl ?_
      exact HNO.out _ (HK5.out.setRow (fun h => absurd h (Nat.lt_irrefl _)) _)
    · have q1 : decide (ex < 0) = false := decide_eq_false hneg
      have q2 : decide (((ownL (pl l)).length : Int) ≤ ex) = true := decide_eq_true (by omega)
      go_enter Tryz.func49, Tryz.ntmps49
      go_wp2_with fail
      refine wp_region_ra [0, 1, 2, 3, 4, 5, 6, 7, 8, 9, 10, 11, 12, 13, 14, 15, 16, 17, 18, 19, 20, 21, 22, 23, 24, 25, 26, 27, 28, 29, 30] [] 0 (Same _) (by kernel_rfl) (by kernel_rfl) (fun u u' h k => Keeps.trans h k) (Keeps.refl _ _).drew ?_; simp only [opsOf, List.filterMap_cons, List.filterMap_nil, List.getElem?_cons_zero, List.getElem?_cons_succ]
      repeat (first | (refine seqV_run (v := ?_) rfl (fun u hu => ?_) ?_; rotate_left; (focus (clear hu; go_simp; first | done | with_reducible rfl)); (try simp only [Act.put, List.setIfInBounds_toArray, List.set_cons_zero, List.set_cons_succ])) | (refine seqV_no rfl ?_; (try simp only [Act.put, List.setIfInBounds_toArray, List.set_cons_zero, List.set_cons_succ])))
      (refine seqV_call (f := 47) (args := #[.pointer (some ⟨cb, 0, none⟩)]) (v := .bool false) rfl (fun u hu => ?_) (fun u hu => (cs_none (HH.out.same (HK.out.trans hu))).mono (by rintro _ _ ⟨rfl, rfl⟩; exact ⟨rfl, Keeps.refl _ _⟩)) ?_; (focus (clear hu; go_simp)); (try simp only [Act.put, List.setIfInBounds_toArray, List.set_cons_zero, List.set_cons_succ]))
      repeat (first | (refine seqV_run (v := ?_) rfl (fun u hu => ?_) ?_; rotate_left; (focus (have d3 := (HH.out.same (HK.out.trans hu)).c 3; simp only [cacheA, eow] at d3; clear hu; go_simp; first | done | with_reducible rfl)); (try simp only [Act.put, List.setIfInBounds_toArray, List.set_cons_zero, List.set_cons_succ])) | (refine seqV_no rfl ?_; (try simp only [Act.put, List.setIfInBounds_toArray, List.set_cons_zero, List.set_cons_succ])))
      refine seqV_nil ?_
      refine tailR_zero fun u5 hu _ => ?_
      (try simp only [Act.put, List.setIfInBounds_toArray, List.set_cons_zero, List.set_cons_succ])
      have b5 := hu.get (block_new w (.cells #[.int .u32 0, .int .u32 0, .int .i64 0, .slice none 0 0, .slice none 0 0, .int .i64 0, .slice none 0 0, .bool false] 112)) id
      have HK5 := hidE (HK.out.trans hu)
      have r5 := rowAt_of b5
      clear hu b5
      go_wp2
      refine post_row1 (v := .bool false) rfl Tryz.underlying112 rfl infoLd rfl rfl rfl (by go_simp; rfl) rfl ?_
      exact HNO.out _ (HK5.out.setRow (fun h => absurd h (Nat.lt_irrefl _)) _)
end
end Go.Proofs.YtomphgpplbekiaaGreat
namespace Go.Proofs.YtomphgpplbekiaaGreat
open Go.RowKit
attribute [local go_sem ↓] Go.wp_at_zero Go.wp_at_succ

theorem find_step {α : Type} {l : List α} {p : α → Bool} {k : Nat} {x : α} (h : l[k]? = some x) (h0 : (l.take k).find? p = none) : (p x = true → l.find? p = some x) ∧ (p x = false → (l.take (k + 1)).find? p = none) := by
  have hlt : k < l.length := (List.getElem?_eq_some_iff.1 h).1
  have he : l[k] = x := by rw [List.getElem?_eq_getElem hlt] at h; exact Option.some.inj h
  refine ⟨fun hp => ?_, fun hp => ?_⟩
  · have e : l = l.take k ++ x :: l.drop (k + 1) := by
      rw [← he, ← List.drop_eq_getElem_cons hlt, List.take_append_drop]
    rw [e, List.find?_append, h0]
    simp [hp]
  · rw [List.take_add_one, h, List.find?_append, h0]
    simp [hp]
theorem x_ldKy (ρ : Operand → Value) (dst : Option Tmp) (x : Operand) (ty : TypeId) (pos : String) (after : Array Edge) (guard : Option (Nat × Bool)) :
    execOp ρ { dst, op := .load 31 x, type := ty, pos, after, guard } = ldRow 31 (ρ x) := rfl
def outV (l : List Fb) (ex : Int) : Value := match ownedL l ex with
  | none => .tuple #[.agg outZ, .bool false]
  | some x => match x.1.rs.find? (fun r => r.ex == ex) with
    | some r => .tuple #[.agg #[.int .u32 x.1.k1, .int .u32 x.1.k2, .int .i64 (x.1.pos + r.off), .int .u32 r.pc], .bool true]
    | none => .tuple #[.agg outZ, .bool false]
theorem outV_no {l : List Fb} {ex : Int} (h : ownedL l ex = none) : outV l ex = .tuple #[.agg outZ, .bool false] := by unfold outV; rw [h]
theorem outV_yes {l : List Fb} {ex : Int} {x : Fb} {r : Rw} (h : ownedL l ex = some x) (hr : x.1.rs.find? (fun r => r.ex == ex) = some r) : outV l ex = .tuple #[.agg #[.int .u32 x.1.k1, .int .u32 x.1.k2, .int .i64 (x.1.pos + r.off), .int .u32 r.pc], .bool true] := by unfold outV; rw [h]; simp only [hr]
theorem outV_gone {l : List Fb} {ex : Int} {x : Fb} (h : ownedL l ex = some x) (hr : x.1.rs.find? (fun r => r.ex == ex) = none) : outV l ex = .tuple #[.agg outZ, .bool false] := by unfold outV; rw [h]; simp only [hr]
section
variable {w w' : World} {N cb : Nat} {R : RamAt} {M : List Int} {V : CV} {l : List Fb} {hi mi : Int}
attribute [local go_sem ↓] x_stKy x_stRw x_stLd x_stOu x_stRb x_stCd x_stBk x_stLk
attribute [local go_sem] st_Ky st_Rw st_Ld st_Ou st_Rb st_Cd st_Bk st_Lk ne_s1 en_s1 ne_s2 en_s2 ne_s3 en_s3 ne_s4 en_s4 ne_s5 en_s5 ne_s6 en_s6 ne_s7 en_s7 ne_s8 en_s8 lt_s2 lt_s3 lt_s4 lt_s5 lt_s6 lt_s7 lt_s8 rowAt_at rowAt_old rowAt_drew rowAt_drewN setRow_drew setRow_at setRow_old setRow_setRow rowAt_setRow_eq rowAt_setRow_ne cell_setRow_eq cell_setRow_ne frozen_setRow_eq frozen_setRow_ne ones_lit oc_int oc_bool oc_str oc_ptr oc_sl oc_map oc_fn oc_nf oc_ni oc_if
attribute [local go_sem ↓] x_ldKy
theorem ownedL_mem {l : List Fb} {ex : Int} {x : Fb} (h : ownedL l ex = some x) : x ∈ l := by
  unfold ownedL at h
  split at h
  · simp only [Option.bind_eq_some_iff, Option.filter_eq_some_iff] at h
    obtain ⟨n, -, hx, -⟩ := h
    exact List.mem_of_getElem? hx
  · cases h
set_option maxRecDepth 100000 in
set_option maxHeartbeats 4000000 in
theorem cs_out (h : IsCache w N cb R M V l hi mi) (ex : Int) (h0 : -9223372036854775808 ≤ ex) (h1 : ex ≤ 9223372036854775807) (hol : (ownL (pl l)).length ≤ 60000) (hll : l.length ≤ 10000)
    (hb : ∀ x ∈ l, 0 ≤ x.1.pos ∧ x.1.pos ≤ 1000000 ∧ x.1.rs.length ≤ 5000 ∧ ∀ r ∈ x.1.rs, 0 ≤ r.off ∧ r.off ≤ 1000000) :
    Calls Tryz.prog 13 #[.pointer (some ⟨cb, 0, none⟩), .int .i64 ex] w fun e w' => e = .returned (outV l ex) ∧ Same w w' := by
  have k0 := (Keeps.refl (fun _ => False) w).alloc (.cells outZ 43)
  have HO := hidE (cs_owned (h.same k0) ex h0 h1 hol hll)
  have B0 := hidE (block_new w (.cells outZ 43))
  have HK0 := hidE k0
  have HH := hidE h
  clear h k0
  cases hq : ownedL l ex with
  | none =>
    have HV := hidE (outV_no hq)
    rw [ownedV_no hq] at HO
    clear hq hb
    simp only [laidZ, outZ] at *
    go_enter Tryz.func13, Tryz.ntmps13
    go_wp2_with fail
    refine HO.out.mono ?_
    rintro _ w1 ⟨rfl, hk⟩
    have r1 := rowAt_of (hk.get B0.out id)
    have l1 := lt_of_block (hk.get B0.out id)
    have HK1 := hidE (HK0.out.trans hk)
    clear hk
    go_wp2
    refine post_row1 (v := .bool false) rfl Tryz.underlying43 rfl infoOu rfl rfl rfl (by go_simp; rfl) rfl ?_
    rw [HV.out]
    exact ⟨rfl, (HK1.out.setRow (fun h => absurd h (Nat.lt_irrefl _)) _).alloc _⟩
  | some x =>
    have hx := ownedL_mem hq
    obtain ⟨p0, p1, hrl, hro⟩ := hb x hx
    obtain ⟨hfb1, ⟨B, hfb2⟩, hfb3, -⟩ := HH.out.fb x hx
    obtain ⟨o1, o2, o3⟩ := (HH.out.fb x hx).ones
    have HY := hidE (fun r => outV_yes (r := r) hq)
    have HG := hidE (outV_gone hq)
    rw [ownedV_yes hq] at HO
    obtain ⟨fp, ⟨bv, rv, fv⟩⟩ := x
    obtain ⟨rp, rc, hrv⟩ := owns_slice hfb2
    simp only at hrv
    subst hrv
    simp only at o1 o2 o3 p0 p1 hrl hro HY HG
    have HR := hidE hfb2
    clear hq hb hx hfb1 hfb2 hfb3
    have hlive : ∃ g, (Value.bool (!fp.live)) = .bool g := ⟨_, rfl⟩
    obtain ⟨gl, hgl⟩ := hlive
    simp only [laidV, outZ, hgl] at *
    go_enter Tryz.func13, Tryz.ntmps13
    go_wp2_with fail
    refine HO.out.mono ?_
    rintro _ w1 ⟨rfl, hk⟩
    have B1 := hidE (hk.get B0.out id)
    have HK1 := hidE (HK0.out.trans hk)
    clear hk
    go_wp2_with fail
    have K9 := HK1.out.alloc (.cells #[.int .u32 fp.k1, .int .u32 fp.k2, .int .i64 fp.pos, bv, .slice rp fp.rs.length rc, .int .i64 fp.fin, fv, .bool gl] 112)
    have B9 := hidE (block_new w1 (.cells #[.int .u32 fp.k1, .int .u32 fp.k2, .int .i64 fp.pos, bv, .slice rp fp.rs.length rc, .int .i64 fp.fin, fv, .bool gl] 112))
    have B9' := hidE (block_old (.cells #[.int .u32 fp.k1, .int .u32 fp.k2, .int .i64 fp.pos, bv, .slice rp fp.rs.length rc, .int .i64 fp.fin, fv, .bool gl] 112) B1.out)
    have HK9 := hidE K9
    clear K9
    obtain ⟨W9, hW9⟩ : ∃ W9, w1.alloc (.cells #[.int .u32 fp.k1, .int .u32 fp.k2, .int .i64 fp.pos, bv, .slice rp fp.rs.length rc, .int .i64 fp.fin, fv, .bool gl] 112) = W9 := ⟨_, rfl⟩
    rw [hW9] at B9 B9' HK9 ⊢
    clear hW9
    go_loopw [23] (fun t23 wr => ∃ (k : Nat), k ≤ fp.rs.length ∧ t23 = .int .i64 (k : Int) ∧ (fp.rs.take k).find? (fun r => r.ex == ex) = none ∧ Same W9 wr) (fun t23 _ => (fp.rs.length - intOf t23).toNat)
    case atStart => exact ⟨0, by omega, rfl, by simp, Keeps.refl _ _⟩
    case round =>
      obtain ⟨k, hk, rfl, hnf, h2⟩ := hrel
      have HW := hidE h2
      have HNF := hidE hnf
      clear h2 hnf
      by_cases hlt : k < fp.rs.length
      · have q0 : decide ((k : Int) < (fp.rs.length : Int)) = true := decide_eq_true (by omega)
        have q1 : (k : Int) < (fp.rs.length : Int) := by omega
        have e1 := wrapI ((k : Int) + 1) (by omega) (by omega)
        obtain ⟨r, hr⟩ : ∃ r, fp.rs[k]? = some r := ⟨_, List.getElem?_eq_getElem hlt⟩
        have hst := find_step (p := fun r => r.ex == ex) hr HNF.out
        obtain ⟨r0, r1⟩ := hro r (List.mem_of_getElem? hr)
        have e2 := wrapI (fp.pos + r.off) (by omega) (by omega)
        obtain ⟨g, c2, e, n1, hc⟩ := rowsR_cells (owns_apart HR.out (HK9.out.trans HW.out) (fun _ _ => id)) hr
        cases e
        have a0 := hc 0 _ rfl
        have a1 := hc 1 _ rfl
        have a2 := hc 2 _ rfl
        have a3 := hc 3 _ rfl
        simp only [Nat.add_zero] at a0
        have HST := hidE hst
        clear hc hr hst
        by_cases hx : r.ex = ex
        · subst hx
          have q2 : (r.ex == r.ex) = true := beq_self_eq_true _
          have b6 := block_old (.cells #[.int .i64 r.off, .int .u32 r.pc, .int .i64 r.dn, .int .i64 r.ex] 49) (HW.out.get B9.out id)
          have b4 := block_old (.cells #[.int .i64 r.off, .int .u32 r.pc, .int .i64 r.dn, .int .i64 r.ex] 49) (HW.out.get B9'.out id)
          have c6 := cell_of b6
          have c6w := cell_of (HW.out.get B9.out id)
          have l6 := lt_of_block (HW.out.get B9.out id)
          have l6' := Nat.ne_of_lt l6
          have l6'' := Nat.ne_of_gt l6
          have hkey : ∀ u, Same (wr.alloc (.cells #[.int .i64 r.off, .int .u32 r.pc, .int .i64 r.dn, .int .i64 r.ex] 49)) u → (ldRow 31 (.pointer (some ⟨w1.heap.size, 0, none⟩))).run Tryz.prog u = .ok (.value (.agg #[.int .u32 fp.k1, .int .u32 fp.k2])) u := fun u hu => ld_at (P := Tryz.prog) (c := [.int .u32 fp.k1, .int .u32 fp.k2]) (o := 0) Tryz.underlying31 rfl infoKy rfl (fun i v hv => by
            have := cell_of (hu.get b6 id) i
            rw [Nat.zero_add, this]
            match i, hv with
            | 0, hv => exact hv
            | 1, hv => exact hv)
          have hk0 := hkey _ (Keeps.refl _ _)
          have r4 := rowAt_of b4
          have l4 := lt_of_block b4
          clear b6 b4 hkey
          go_wp2
          refine post_row1 (v := .bool true) (A := #[.int .u32 fp.k1, .int .u32 fp.k2, .int .i64 (fp.pos + r.off), .int .u32 r.pc]) rfl Tryz.underlying43 rfl infoOu rfl rfl rfl (by go_simp) rfl ?_
          rw [HY.out r (HST.out.1 q2)]
          exact ⟨rfl, ((HK9.out.trans HW.out).alloc _).setRow (fun h => absurd h (Nat.lt_irrefl _)) _⟩
        · have q2 : (r.ex == ex) = false := beq_eq_false_iff_ne.2 hx
          go_wp2_with fail
          refine ⟨⟨k + 1, by omega, by simp, HST.out.2 q2, HW.out.alloc _⟩, by simp only [intOf]; omega⟩
      · obtain rfl : k = fp.rs.length := by omega
        have q0 : decide ((fp.rs.length : Int) < (fp.rs.length : Int)) = false := by simp
        have b4 := HW.out.get B9'.out id
        have r4 := rowAt_of b4
        have l4 := lt_of_block b4
        have hnf := HNF.out
        rw [List.take_length] at hnf
        have HNO := hidE (HG.out hnf)
        clear b4 hnf
        go_wp2
        refine post_row1 (v := .bool false) rfl Tryz.underlying43 rfl infoOu rfl rfl rfl (by go_simp; rfl) rfl ?_
        rw [HNO.out]
        exact ⟨rfl, (HK9.out.trans HW.out).setRow (fun h => absurd h (Nat.lt_irrefl _)) _⟩
end
end Go.Proofs.YtomphgpplbekiaaGreat
namespace Go.Proofs.YtomphgpplbekiaaGreat
open Go.RowKit
attribute [local go_sem ↓] Go.wp_at_zero Go.wp_at_succ

def asksB (l : List Fb) (ex : Int) : Bool := match ownedL l ex with | some x => x.1.fin == 4 | none => false
section
variable {w w' : World} {N cb : Nat} {R : RamAt} {M : List Int} {V : CV} {l : List Fb} {hi mi : Int}
attribute [local go_sem ↓] x_stKy x_stRw x_stLd x_stOu x_stRb x_stCd x_stBk x_stLk
attribute [local go_sem] st_Ky st_Rw st_Ld st_Ou st_Rb st_Cd st_Bk st_Lk ne_s1 en_s1 ne_s2 en_s2 ne_s3 en_s3 ne_s4 en_s4 ne_s5 en_s5 ne_s6 en_s6 ne_s7 en_s7 ne_s8 en_s8 lt_s2 lt_s3 lt_s4 lt_s5 lt_s6 lt_s7 lt_s8 rowAt_at rowAt_old rowAt_drew rowAt_drewN setRow_drew setRow_at setRow_old setRow_setRow rowAt_setRow_eq rowAt_setRow_ne cell_setRow_eq cell_setRow_ne frozen_setRow_eq frozen_setRow_ne ones_lit oc_int oc_bool oc_str oc_ptr oc_sl oc_map oc_fn oc_nf oc_ni oc_if
set_option maxRecDepth 100000 in
theorem cs_asks (h : IsCache w N cb R M V l hi mi) (ex : Int) (h0 : -9223372036854775808 ≤ ex) (h1 : ex ≤ 9223372036854775807) (hol : (ownL (pl l)).length ≤ 60000) (hll : l.length ≤ 10000) :
    Calls Tryz.prog 39 #[.pointer (some ⟨cb, 0, none⟩), .int .i64 ex] w fun e w' => e = .returned (.bool (asksB l ex)) ∧ Same w w' := by
  have HO := hidE (cs_owned h ex h0 h1 hol hll)
  have HH := hidE h
  clear h
  cases hq : ownedL l ex with
  | none =>
    have HV : Hid (asksB l ex = false) := hidE (by unfold asksB; rw [hq])
    rw [ownedV_no hq] at HO
    clear hq
    simp only [laidZ] at *
    go_enter Tryz.func39, Tryz.ntmps39
    go_wp2_with fail
    refine HO.out.mono ?_
    rintro _ w1 ⟨rfl, hk⟩
    have HK1 := hidE hk
    clear hk
    go_wp2
    go_ret
    rw [HV.out]
    exact ⟨rfl, HK1.out.alloc _⟩
  | some x =>
    have hx := ownedL_mem hq
    obtain ⟨o1, o2, o3⟩ := (HH.out.fb x hx).ones
    have HV : Hid (asksB l ex = (x.1.fin == 4)) := hidE (by unfold asksB; rw [hq])
    rw [ownedV_yes hq] at HO
    obtain ⟨fp, ⟨bv, rv, fv⟩⟩ := x
    obtain ⟨gl, hgl⟩ : ∃ g, (Value.bool (!fp.live)) = .bool g := ⟨_, rfl⟩
    simp only at o1 o2 o3
    clear hq hx
    simp only [laidV, hgl] at *
    go_enter Tryz.func39, Tryz.ntmps39
    go_wp2_with fail
    refine HO.out.mono ?_
    rintro _ w1 ⟨rfl, hk⟩
    have HK1 := hidE hk
    clear hk
    go_wp2
    go_ret
    rw [HV.out]
    exact ⟨rfl, HK1.out.alloc _⟩
/-- A block's exits, their numbers. -/
def exitsL (l : List Fb) (k : Int × Int) : List Int := match idxL (pl l) k with | some j => (match l[j]? with | some x => (exL x.1.rs).map (·.ex) | none => []) | none => []
set_option maxRecDepth 100000 in
set_option maxHeartbeats 2000000 in
theorem cs_exits (h : IsCache w N cb R M V l hi mi) (k1 k2 : Int) (hbd : ∀ x ∈ l, x.1.rs.length ≤ 5000) :
    Calls Tryz.prog 12 #[.pointer (some ⟨cb, 0, none⟩), .agg #[.int .u32 k1, .int .u32 k2]] w fun e w' => ∃ v, e = .returned v ∧ RowI w' w.heap.size v (exitsL l (k1, k2)) ∧ Same w w' := by
  have k0 := (Keeps.refl (fun _ => False) w).alloc (.cells #[.int .u32 k1, .int .u32 k2] 31)
  have b3 := block_new w (.cells #[.int .u32 k1, .int .u32 k2] 31)
  have h := h.same k0
  have HN := hidE (cs_none h)
  have HL := hidE (h.look k1 k2)
  have HH := hidE h
  have HK0 := hidE k0
  have HB3 := hidE b3
  clear k0 b3
  cases hq : idxL (pl l) (k1, k2) with
  | none =>
    have HE : Hid (exitsL l (k1, k2) = []) := hidE (by unfold exitsL; rw [hq])
    rw [hq] at HL
    simp only [Option.getD_none, Option.isSome_none] at HL
    clear h hq
    go_enter Tryz.func12, Tryz.ntmps12
    go_wp2_with fail
    refine HN.out.mono ?_
    rintro _ w1 ⟨rfl, rfl⟩
    go_wp2_with fail
    refine wp_region_ra [0, 1, 2, 3, 4, 5, 6, 7, 8, 9, 10] [] 0 (Same _) (by kernel_rfl) (by kernel_rfl) (fun u u' h k => Keeps.trans h k) (Keeps.refl _ _).drew ?_; simp only [opsOf, List.filterMap_cons, List.filterMap_nil, List.getElem?_cons_zero, List.getElem?_cons_succ]
    repeat (first | (refine seqV_run (v := ?_) rfl (fun u hu => ?_) ?_; rotate_left; (focus (have d1 := (HH.out.same hu).c 2; have d2 := cell_of (hu.get HB3.out id); have d3 := HL.out _ hu; simp only [cacheA] at d1; clear hu; go_simp; first | done | with_reducible rfl)); (try simp only [Act.put, List.setIfInBounds_toArray, List.set_cons_zero, List.set_cons_succ])) | (refine seqV_no rfl ?_; (try simp only [Act.put, List.setIfInBounds_toArray, List.set_cons_zero, List.set_cons_succ])))
    refine seqV_nil ?_
    refine tailR_zero fun u5 hu _ => ?_
    (try simp only [Act.put, List.setIfInBounds_toArray, List.set_cons_zero, List.set_cons_succ])
    have HK5 := hidE (HK0.out.trans hu)
    clear hu
    go_wp2
    go_ret
    rw [HE.out]
    exact ⟨_, rfl, World.ownsRow_nil _ _ _ _, HK5.out⟩
  | some j =>
    obtain ⟨f, hf, -⟩ := idxL_some hq
    obtain ⟨x, hx, rfl⟩ := pl_at hf
    have hjl : j < l.length := (List.getElem?_eq_some_iff.1 hx).1
    have HE : Hid (exitsL l (k1, k2) = (exL x.1.rs).map (·.ex)) := hidE (by unfold exitsL; rw [hq]; simp only [hx])
    obtain ⟨g, cap, e, c1, c2, hc⟩ := h.bk hx
    have hmem := List.mem_of_getElem? hx
    obtain ⟨-, ⟨B, hr⟩, -, -⟩ := h.fb x hmem
    have hrl := hbd x hmem
    rw [hq] at HL
    simp only [Option.getD_some, Option.isSome_some] at HL
    have a4 := hc 4 _ rfl
    have HA4 := hidE a4
    have HR := hidE hr
    have q1 : (0 : Int) ≤ (j : Int) := by omega
    have q2 : (j : Int) < (l.length : Int) := by omega
    clear h hq hf hbd hc hr a4
    go_enter Tryz.func12, Tryz.ntmps12
    go_wp2_with fail
    refine HN.out.mono ?_
    rintro _ w1 ⟨rfl, rfl⟩
    go_wp2_with fail
    refine wp_region_ra [0, 1, 2, 3, 4, 5, 6, 7, 8, 9, 10] [] 0 (Same _) (by kernel_rfl) (by kernel_rfl) (fun u u' h k => Keeps.trans h k) (Keeps.refl _ _).drew ?_; simp only [opsOf, List.filterMap_cons, List.filterMap_nil, List.getElem?_cons_zero, List.getElem?_cons_succ]
    repeat (first | (refine seqV_run (v := ?_) rfl (fun u hu => ?_) ?_; rotate_left; (focus (have d1 := (HH.out.same hu).c 2; have d2 := cell_of (hu.get HB3.out id); have d3 := HL.out _ hu; simp only [cacheA] at d1; clear hu; go_simp; first | done | with_reducible rfl)); (try simp only [Act.put, List.setIfInBounds_toArray, List.set_cons_zero, List.set_cons_succ])) | (refine seqV_no rfl ?_; (try simp only [Act.put, List.setIfInBounds_toArray, List.set_cons_zero, List.set_cons_succ])))
    refine seqV_nil ?_
    refine tailR_zero fun u5 hu _ => ?_
    (try simp only [Act.put, List.setIfInBounds_toArray, List.set_cons_zero, List.set_cons_succ])
    have d1 := (HH.out.same hu).c 1
    have d4 := cell_same1 hu HA4.out
    have HR5 := hidE (owns_apart HR.out hu (fun _ _ => id))
    have HK5 := hidE (HK0.out.trans hu)
    simp only [cacheA, e] at d1
    clear hu
    go_wp2_with fail
    refine (exits_any u5 B _ _ HR5.out hrl).mono ?_
    rintro _ w6 ⟨v6, rfl, h6, hk6⟩
    have hle := exL_le x.1.rs
    generalize exL x.1.rs = E at h6 hle HE
    have hle5 : E.length ≤ 5000 := by omega
    have HX6 := hidE h6
    have HK6 := hidE (HK5.out.trans hk6)
    obtain ⟨p6, cp6, rfl⟩ := owns_slice h6
    clear h6 hk6 d1 d4
    clear hle hrl HA4 HR HH HL HN HB3 HK5 HR5
    go_wp2_with fail
    go_loopw [7, 34] (fun t7 t34 wr => ∃ (k : Nat) (v' : Value), k ≤ E.length ∧ t34 = .int .i64 (k : Int) ∧ t7 = v' ∧ RowI wr w6.heap.size v' ((E.take k).map (·.ex)) ∧ Same w6 wr) (fun _ t34 _ => (E.length - intOf t34).toNat)
    case atStart => exact ⟨0, _, by omega, rfl, rfl, World.ownsRow_nil _ _ _ _, Keeps.refl _ _⟩
    case round =>
      obtain ⟨k, v', hk, rfl, rfl, h1, h2⟩ := hrel
      have HW := hidE h2
      have hlm : ((E.take k).map (·.ex)).length = k := by simp; omega
      obtain ⟨p', c', e9⟩ := rowI_sl h1
      rw [hlm] at e9
      subst e9
      have HV := hidE h1
      clear h1 h2
      by_cases hlt : k < E.length
      · have q0 : decide ((k : Int) < (E.length : Int)) = true := decide_eq_true (by omega)
        have q1 : (k : Int) < (E.length : Int) := by omega
        have e1 := wrapI ((k : Int) + 1) (by omega) (by omega)
        obtain ⟨r, hr⟩ : ∃ r, E[k]? = some r := ⟨_, List.getElem?_eq_getElem hlt⟩
        have het : E.take (k + 1) = E.take k ++ [r] := by rw [List.take_add_one, hr]; rfl
        obtain ⟨g, c2, e, n1, hc⟩ := rowsR_cells (owns_apart HX6.out HW.out (fun _ _ => id)) hr
        cases e
        have a0 := hc 0 _ rfl
        have a1 := hc 1 _ rfl
        have a2 := hc 2 _ rfl
        have a3 := hc 3 _ rfl
        simp only [Nat.add_zero] at a0
        have hz := HW.out.size
        have hz6 := HK6.out.size
        have k1 := ((Keeps.refl (fun _ => False) wr).alloc (.cells #[.int .i64 r.off, .int .u32 r.pc, .int .i64 r.dn, .int .i64 r.ex] 49)).alloc (.cells #[.int .i64 r.ex] 3)
        obtain ⟨g2, cap2, w2, hr2, h3, h4, -⟩ := rowI_push (owns_apart HV.out k1 (fun _ _ => id)) (wr.heap.size + 1) r.ex (block_atR _ (by simp)) (by simp only [List.length_map, List.length_take]; omega) (by simp; omega)
        have H3 := hidE h3
        have HV' := hidE HV.out
        have H4 := hidE (same_then (HW.out.trans k1) h4 (fun b e => by
          have := (rowI_lt (owns_apart HV.out k1 (fun _ _ => id)) b e).1
          omega))
        rw [hlm] at hr2 H3
        clear h3 h4 hz hz6 hc k1 hlm
        go_wp2_with (at_builtin; refine wpList_app rfl (.tmp 38) (.tmp 41) 34 rfl rfl rfl hr2 ?_; clear hr2)
        refine ⟨⟨k + 1, _, by omega, by simp, rfl, ?_, H4.out⟩, by simp only [intOf]; omega⟩
        rw [het, List.map_append]
        exact H3.out
      · obtain rfl : k = E.length := by omega
        have q0 : decide ((E.length : Int) < (E.length : Int)) = false := by simp
        go_wp2
        go_ret
        rw [HE.out]
        have hv := HV.out
        rw [List.take_length] at hv
        exact ⟨_, rfl, owns_mono (by simpa [RowI] using hv) HK6.out.size, HK6.out.trans HW.out⟩
end
end Go.Proofs.YtomphgpplbekiaaGreat
namespace Go.Proofs.YtomphgpplbekiaaGreat
open Go.RowKit
attribute [local go_sem ↓] Go.wp_at_zero Go.wp_at_succ

def rwV (r : Rw) : Value := .agg #[.int .i64 r.off, .int .u32 r.pc, .int .i64 r.dn, .int .i64 r.ex]
def lastV (rs : List Rw) (n : Nat) : Value := match n with
  | 0 => .tuple #[.agg rowZ, .bool false]
  | k + 1 => match rs[k]? with
    | some r => .tuple #[rwV r, .bool true]
    | none => .tuple #[.agg rowZ, .bool false]
def findV (rs : List Rw) (off : Int) : Value := match rs.find? (fun r => r.off == off) with
  | some r => .tuple #[rwV r, .bool true]
  | none => .tuple #[.agg rowZ, .bool false]
section
attribute [local go_sem ↓] x_stKy x_stRw x_stLd x_stOu x_stRb x_stCd x_stBk x_stLk
attribute [local go_sem] st_Ky st_Rw st_Ld st_Ou st_Rb st_Cd st_Bk st_Lk ne_s1 en_s1 ne_s2 en_s2 ne_s3 en_s3 ne_s4 en_s4 ne_s5 en_s5 ne_s6 en_s6 ne_s7 en_s7 ne_s8 en_s8 lt_s2 lt_s3 lt_s4 lt_s5 lt_s6 lt_s7 lt_s8 rowAt_at rowAt_old rowAt_drew rowAt_drewN setRow_drew setRow_at setRow_old setRow_setRow rowAt_setRow_eq rowAt_setRow_ne cell_setRow_eq cell_setRow_ne frozen_setRow_eq frozen_setRow_ne ones_lit oc_int oc_bool oc_str oc_ptr oc_sl oc_map oc_fn oc_nf oc_ni oc_if
set_option maxRecDepth 100000 in
theorem last_any (w : World) (B : Nat) (v : Value) (rs : List Rw) (h : RowR w B v rs) (hr : RiseR rs) (hl : rs.length ≤ 100000) (off : Int) :
    Calls Tryz.prog 82 #[v, .int .i64 off] w fun e w' => ∃ n : Nat, n ≤ rs.length ∧ e = .returned (lastV rs n) ∧ (∀ k r, rs[k]? = some r → k < n → r.off ≤ off) ∧ (∀ k r, rs[k]? = some r → n ≤ k → off < r.off) ∧ Same w w' := by
  have k0 := (Keeps.refl (fun _ => False) w).alloc (.cells rowZ 49)
  have b0 := block_new w (.cells rowZ 49)
  have hR := owns_apart h k0 (fun _ _ => id)
  have HB := hidE (behind_any _ B v rs hR hr hl off)
  have HR := hidE hR
  have HK0 := hidE k0
  have HB0 := hidE b0
  obtain ⟨p, c, rfl⟩ := owns_slice h
  clear h k0 b0 hR
  simp only [rowZ] at *
  go_enter Tryz.func82, Tryz.ntmps82
  go_wp2_with fail
  refine HB.out.mono ?_
  rintro _ w1 ⟨n, hn, rfl, h1, h2, hk⟩
  have H1 := hidE h1
  have H2 := hidE h2
  have r0 := rowAt_of (hk.get HB0.out id)
  have l0 := lt_of_block (hk.get HB0.out id)
  have HK1 := hidE (HK0.out.trans hk)
  have HR1 := hidE (owns_apart HR.out hk (fun _ _ => id))
  clear h1 h2 hk
  by_cases hz : n = 0
  · subst hz
    go_wp2
    refine post_row1 (v := .bool false) rfl Tryz.underlying49 rfl infoRw rfl rfl rfl (by go_simp; rfl) rfl ?_
    exact ⟨0, by omega, rfl, H1.out, H2.out, HK1.out.setRow (fun h => absurd h (Nat.lt_irrefl _)) _⟩
  · obtain ⟨k, rfl⟩ : ∃ k, n = k + 1 := ⟨n - 1, by omega⟩
    have q0 : ((((k + 1 : Nat) : Int)) == 0) = false := beq_eq_false_iff_ne.2 (by omega)
    have q0' : (((k : Int) + 1) == 0) = false := beq_eq_false_iff_ne.2 (by omega)
    have e1 := wrapI (((k : Int) + 1) - 1) (by omega) (by omega)
    have e1' : (k : Int) + 1 - 1 = k := by omega
    have q1 : (0 : Int) ≤ (k : Int) := by omega
    have q2 : (k : Int) < (rs.length : Int) := by omega
    obtain ⟨r, hrk⟩ : ∃ r, rs[k]? = some r := ⟨_, List.getElem?_eq_getElem (by omega)⟩
    obtain ⟨g, c2, e, n1, hc⟩ := rowsR_cells HR1.out hrk
    cases e
    have a0 := hc 0 _ rfl
    have a1 := hc 1 _ rfl
    have a2 := hc 2 _ rfl
    have a3 := hc 3 _ rfl
    simp only [Nat.add_zero] at a0
    have HV : Hid (lastV rs (k + 1) = .tuple #[rwV r, .bool true]) := hidE (by simp only [lastV, hrk])
    clear hc hrk
    go_wp2
    refine post_row1 (v := .bool true) rfl Tryz.underlying49 rfl infoRw rfl rfl rfl (by go_simp; rfl) rfl ?_
    exact ⟨k + 1, hn, by rw [HV.out]; rfl, H1.out, H2.out, HK1.out.setRow (fun h => absurd h (Nat.lt_irrefl _)) _⟩
theorem find_off {rs : List Rw} (hr : RiseR rs) {k : Nat} {r : Rw} (h : rs[k]? = some r) : rs.find? (fun x => x.off == r.off) = some r := by
  rw [List.find?_eq_some_iff_getElem]
  have hlt : k < rs.length := (List.getElem?_eq_some_iff.1 h).1
  refine ⟨by simp, k, hlt, (List.getElem?_eq_some_iff.1 h).2, fun j hj => ?_⟩
  have := riseR_at hr (List.getElem?_eq_getElem (by omega : j < rs.length)) h hj
  simp only [Bool.not_eq_true', beq_eq_false_iff_ne, ne_eq]
  omega
theorem find_none_off {rs : List Rw} {off : Int} (h : ∀ r ∈ rs, r.off ≠ off) : rs.find? (fun x => x.off == off) = none := by
  rw [List.find?_eq_none]
  intro r hr
  simpa using h r hr
set_option maxRecDepth 100000 in
theorem rfind_any (w : World) (B : Nat) (v : Value) (rs : List Rw) (h : RowR w B v rs) (hr : RiseR rs) (hl : rs.length ≤ 100000) (off : Int) :
    Calls Tryz.prog 54 #[v, .int .i64 off] w fun e w' => e = .returned (findV rs off) ∧ Same w w' := by
  have k0 := (Keeps.refl (fun _ => False) w).alloc (.cells rowZ 49)
  have b0 := block_new w (.cells rowZ 49)
  have hR := owns_apart h k0 (fun _ _ => id)
  have HL := hidE (last_any _ B v rs hR hr hl off)
  have HK0 := hidE k0
  have HB0 := hidE b0
  obtain ⟨p, c, rfl⟩ := owns_slice h
  clear h k0 b0 hR
  simp only [rowZ] at *
  go_enter Tryz.func54, Tryz.ntmps54
  go_wp2_with fail
  refine HL.out.mono ?_
  rintro _ w1 ⟨n, hn, rfl, h1, h2, hk⟩
  have r0 := rowAt_of (hk.get HB0.out id)
  have l0 := lt_of_block (hk.get HB0.out id)
  have HK1 := hidE (HK0.out.trans hk)
  clear hk HL
  cases n with
  | zero =>
    have HV : Hid (findV rs off = .tuple #[.agg rowZ, .bool false]) := hidE (by
      unfold findV
      rw [find_none_off fun r hr => by
        obtain ⟨k, hk, rfl⟩ := List.getElem_of_mem hr
        have := h2 k _ (List.getElem?_eq_getElem hk) (Nat.zero_le _)
        omega])
    simp only [lastV, rowZ]
    clear h1 h2
    go_wp2
    refine post_row1 (v := .bool false) rfl Tryz.underlying49 rfl infoRw rfl rfl rfl (by go_simp; rfl) rfl ?_
    rw [HV.out]
    exact ⟨rfl, (HK1.out.setRow (fun h => absurd h (Nat.lt_irrefl _)) _).alloc _⟩
  | succ k =>
    obtain ⟨r, hrk⟩ : ∃ r, rs[k]? = some r := ⟨_, List.getElem?_eq_getElem (by omega)⟩
    have hle := h1 k r hrk (by omega)
    simp only [lastV, hrk, rwV]
    by_cases he : r.off = off
    · have HV : Hid (findV rs off = .tuple #[rwV r, .bool true]) := hidE (by unfold findV; rw [← he, find_off hr hrk])
      subst he
      have q0 : (r.off != r.off) = false := by simp
      clear h1 h2 hrk hle
      go_wp2
      refine post_row1 (v := .bool true) rfl Tryz.underlying49 rfl infoRw rfl rfl rfl (by go_simp; rfl) rfl ?_
      rw [HV.out]
      exact ⟨rfl, (HK1.out.setRow (fun h => absurd h (Nat.lt_irrefl _)) _).alloc _⟩
    · have HV : Hid (findV rs off = .tuple #[.agg rowZ, .bool false]) := hidE (by
        unfold findV
        rw [find_none_off fun x hx => by
          obtain ⟨j, hj, rfl⟩ := List.getElem_of_mem hx
          rcases Nat.lt_trichotomy j k with h | h | h
          · have := riseR_at hr (List.getElem?_eq_getElem hj) hrk h; omega
          · subst h
            rw [List.getElem?_eq_getElem hj] at hrk
            rw [Option.some.inj hrk]; exact he
          · have := h2 j _ (List.getElem?_eq_getElem hj) (by omega); omega])
      have q0 : (r.off != off) = true := bne_iff_ne.2 he
      have q1 : (r.off == off) = false := beq_eq_false_iff_ne.2 he
      clear h1 h2 hrk hle
      go_wp2
      refine post_row1 (v := .bool false) rfl Tryz.underlying49 rfl infoRw rfl rfl rfl (by go_simp; rfl) rfl ?_
      rw [HV.out]
      exact ⟨rfl, (HK1.out.setRow (fun h => absurd h (Nat.lt_irrefl _)) _).alloc _⟩
end
end Go.Proofs.YtomphgpplbekiaaGreat
namespace Go.Proofs.YtomphgpplbekiaaGreat
open Go.RowKit
attribute [local go_sem ↓] Go.wp_at_zero Go.wp_at_succ

/-- The blocks' places rise. -/
def RiseP (l : List Fb) : Prop := l.Pairwise (fun a b => a.1.pos < b.1.pos)
theorem riseP_at {l : List Fb} (h : RiseP l) {i j : Nat} {a b : Fb} (hi : l[i]? = some a) (hj : l[j]? = some b) (hlt : i < j) : a.1.pos < b.1.pos := by
  have h1 := (List.getElem?_eq_some_iff.1 hi).1
  have h2 := (List.getElem?_eq_some_iff.1 hj).1
  have h3 := List.pairwise_iff_getElem.1 h i j h1 h2 hlt
  rw [(List.getElem?_eq_some_iff.1 hi).2, (List.getElem?_eq_some_iff.1 hj).2] at h3
  exact h3
section
variable {w w' : World} {N cb : Nat} {R : RamAt} {M : List Int} {V : CV} {l : List Fb} {hi mi : Int}
theorem at1_any (h : IsCache w N cb R M V l hi mi) (off : Int) (b1 b2 : Nat) (h1 : w.heap[b1]? = some (.cells #[.pointer (some ⟨cb, 0, none⟩)] 23 (0, 0))) (h2 : w.heap[b2]? = some (.cells #[.int .i64 off] 3 (0, 0))) (k : Nat) (x : Fb) (hx : l[k]? = some x) :
    Calls Tryz.prog 53 #[.int .i64 (k : Int), .pointer (some ⟨b1, 0, none⟩), .pointer (some ⟨b2, 0, none⟩)] w fun e w' => e = .returned (.bool (decide (off < x.1.pos))) ∧ Same w w' := by
  obtain ⟨g, cap, e, n1, n2, hc⟩ := h.bk hx
  have hlt : k < l.length := (List.getElem?_eq_some_iff.1 hx).1
  have a2 := hc 2 _ rfl
  have HA := hidE a2
  have HB1 := hidE h1
  have HB2 := hidE h2
  have HH := hidE h
  have q1 : (0 : Int) ≤ (k : Int) := by omega
  have q2 : (k : Int) < (l.length : Int) := by omega
  clear h hc a2 h1 h2
  go_enter Tryz.func53, Tryz.ntmps53
  go_wp2_with fail
  refine wp_region_ra [0, 1, 2, 3, 4, 5, 6, 7, 8, 9] [10] 0 (Same _) (by kernel_rfl) (by kernel_rfl) (fun u u' h k => Keeps.trans h k) (Keeps.refl _ _).drew ?_; simp only [opsOf, List.filterMap_cons, List.filterMap_nil, List.getElem?_cons_zero, List.getElem?_cons_succ]
  repeat (first | (refine seqV_run (v := ?_) rfl (fun u hu => ?_) ?_; rotate_left; (focus (have d1 := (HH.out.same hu).c 1; have d2 := cell_of (hu.get HB1.out id); have d3 := cell_of (hu.get HB2.out id); have d4 := cell_same1 hu HA.out; simp only [cacheA, e] at d1; clear hu; go_simp; first | done | with_reducible rfl)); (try simp only [Act.put, List.setIfInBounds_toArray, List.set_cons_zero, List.set_cons_succ])) | (refine seqV_no rfl ?_; (try simp only [Act.put, List.setIfInBounds_toArray, List.set_cons_zero, List.set_cons_succ])))
  refine seqV_nil ?_
  refine tailR_zero fun u5 hu _ => ?_
  (try simp only [Act.put, List.setIfInBounds_toArray, List.set_cons_zero, List.set_cons_succ])
  have HU := hidE hu
  clear hu
  go_wp2
  go_ret
  exact ⟨rfl, HU.out⟩
def at0 : Value := .tuple #[.agg keyZ, .agg rowZ, .bool false]
def atV (l : List Fb) (off : Int) (r : Nat) : Value := match r with
  | 0 => at0
  | k + 1 => match l[k]? with
    | some x => if x.1.live then (match x.1.rs.find? (fun q => q.off == off - x.1.pos) with
      | some q => .tuple #[.agg #[.int .u32 x.1.k1, .int .u32 x.1.k2], rwV q, .bool true]
      | none => at0) else at0
    | none => at0
attribute [local go_sem ↓] x_stKy x_stRw x_stLd x_stOu x_stRb x_stCd x_stBk x_stLk
attribute [local go_sem] st_Ky st_Rw st_Ld st_Ou st_Rb st_Cd st_Bk st_Lk ne_s1 en_s1 ne_s2 en_s2 ne_s3 en_s3 ne_s4 en_s4 ne_s5 en_s5 ne_s6 en_s6 ne_s7 en_s7 ne_s8 en_s8 lt_s2 lt_s3 lt_s4 lt_s5 lt_s6 lt_s7 lt_s8 rowAt_at rowAt_old rowAt_drew rowAt_drewN setRow_drew setRow_at setRow_old setRow_setRow rowAt_setRow_eq rowAt_setRow_ne cell_setRow_eq cell_setRow_ne frozen_setRow_eq frozen_setRow_ne ones_lit oc_int oc_bool oc_str oc_ptr oc_sl oc_map oc_fn oc_nf oc_ni oc_if
set_option maxRecDepth 100000 in
set_option maxHeartbeats 4000000 in
theorem cs_at (h : IsCache w N cb R M V l hi mi) (off : Int) (f0 : -9223372036854775808 ≤ off) (f1 : off ≤ 9223372036854775807) (hll : l.length ≤ 10000) (hrp : RiseP l) (hb : ∀ x ∈ l, 0 ≤ x.1.pos ∧ x.1.pos ≤ 1000000 ∧ x.1.rs.length ≤ 5000 ∧ RiseR x.1.rs) :
    Calls Tryz.prog 15 #[.pointer (some ⟨cb, 0, none⟩), .int .i64 off] w fun e w' => ∃ r : Nat, r ≤ l.length ∧ e = .returned (atV l off r) ∧ (∀ k x, l[k]? = some x → k < r → x.1.pos ≤ off) ∧ (∀ k x, l[k]? = some x → r ≤ k → off < x.1.pos) ∧ Same w w' := by
  obtain ⟨p1, c1, ebl⟩ := h.bl_sl
  obtain ⟨W, hW⟩ : ∃ W, (((w.alloc (.cells #[.pointer (some ⟨cb, 0, none⟩)] 23)).alloc (.cells #[.int .i64 off] 3)).alloc (.cells #[.int .u32 0, .int .u32 0] 31)).alloc (.cells #[.int .i64 0, .int .u32 0, .int .i64 0, .int .i64 0] 49) = W := ⟨_, rfl⟩
  have B0 : Hid (W.heap[w.heap.size]? = some (.cells #[.pointer (some ⟨cb, 0, none⟩)] 23 (0, 0))) := hidE (by rw [← hW]; exact block_old _ (block_old _ (block_old _ (block_new _ _))))
  have B1 : Hid (W.heap[w.heap.size + 1]? = some (.cells #[.int .i64 off] 3 (0, 0))) := hidE (by rw [← hW]; exact block_old _ (block_old _ (block_atR _ (by simp))))
  have B2 : Hid (W.heap[w.heap.size + 1 + 1]? = some (.cells #[.int .u32 0, .int .u32 0] 31 (0, 0))) := hidE (by rw [← hW]; exact block_old _ (block_atR _ (by simp)))
  have B3 : Hid (W.heap[w.heap.size + 1 + 1 + 1]? = some (.cells #[.int .i64 0, .int .u32 0, .int .i64 0, .int .i64 0] 49 (0, 0))) := hidE (by rw [← hW]; exact block_atR _ (by simp))
  have HK0 : Hid (Same w W) := hidE (by rw [← hW]; exact ((((Keeps.refl _ _).alloc _).alloc _).alloc _).alloc _)
  have HH := hidE (h.same HK0.out)
  have HN := hidE (cs_none HH.out)
  have HS := hidE (search_any 53 #[.pointer (some ⟨w.heap.size, 0, none⟩), .pointer (some ⟨w.heap.size + 1, 0, none⟩)] (enters_of Tryz.func53 (by kernel_rfl) rfl) W l.length (by omega) (fun k => decide (∃ x, l[k]? = some x ∧ off < x.1.pos)) (fun i j hij hj hp => by
      simp only [decide_eq_true_eq] at hp ⊢
      obtain ⟨x, hx, ho⟩ := hp
      rcases Nat.lt_or_eq_of_le hij with h1 | h1
      · have := riseP_at hrp hx (List.getElem?_eq_getElem hj) h1
        exact ⟨_, List.getElem?_eq_getElem hj, by omega⟩
      · subst h1; exact ⟨x, hx, ho⟩)
    (fun u hu k hk => by
      have := at1_any (HH.out.same hu) off w.heap.size (w.heap.size + 1) (hu.get B0.out id) (hu.get B1.out id) k l[k] (List.getElem?_eq_getElem hk)
      have e : (decide (∃ x, l[k]? = some x ∧ off < x.1.pos)) = decide (off < l[k].1.pos) := by
        simp [List.getElem?_eq_getElem hk]
      simp only [e]
      exact this))
  have d1 := HH.out.c 1
  simp only [cacheA, ebl] at d1
  have c0 := cell_of B0.out
  clear h
  go_enter Tryz.func15, Tryz.ntmps15
  go_wp2_with fail
  try rw [hW]
  refine HN.out.mono ?_
  rintro _ w1 ⟨rfl, rfl⟩
  clear hW
  go_wp2_with fail
  refine HS.out.mono ?_
  rintro _ w2 ⟨r, hr, rfl, h1, h2, hk⟩
  have H1 : Hid (∀ k x, l[k]? = some x → k < r → x.1.pos ≤ off) := hidE fun k x hx hlt => by
    have := h1 k hlt
    simp only [decide_eq_false_iff_not, not_exists, not_and] at this
    have := this x hx
    omega
  have H2 : Hid (∀ k x, l[k]? = some x → r ≤ k → off < x.1.pos) := hidE fun k x hx hle => by
    have := h2 k hle (List.getElem?_eq_some_iff.1 hx).1
    simp only [decide_eq_true_eq] at this
    obtain ⟨y, hy, ho⟩ := this
    rw [hx] at hy
    cases hy
    exact ho
  have HK2 := hidE (HK0.out.trans hk)
  have HH2 := hidE (HH.out.same hk)
  have C0 := hidE (hk.get B0.out id)
  have C1 := hidE (hk.get B1.out id)
  have C2 := hidE (hk.get B2.out id)
  have C3 := hidE (hk.get B3.out id)
  have r2 := rowAt_of C2.out
  have r3 := rowAt_of C3.out
  have l2 := lt_of_block C2.out
  have l3 := lt_of_block C3.out
  clear h1 h2 hk HN HS HK0 B0 B1 B2 B3 c0 d1
  have hno : ∀ w9, atV l off r = at0 → Same w w9 → ∃ r0 : Nat, r0 ≤ l.length ∧ (Ending.returned (.tuple #[.agg #[.int .u32 0, .int .u32 0], .agg #[.int .i64 0, .int .u32 0, .int .i64 0, .int .i64 0], .bool false])) = .returned (atV l off r0) ∧ (∀ k x, l[k]? = some x → k < r0 → x.1.pos ≤ off) ∧ (∀ k x, l[k]? = some x → r0 ≤ k → off < x.1.pos) ∧ Same w w9 := fun w9 e hk => ⟨r, hr, by rw [e]; rfl, H1.out, H2.out, hk⟩
  have HNO := hidE hno
  clear hno
  cases r with
  | zero =>
    have e1 : IntKind.i64.wrap (-1) = -1 := by decide
    have HV : Hid (atV l off 0 = at0) := hidE rfl
    go_wp2
    refine post_cct (v := .bool false) rfl Tryz.underlying31 rfl (n := 1) (by kernel_rfl) Tryz.underlying49 rfl (n' := 3) (by kernel_rfl) rfl rfl rfl rfl (by go_simp; rfl) (by go_simp; rfl) rfl rfl ?_
    exact HNO.out _ HV.out ((HK2.out.setRow (fun h => absurd h (by omega)) _).setRow (fun h => absurd h (by omega)) _)
  | succ k =>
    obtain ⟨x, hx⟩ : ∃ x, l[k]? = some x := ⟨_, List.getElem?_eq_getElem (by omega)⟩
    have hxm := List.mem_of_getElem? hx
    obtain ⟨p0, p1b, hrl, hrr⟩ := hb x hxm
    obtain ⟨g, cap, e, n1, n2, hc⟩ := HH2.out.bk hx
    rw [ebl] at e
    cases e
    have e1 := wrapI (k : Int) (by omega) (by omega)
    have e1' : (k : Int) + 1 - 1 = k := by omega
    have q0 : decide ((k : Int) < 0) = false := decide_eq_false (by omega)
    have q1 : (0 : Int) ≤ (k : Int) := by omega
    have q2 : (k : Int) < (l.length : Int) := by omega
    have a7 := hc 7 _ rfl
    have d1 := HH2.out.c 1
    simp only [cacheA, ebl] at d1
    have c0 := cell_of C0.out
    have HC := hidE hc
    clear hc
    cases hlv : x.1.live with
    | false =>
      rw [hlv] at a7
      simp only [Bool.not_false] at a7
      have HV : Hid (atV l off (k + 1) = at0) := hidE (by simp [atV, hx, hlv])
      clear hx
      go_wp2
      refine post_cct (v := .bool false) rfl Tryz.underlying31 rfl (n := 1) (by kernel_rfl) Tryz.underlying49 rfl (n' := 3) (by kernel_rfl) rfl rfl rfl rfl (by go_simp; rfl) (by go_simp; rfl) rfl rfl ?_
      exact HNO.out _ HV.out ((HK2.out.setRow (fun h => absurd h (by omega)) _).setRow (fun h => absurd h (by omega)) _)
    | true =>
      rw [hlv] at a7
      simp only [Bool.not_true] at a7
      have hpo := H1.out k x hx (by omega)
      have e2 := wrapI (off - x.1.pos) (by omega) (by omega)
      obtain ⟨-, ⟨B, hrow⟩, -, -⟩ := HH2.out.fb x hxm
      have HR := hidE hrow
      obtain ⟨qo, qp, qd, qe, bb, hfv, hfa⟩ : ∃ qo qp qd qe bb, findV x.1.rs (off - x.1.pos) = .tuple #[.agg #[.int .i64 qo, .int .u32 qp, .int .i64 qd, .int .i64 qe], .bool bb] ∧ atV l off (k + 1) = (if bb then .tuple #[.agg #[.int .u32 x.1.k1, .int .u32 x.1.k2], .agg #[.int .i64 qo, .int .u32 qp, .int .i64 qd, .int .i64 qe], .bool true] else at0) := by
        cases hf : x.1.rs.find? (fun q => q.off == off - x.1.pos) with
        | some q => exact ⟨q.off, q.pc, q.dn, q.ex, true, by simp [findV, hf, rwV], by simp [atV, hx, hlv, hf, rwV]⟩
        | none => exact ⟨0, 0, 0, 0, false, by simp [findV, hf, rowZ], by simp [atV, hx, hlv, hf]⟩
      have HFA := hidE hfa
      have HFV := hidE hfv
      have hz := HK2.out.size
      clear hfa hfv hrow
      go_wp2_with fail
      refine wp_region_ra [0, 1, 2, 3, 4, 5, 6, 7, 8, 9, 10, 11, 12, 13, 14, 15, 16, 17, 18, 19, 20, 21, 22] [23, 24, 25] 2 (Same w2) (by kernel_rfl) (by kernel_rfl) (fun u u' h k => Keeps.trans h k) (Keeps.refl _ _).drew ?_
      simp only [opsOf, List.filterMap_cons, List.filterMap_nil, List.getElem?_cons_zero, List.getElem?_cons_succ]
      repeat (first | (refine seqV_run (v := ?_) rfl (fun u hu => ?_) ?_; rotate_left; (focus (have d1 := (HH2.out.same hu).c 1; have d2 := cell_of (hu.get C0.out id); have d3 := cell_of (hu.get C1.out id); have d4 := cell_same1 hu (HC.out 2 _ rfl); have d5 := cell_same1 hu (HC.out 4 _ rfl); simp only [cacheA, ebl] at d1; clear hu; go_simp; first | done | with_reducible rfl)); (try simp only [Act.put, List.setIfInBounds_toArray, List.set_cons_zero, List.set_cons_succ])) | (refine seqV_no rfl ?_; (try simp only [Act.put, List.setIfInBounds_toArray, List.set_cons_zero, List.set_cons_succ])))
      (refine seqV_call (f := 54) (args := #[x.2.rv, .int .i64 (off - x.1.pos)]) (v := .tuple #[.agg #[.int .i64 qo, .int .u32 qp, .int .i64 qd, .int .i64 qe], .bool bb]) rfl (fun u hu => ?_) (fun u hu => (rfind_any u B _ x.1.rs (owns_apart HR.out hu (fun _ _ => id)) hrr (by omega) (off - x.1.pos)).mono (by rintro _ _ ⟨rfl, hk⟩; exact ⟨by rw [HFV.out], hk⟩)) ?_; (focus (clear hu; go_simp)); (try simp only [Act.put, List.setIfInBounds_toArray, List.set_cons_zero, List.set_cons_succ]))
      repeat (first | (refine seqV_run (v := ?_) rfl (fun u hu => ?_) ?_; rotate_left; (focus (clear hu; go_simp; first | done | with_reducible rfl)); (try simp only [Act.put, List.setIfInBounds_toArray, List.set_cons_zero, List.set_cons_succ])) | (refine seqV_no rfl ?_; (try simp only [Act.put, List.setIfInBounds_toArray, List.set_cons_zero, List.set_cons_succ])))
      refine seqV_nil ?_
      refine tailR_alloc (t := 49) (Z := #[.int .i64 0, .int .u32 0, .int .i64 0, .int .i64 0]) w2.heap.size rfl (fun _ _ _ _ => trivial) (fun u o h => h.alloc o) (fun u h => h.size) (fun u hu => by clear hu; go_simp) (fun b3 hb3 => ?_)
      (try simp only [Act.put, List.setIfInBounds_toArray, List.set_cons_zero, List.set_cons_succ])
      refine tailR_cons (fun _ u => u.heap[b3]? = some (.cells #[.int .i64 qo, .int .u32 qp, .int .i64 qd, .int .i64 qe] 49 (0, 0))) rfl (fun x u u' h k => k.get h id) (fun u hu hp => ?_) (fun v1 _ => ?_)
      · have hst := stRow_run (P := Tryz.prog) u 49 b3 3 #[.int .i64 qo, .int .u32 qp, .int .i64 qd, .int .i64 qe] infoRw (by rw [rowAt_of hp.2]; rfl) rfl (by simp [Ones, Value.oneCell'])
        have hx : ∀ X : Result Next, X = .ok .skip (u.setRow b3 #[.int .i64 qo, .int .u32 qp, .int .i64 qd, .int .i64 qe]) → stepR Tryz.prog (fun _ u' => Same w2 u' ∧ u'.heap[b3]? = some (.cells #[.int .i64 qo, .int .u32 qp, .int .i64 qd, .int .i64 qe] 49 (0, 0))) X := fun X e => by
          rw [e]
          refine ⟨hu.setRow (fun h => absurd h (by omega)) _, ?_⟩
          simp [World.setRow, Array.getElem?_modify, hp.2]
        exact hx _ hst
      (try simp only [Act.put])
      refine tailR_zero fun u7 hu hp => ?_
      (try simp only [Act.put, List.setIfInBounds_toArray, List.set_cons_zero, List.set_cons_succ])
      have hz7 := hu.size
      have D0 := hidE (hu.get C0.out id)
      have D2 := hidE (hu.get C2.out id)
      have D3 := hidE (hu.get C3.out id)
      have D8 := hidE hp
      have HH7 := hidE (HH2.out.same hu)
      have HK7 := hidE (HK2.out.trans hu)
      have HC7 := hidE (fun i v hv => cell_same1 hu (HC.out i v hv))
      clear r2 r3 l2 l3 hu hp c0 d1 a7 HH2 HK2 HC C0 C1 C2 C3
      have r2 := rowAt_of D2.out
      have r3 := rowAt_of D3.out
      have l2 := lt_of_block D2.out
      have l3 := lt_of_block D3.out
      cases bb with
      | false =>
        go_wp2
        refine post_cct (v := .bool false) rfl Tryz.underlying31 rfl (n := 1) (by kernel_rfl) Tryz.underlying49 rfl (n' := 3) (by kernel_rfl) rfl rfl rfl rfl (by go_simp; rfl) (by go_simp; rfl) rfl rfl ?_
        exact HNO.out _ HFA.out ((HK7.out.setRow (fun h => absurd h (by omega)) _).setRow (fun h => absurd h (by omega)) _)
      | true =>
        go_wp2_with fail
        have hown : some g = V.bl.ownBlock := by rw [ebl]; rfl
        have tB := tg_cells D2.out
        have n1' : w.heap.size ≠ w.heap.size + 1 + 1 := by omega
        have n2' : cb ≠ w.heap.size + 1 + 1 := ne_tg HH7.out.c_.tA.1 tB (by decide)
        have n3' : g ≠ w.heap.size + 1 + 1 := ne_tg (HH7.out.c_.tA.2.2.2.2.2.1 g hown) tB (by decide)
        have n4' : b3 ≠ w.heap.size + 1 + 1 := ne_tg (tg_cells D8.out) tB (by decide)
        have k0 := HC7.out 0 _ rfl
        have k1 := HC7.out 1 _ rfl
        simp only [Nat.add_zero] at k0
        have HK0' := hidE k0
        have HK1' := hidE k1
        clear k0 k1
        refine wp_region_ra [0, 1, 2, 3, 4, 5, 6, 7, 8] [9, 10, 11] 1 (SR u7 (w.heap.size + 1 + 1) 1) (by kernel_rfl) (by kernel_rfl) SR.same (SR.init (by rw [r2]; rfl)) ?_
        simp only [opsOf, List.filterMap_cons, List.filterMap_nil, List.getElem?_cons_zero, List.getElem?_cons_succ]
        repeat (first | (refine seqV_run (v := ?_) rfl (fun u hu => ?_) ?_; rotate_left; (focus (have d1 := cell_of (hu.k.get HH7.out.hb n2'); have d2 := cell_of (hu.k.get D0.out n1'); have d3 := cell_of (hu.k.get D8.out n4'); have d4 := cellK hu.k n3' HK0'.out; have d5 := cellK hu.k n3' HK1'.out; simp only [cacheA, ebl] at d1; clear hu; go_simp; first | done | with_reducible rfl)); (try simp only [Act.put, List.setIfInBounds_toArray, List.set_cons_zero, List.set_cons_succ])) | (refine seqV_no rfl ?_; (try simp only [Act.put, List.setIfInBounds_toArray, List.set_cons_zero, List.set_cons_succ])))
        refine seqV_nil ?_
        refine tailR_row (A := #[.int .u32 x.1.k1, .int .u32 x.1.k2]) rfl rfl (fun u hu => ?_) ?_
        · have hz9 : (rowAt u (w.heap.size + 1 + 1)).size = 2 := hu.z
          clear hu
          go_simp
        (try simp only [Act.put])
        refine tailR_zero fun u9 hu hp => ?_
        (try simp only [Act.put, List.setIfInBounds_toArray, List.set_cons_zero, List.set_cons_succ])
        have r39 : rowAt u9 (w.heap.size + 1 + 1 + 1) = #[.int .i64 0, .int .u32 0, .int .i64 0, .int .i64 0] := (hu.facts.r _ l3 (by omega)).trans r3
        have HK9 := hidE (same_then HK7.out hu.k (fun k e => by subst e; omega))
        have r29 := hp
        clear hu hp r2 r3
        go_wp2
        refine post_cct (v := .bool true) (A := #[.int .u32 x.1.k1, .int .u32 x.1.k2]) (A' := #[.int .i64 qo, .int .u32 qp, .int .i64 qd, .int .i64 qe]) rfl Tryz.underlying31 rfl (n := 1) (by kernel_rfl) Tryz.underlying49 rfl (n' := 3) (by kernel_rfl) rfl rfl rfl rfl (by go_simp) (by go_simp) rfl rfl ?_
        exact ⟨k + 1, hr, by rw [HFA.out]; rfl, H1.out, H2.out, HK9.out.setRow (fun h => absurd h (by omega)) _⟩
end
end Go.Proofs.YtomphgpplbekiaaGreat
