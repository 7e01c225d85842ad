/- A cache: the block of an exit (owned, Asks, Out). -/
import Derived.Test.YtomphgpplbekiaaGreatCnP
import Derived.Test.YtomphgpplbekiaaGreatCmpC
namespace Go.Proofs.YtomphgpplbekiaaGreat
open Go.RowKit
attribute [local go_sem ↓] Go.wp_at_zero Go.wp_at_succ

/-- The live block of an exit. -/
def ownedL (l : List Fb) (e : Int) : Option Fb := if 0 ≤ e then ((ownL (pl l))[e.toNat]?).bind fun n => (l[n.toNat]?).filter fun x => x.1.live else none
theorem ownL_mem {L : List Fp} {j : Nat} {n : Int} (h : (ownL L)[j]? = some n) : 0 ≤ n ∧ n.toNat < L.length := by
  have hm := List.mem_of_getElem? h
  unfold ownL at hm
  rw [List.mem_flatMap] at hm
  obtain ⟨p, hp, hn⟩ := hm
  have := List.eq_of_mem_replicate hn
  subst this
  have h2 := List.mem_zipIdx hp
  omega
theorem cell_same1 {w w' : World} {b o : Nat} {v : Value} (k : Same w w') (h : w.cell? ⟨b, o, none⟩ = some v) : w'.cell? ⟨b, o, none⟩ = some v := cellK k id h
theorem owns_one {w : World} {B e s n : Nat} {v : Value} {xs : List Value} (h : w.ownsRow B e s v n xs) : v.oneCell' = true := by
  obtain ⟨-, ⟨rfl, -⟩ | ⟨g, cap, cur, rfl, -⟩⟩ := h <;> rfl
theorem FbOk.ones {w : World} {x : Fb} (h : FbOk w x) : x.2.bv.oneCell' = true ∧ x.2.rv.oneCell' = true ∧ x.2.fv.oneCell' = true := by
  obtain ⟨⟨_, h1⟩, ⟨_, h2⟩, ⟨a, c, h3, -⟩, -⟩ := h
  exact ⟨owns_one h1, owns_one h2, by rw [h3]; rfl⟩
theorem x_ldLd (ρ : Operand → Value) (dst : Option Tmp) (x : Operand) (ty : TypeId) (pos : String) (after : Array Edge) (guard : Option (Nat × Bool)) :
    execOp ρ { dst, op := .load 112 x, type := ty, pos, after, guard } = ldRow 112 (ρ x) := rfl
section
variable {w w' : World} {N cb : Nat} {R : RamAt} {M : List Int} {V : CV} {l : List Fb} {hi mi : Int}
attribute [local go_sem ↓] x_stKy x_stRw x_stLd x_stOu x_stRb x_stCd x_stBk x_stLk
attribute [local go_sem] st_Ky st_Rw st_Ld st_Ou st_Rb st_Cd st_Bk st_Lk ne_s1 en_s1 ne_s2 en_s2 ne_s3 en_s3 ne_s4 en_s4 ne_s5 en_s5 ne_s6 en_s6 ne_s7 en_s7 ne_s8 en_s8 lt_s2 lt_s3 lt_s4 lt_s5 lt_s6 lt_s7 lt_s8 rowAt_at rowAt_old rowAt_drew rowAt_drewN setRow_drew setRow_at setRow_old setRow_setRow rowAt_setRow_eq rowAt_setRow_ne cell_setRow_eq cell_setRow_ne frozen_setRow_eq frozen_setRow_ne ones_lit oc_int oc_bool oc_str oc_ptr oc_sl oc_map oc_fn oc_nf oc_ni oc_if
attribute [local go_sem ↓] x_ldLd
def laidV (x : Fb) : Value := .agg #[.int .u32 x.1.k1, .int .u32 x.1.k2, .int .i64 x.1.pos, x.2.bv, x.2.rv, .int .i64 x.1.fin, x.2.fv, .bool (!x.1.live)]
def ownedV (l : List Fb) (ex : Int) : Value := match ownedL l ex with | some x => .tuple #[laidV x, .bool true] | none => .tuple #[.agg laidZ, .bool false]
theorem ownedV_no {l : List Fb} {ex : Int} (h : ownedL l ex = none) : ownedV l ex = .tuple #[.agg laidZ, .bool false] := by unfold ownedV; rw [h]
theorem ownedV_yes {l : List Fb} {ex : Int} {x : Fb} (h : ownedL l ex = some x) : ownedV l ex = .tuple #[laidV x, .bool true] := by unfold ownedV; rw [h]
set_option maxRecDepth 100000 in
set_option maxHeartbeats 4000000 in
theorem cs_owned (h : IsCache w N cb R M V l hi mi) (ex : Int) (h0 : -9223372036854775808 ≤ ex) (h1 : ex ≤ 9223372036854775807) (hol : (ownL (pl l)).length ≤ 60000) (_hll : l.length ≤ 10000) :
    Calls Tryz.prog 49 #[.pointer (some ⟨cb, 0, none⟩), .int .i64 ex] w fun e w' => e = .returned (ownedV l ex) ∧ Same w w' := by
  obtain ⟨p1, c1, ebl⟩ := h.bl_sl
  obtain ⟨p3, c3, eow⟩ := rowI_sl h.ow
  have HH := hidE h
  have HK := hidE ((Keeps.refl (fun _ => False) w).alloc (.cells laidZ 112))
  clear h
  simp only [laidZ] at *
  have hno : ∀ (w9 : World), ownedL l ex = none → Same w w9 → (Ending.returned (.tuple #[.agg #[.int .u32 0, .int .u32 0, .int .i64 0, .slice none 0 0, .slice none 0 0, .int .i64 0, .slice none 0 0, .bool false], .bool false]) = .returned (ownedV l ex)) ∧ Same w w9 := fun w9 e hk => by rw [ownedV_no e]; exact ⟨rfl, hk⟩
  by_cases hin : 0 ≤ ex ∧ ex < ((ownL (pl l)).length : Int)
  · obtain ⟨e, rfl⟩ := Int.eq_ofNat_of_zero_le hin.1
    have hlt : e < (ownL (pl l)).length := by omega
    obtain ⟨n, hn⟩ : ∃ n, (ownL (pl l))[e]? = some n := ⟨_, List.getElem?_eq_getElem hlt⟩
    obtain ⟨hn0, hn1⟩ := ownL_mem hn
    obtain ⟨m, rfl⟩ := Int.eq_ofNat_of_zero_le hn0
    have hml : m < l.length := by simpa [pl] using hn1
    obtain ⟨x, hx⟩ : ∃ x, l[m]? = some x := ⟨_, List.getElem?_eq_getElem hml⟩
    have hcell := HH.out.bk hx
    obtain ⟨g3, c3', e3, n3, n3', hc3⟩ := rowI_at HH.out.ow hn
    rw [eow] at e3
    cases e3
    obtain ⟨g1, c1', e1, n1, n1', hc1⟩ := hcell
    rw [ebl] at e1
    cases e1
    have q1 : decide ((e : Int) < 0) = false := decide_eq_false (by omega)
    have q2 : decide (((ownL (pl l)).length : Int) ≤ (e : Int)) = false := decide_eq_false (by omega)
    have q2n : decide ((ownL (pl l)).length ≤ e) = false := decide_eq_false (by omega)
    have q3 : (e : Int) < ((ownL (pl l)).length : Int) := by omega
    have q4 : (m : Int) < (l.length : Int) := by omega
    have q5 : (0 : Int) ≤ (e : Int) := by omega
    have q6 : (0 : Int) ≤ (m : Int) := by omega
    have hval : ownedL l (e : Int) = if x.1.live then some x else none := by
      unfold ownedL
      rw [if_pos (by omega)]
      have : ((e : Int)).toNat = e := by omega
      rw [this, hn]
      simp only [Option.bind_some]
      have : ((m : Int)).toNat = m := by omega
      rw [this, hx]
      cases hl9 : x.1.live <;> simp [Option.filter, hl9]
    have a7 := hc1 7 _ rfl
    have HC1 := hidE hc1
    have HC3 := hidE hc3
    clear hc1 hc3 hn
    cases hlv : x.1.live with
    | false =>
      rw [hlv] at a7 hval
      simp only [Bool.not_false] at a7
      have HNO := hidE (fun w9 => hno w9 (by rw [hval]; rfl))
      have A7 := hidE a7
      clear a7 hval hno
      go_enter Tryz.func49, Tryz.ntmps49
      go_wp2_with fail
      refine wp_region_ra [0, 1, 2, 3, 4, 5, 6, 7, 8, 9, 10, 11, 12, 13, 14, 15, 16, 17, 18, 19, 20, 21, 22, 23, 24, 25, 26, 27, 28, 29, 30] [] 0 (Same _) (by kernel_rfl) (by kernel_rfl) (fun u u' h k => Keeps.trans h k) (Keeps.refl _ _).drew ?_; simp only [opsOf, List.filterMap_cons, List.filterMap_nil, List.getElem?_cons_zero, List.getElem?_cons_succ]
      repeat (first | (refine seqV_run (v := ?_) rfl (fun u hu => ?_) ?_; rotate_left; (focus (clear hu; go_simp; first | done | with_reducible rfl)); (try simp only [Act.put, List.setIfInBounds_toArray, List.set_cons_zero, List.set_cons_succ])) | (refine seqV_no rfl ?_; (try simp only [Act.put, List.setIfInBounds_toArray, List.set_cons_zero, List.set_cons_succ])))
      (refine seqV_call (f := 47) (args := #[.pointer (some ⟨cb, 0, none⟩)]) (v := .bool false) rfl (fun u hu => ?_) (fun u hu => (cs_none (HH.out.same (HK.out.trans hu))).mono (by rintro _ _ ⟨rfl, rfl⟩; exact ⟨rfl, Keeps.refl _ _⟩)) ?_; (focus (clear hu; go_simp)); (try simp only [Act.put, List.setIfInBounds_toArray, List.set_cons_zero, List.set_cons_succ]))
      repeat (first | (refine seqV_run (v := ?_) rfl (fun u hu => ?_) ?_; rotate_left; (focus (have d1 := (HH.out.same (HK.out.trans hu)).c 1; have d3 := (HH.out.same (HK.out.trans hu)).c 3; have d4 := cell_same1 (HK.out.trans hu) HC3.out; have d5 := cell_same1 (HK.out.trans hu) A7.out; simp only [cacheA, ebl, eow] at d1 d3; clear hu; go_simp; first | done | with_reducible rfl)); (try simp only [Act.put, List.setIfInBounds_toArray, List.set_cons_zero, List.set_cons_succ])) | (refine seqV_no rfl ?_; (try simp only [Act.put, List.setIfInBounds_toArray, List.set_cons_zero, List.set_cons_succ])))
      refine seqV_nil ?_
      refine tailR_zero fun u5 hu _ => ?_
      (try simp only [Act.put, List.setIfInBounds_toArray, List.set_cons_zero, List.set_cons_succ])
      have b5 := hu.get (block_new w (.cells #[.int .u32 0, .int .u32 0, .int .i64 0, .slice none 0 0, .slice none 0 0, .int .i64 0, .slice none 0 0, .bool false] 112)) id
      have HK5 := hidE (HK.out.trans hu)
      have r5 := rowAt_of b5
      clear hu b5
      go_wp2
      refine post_row1 (v := .bool false) rfl Tryz.underlying112 rfl infoLd rfl rfl rfl (by go_simp; rfl) rfl ?_
      exact HNO.out _ (HK5.out.setRow (fun h => absurd h (Nat.lt_irrefl _)) _)
    | true =>
      rw [hlv] at a7 hval
      simp only [Bool.not_true] at a7
      have HV := hidE hval
      obtain ⟨o1, o2, o3⟩ := (HH.out.fb x (List.mem_of_getElem? hx)).ones
      have A7 := hidE a7
      have HL := hidE (fun u (hu : Same w u) => ld_at (P := Tryz.prog) (w := u) (t := 112) (g := g1) (o := m * 8) Tryz.underlying112 rfl infoLd (c := fbP x) rfl (fun i v hv => cell_same1 hu (HC1.out i v hv)))
      simp only [fbP, hlv, Bool.not_true] at HL
      clear a7 hval hno
      go_enter Tryz.func49, Tryz.ntmps49
      go_wp2_with fail
      refine wp_region_ra [0, 1, 2, 3, 4, 5, 6, 7, 8, 9, 10, 11, 12, 13, 14, 15, 16, 17, 18, 19, 20, 21, 22, 23, 24, 25, 26, 27, 28, 29, 30] [] 0 (Same _) (by kernel_rfl) (by kernel_rfl) (fun u u' h k => Keeps.trans h k) (Keeps.refl _ _).drew ?_; simp only [opsOf, List.filterMap_cons, List.filterMap_nil, List.getElem?_cons_zero, List.getElem?_cons_succ]
      repeat (first | (refine seqV_run (v := ?_) rfl (fun u hu => ?_) ?_; rotate_left; (focus (clear hu; go_simp; first | done | with_reducible rfl)); (try simp only [Act.put, List.setIfInBounds_toArray, List.set_cons_zero, List.set_cons_succ])) | (refine seqV_no rfl ?_; (try simp only [Act.put, List.setIfInBounds_toArray, List.set_cons_zero, List.set_cons_succ])))
      (refine seqV_call (f := 47) (args := #[.pointer (some ⟨cb, 0, none⟩)]) (v := .bool false) rfl (fun u hu => ?_) (fun u hu => (cs_none (HH.out.same (HK.out.trans hu))).mono (by rintro _ _ ⟨rfl, rfl⟩; exact ⟨rfl, Keeps.refl _ _⟩)) ?_; (focus (clear hu; go_simp)); (try simp only [Act.put, List.setIfInBounds_toArray, List.set_cons_zero, List.set_cons_succ]))
      repeat (first | (refine seqV_run (v := ?_) rfl (fun u hu => ?_) ?_; rotate_left; (focus (have d1 := (HH.out.same (HK.out.trans hu)).c 1; have d3 := (HH.out.same (HK.out.trans hu)).c 3; have d4 := cell_same1 (HK.out.trans hu) HC3.out; have d5 := cell_same1 (HK.out.trans hu) A7.out; simp only [cacheA, ebl, eow] at d1 d3; clear hu; go_simp; first | done | with_reducible rfl)); (try simp only [Act.put, List.setIfInBounds_toArray, List.set_cons_zero, List.set_cons_succ])) | (refine seqV_no rfl ?_; (try simp only [Act.put, List.setIfInBounds_toArray, List.set_cons_zero, List.set_cons_succ])))
      refine seqV_nil ?_
      refine tailR_zero fun u5 hu _ => ?_
      (try simp only [Act.put, List.setIfInBounds_toArray, List.set_cons_zero, List.set_cons_succ])
      have B5 := hidE (hu.get (block_new w (.cells #[.int .u32 0, .int .u32 0, .int .i64 0, .slice none 0 0, .slice none 0 0, .int .i64 0, .slice none 0 0, .bool false] 112)) id)
      have HK5 := hidE (HK.out.trans hu)
      clear hu
      go_wp2_with fail
      refine wp_region_ra [0, 1, 2, 3, 4, 5, 6, 7, 8, 9, 10, 11, 12] [13, 14] 0 (Same _) (by kernel_rfl) (by kernel_rfl) (fun u u' h k => Keeps.trans h k) (Keeps.refl _ _).drew ?_; simp only [opsOf, List.filterMap_cons, List.filterMap_nil, List.getElem?_cons_zero, List.getElem?_cons_succ]
      repeat (first | (refine seqV_run (v := ?_) rfl (fun u hu => ?_) ?_; rotate_left; (focus (have d1 := (HH.out.same (HK5.out.trans hu)).c 1; have d3 := (HH.out.same (HK5.out.trans hu)).c 3; have d4 := cell_same1 (HK5.out.trans hu) HC3.out; have d6 := HL.out _ (HK5.out.trans hu); simp only [cacheA, ebl, eow] at d1 d3; clear hu; go_simp; first | done | with_reducible rfl)); (try simp only [Act.put, List.setIfInBounds_toArray, List.set_cons_zero, List.set_cons_succ])) | (refine seqV_no rfl ?_; (try simp only [Act.put, List.setIfInBounds_toArray, List.set_cons_zero, List.set_cons_succ])))
      refine seqV_nil ?_
      refine tailR_zero fun u6 hu _ => ?_
      (try simp only [Act.put, List.setIfInBounds_toArray, List.set_cons_zero, List.set_cons_succ])
      have r5 := rowAt_of (hu.get B5.out id)
      have HK6 := hidE (HK5.out.trans hu)
      clear hu
      go_wp2
      refine post_row1 (v := .bool true) (A := #[.int .u32 x.1.k1, .int .u32 x.1.k2, .int .i64 x.1.pos, x.2.bv, x.2.rv, .int .i64 x.1.fin, x.2.fv, .bool false]) rfl Tryz.underlying112 rfl infoLd rfl rfl rfl (by go_simp) rfl ?_
      rw [ownedV_yes HV.out]
      refine ⟨?_, HK6.out.setRow (fun h => absurd h (Nat.lt_irrefl _)) _⟩
      simp [laidV, hlv]
  · have hnone : ownedL l ex = none := by
      unfold ownedL
      by_cases h0 : 0 ≤ ex
      · rw [if_pos h0, List.getElem?_eq_none (by omega)]; rfl
      · rw [if_neg h0]
    have HNO := hidE (fun w9 => hno w9 hnone)
    clear hno hnone
    by_cases hneg : ex < 0
    · have q1 : decide (ex < 0) = true := decide_eq_true hneg
      go_enter Tryz.func49, Tryz.ntmps49
      go_wp2_with fail
      refine wp_region_ra [0, 1, 2, 3, 4, 5, 6, 7, 8, 9, 10, 11, 12, 13, 14, 15, 16, 17, 18, 19, 20, 21, 22, 23, 24, 25, 26, 27, 28, 29, 30] [] 0 (Same _) (by kernel_rfl) (by kernel_rfl) (fun u u' h k => Keeps.trans h k) (Keeps.refl _ _).drew ?_; simp only [opsOf, List.filterMap_cons, List.filterMap_nil, List.getElem?_cons_zero, List.getElem?_cons_succ]
      repeat (first | (refine seqV_run (v := ?_) rfl (fun u hu => ?_) ?_; rotate_left; (focus (clear hu; go_simp; first | done | with_reducible rfl)); (try simp only [Act.put, List.setIfInBounds_toArray, List.set_cons_zero, List.set_cons_succ])) | (refine seqV_no rfl ?_; (try simp only [Act.put, List.setIfInBounds_toArray, List.set_cons_zero, List.set_cons_succ])))
      (refine seqV_call (f := 47) (args := #[.pointer (some ⟨cb, 0, none⟩)]) (v := .bool false) rfl (fun u hu => ?_) (fun u hu => (cs_none (HH.out.same (HK.out.trans hu))).mono (by rintro _ _ ⟨rfl, rfl⟩; exact ⟨rfl, Keeps.refl _ _⟩)) ?_; (focus (clear hu; go_simp)); (try simp only [Act.put, List.setIfInBounds_toArray, List.set_cons_zero, List.set_cons_succ]))
      repeat (first | (refine seqV_run (v := ?_) rfl (fun u hu => ?_) ?_; rotate_left; (focus (clear hu; go_simp; first | done | with_reducible rfl)); (try simp only [Act.put, List.setIfInBounds_toArray, List.set_cons_zero, List.set_cons_succ])) | (refine seqV_no rfl ?_; (try simp only [Act.put, List.setIfInBounds_toArray, List.set_cons_zero, List.set_cons_succ])))
      refine seqV_nil ?_
      refine tailR_zero fun u5 hu _ => ?_
      (try simp only [Act.put, List.setIfInBounds_toArray, List.set_cons_zero, List.set_cons_succ])
      have b5 := hu.get (block_new w (.cells #[.int .u32 0, .int .u32 0, .int .i64 0, .slice none 0 0, .slice none 0 0, .int .i64 0, .slice none 0 0, .bool false] 112)) id
      have HK5 := hidE (HK.out.trans hu)
      have r5 := rowAt_of b5
      clear hu b5
      go_wp2
      refine post_row1 (v := .bool false) rfl Tryz.underlying112 rfl infoLd rfl rfl rfl (by go_simp; rfl) rfl ?_
      exact HNO.out _ (HK5.out.setRow (fun h => absurd h (Nat.lt_irrefl _)) _)
    · have q1 : decide (ex < 0) = false := decide_eq_false hneg
      have q2 : decide (((ownL (pl l)).length : Int) ≤ ex) = true := decide_eq_true (by omega)
      go_enter Tryz.func49, Tryz.ntmps49
      go_wp2_with fail
      refine wp_region_ra [0, 1, 2, 3, 4, 5, 6, 7, 8, 9, 10, 11, 12, 13, 14, 15, 16, 17, 18, 19, 20, 21, 22, 23, 24, 25, 26, 27, 28, 29, 30] [] 0 (Same _) (by kernel_rfl) (by kernel_rfl) (fun u u' h k => Keeps.trans h k) (Keeps.refl _ _).drew ?_; simp only [opsOf, List.filterMap_cons, List.filterMap_nil, List.getElem?_cons_zero, List.getElem?_cons_succ]
      repeat (first | (refine seqV_run (v := ?_) rfl (fun u hu => ?_) ?_; rotate_left; (focus (clear hu; go_simp; first | done | with_reducible rfl)); (try simp only [Act.put, List.setIfInBounds_toArray, List.set_cons_zero, List.set_cons_succ])) | (refine seqV_no rfl ?_; (try simp only [Act.put, List.setIfInBounds_toArray, List.set_cons_zero, List.set_cons_succ])))
      (refine seqV_call (f := 47) (args := #[.pointer (some ⟨cb, 0, none⟩)]) (v := .bool false) rfl (fun u hu => ?_) (fun u hu => (cs_none (HH.out.same (HK.out.trans hu))).mono (by rintro _ _ ⟨rfl, rfl⟩; exact ⟨rfl, Keeps.refl _ _⟩)) ?_; (focus (clear hu; go_simp)); (try simp only [Act.put, List.setIfInBounds_toArray, List.set_cons_zero, List.set_cons_succ]))
      repeat (first | (refine seqV_run (v := ?_) rfl (fun u hu => ?_) ?_; rotate_left; (focus (have d3 := (HH.out.same (HK.out.trans hu)).c 3; simp only [cacheA, eow] at d3; clear hu; go_simp; first | done | with_reducible rfl)); (try simp only [Act.put, List.setIfInBounds_toArray, List.set_cons_zero, List.set_cons_succ])) | (refine seqV_no rfl ?_; (try simp only [Act.put, List.setIfInBounds_toArray, List.set_cons_zero, List.set_cons_succ])))
      refine seqV_nil ?_
      refine tailR_zero fun u5 hu _ => ?_
      (try simp only [Act.put, List.setIfInBounds_toArray, List.set_cons_zero, List.set_cons_succ])
      have b5 := hu.get (block_new w (.cells #[.int .u32 0, .int .u32 0, .int .i64 0, .slice none 0 0, .slice none 0 0, .int .i64 0, .slice none 0 0, .bool false] 112)) id
      have HK5 := hidE (HK.out.trans hu)
      have r5 := rowAt_of b5
      clear hu b5
      go_wp2
      refine post_row1 (v := .bool false) rfl Tryz.underlying112 rfl infoLd rfl rfl rfl (by go_simp; rfl) rfl ?_
      exact HNO.out _ (HK5.out.setRow (fun h => absurd h (Nat.lt_irrefl _)) _)
end
end Go.Proofs.YtomphgpplbekiaaGreat
