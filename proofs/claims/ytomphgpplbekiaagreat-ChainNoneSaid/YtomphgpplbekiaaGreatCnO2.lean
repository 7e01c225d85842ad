/- A cache: an exit (Out), and whether it asks. -/
import Derived.Test.YtomphgpplbekiaaGreatCnO
namespace Go.Proofs.YtomphgpplbekiaaGreat
open Go.RowKit
attribute [local go_sem ↓] Go.wp_at_zero Go.wp_at_succ

theorem find_step {α : Type} {l : List α} {p : α → Bool} {k : Nat} {x : α} (h : l[k]? = some x) (h0 : (l.take k).find? p = none) : (p x = true → l.find? p = some x) ∧ (p x = false → (l.take (k + 1)).find? p = none) := by
  have hlt : k < l.length := (List.getElem?_eq_some_iff.1 h).1
  have he : l[k] = x := by rw [List.getElem?_eq_getElem hlt] at h; exact Option.some.inj h
  refine ⟨fun hp => ?_, fun hp => ?_⟩
  · have e : l = l.take k ++ x :: l.drop (k + 1) := by
      rw [← he, ← List.drop_eq_getElem_cons hlt, List.take_append_drop]
    rw [e, List.find?_append, h0]
    simp [hp]
  · rw [List.take_add_one, h, List.find?_append, h0]
    simp [hp]
theorem x_ldKy (ρ : Operand → Value) (dst : Option Tmp) (x : Operand) (ty : TypeId) (pos : String) (after : Array Edge) (guard : Option (Nat × Bool)) :
    execOp ρ { dst, op := .load 31 x, type := ty, pos, after, guard } = ldRow 31 (ρ x) := rfl
def outV (l : List Fb) (ex : Int) : Value := match ownedL l ex with
  | none => .tuple #[.agg outZ, .bool false]
  | some x => match x.1.rs.find? (fun r => r.ex == ex) with
    | some r => .tuple #[.agg #[.int .u32 x.1.k1, .int .u32 x.1.k2, .int .i64 (x.1.pos + r.off), .int .u32 r.pc], .bool true]
    | none => .tuple #[.agg outZ, .bool false]
theorem outV_no {l : List Fb} {ex : Int} (h : ownedL l ex = none) : outV l ex = .tuple #[.agg outZ, .bool false] := by unfold outV; rw [h]
theorem outV_yes {l : List Fb} {ex : Int} {x : Fb} {r : Rw} (h : ownedL l ex = some x) (hr : x.1.rs.find? (fun r => r.ex == ex) = some r) : outV l ex = .tuple #[.agg #[.int .u32 x.1.k1, .int .u32 x.1.k2, .int .i64 (x.1.pos + r.off), .int .u32 r.pc], .bool true] := by unfold outV; rw [h]; simp only [hr]
theorem outV_gone {l : List Fb} {ex : Int} {x : Fb} (h : ownedL l ex = some x) (hr : x.1.rs.find? (fun r => r.ex == ex) = none) : outV l ex = .tuple #[.agg outZ, .bool false] := by unfold outV; rw [h]; simp only [hr]
section
variable {w w' : World} {N cb : Nat} {R : RamAt} {M : List Int} {V : CV} {l : List Fb} {hi mi : Int}
attribute [local go_sem ↓] x_stKy x_stRw x_stLd x_stOu x_stRb x_stCd x_stBk x_stLk
attribute [local go_sem] st_Ky st_Rw st_Ld st_Ou st_Rb st_Cd st_Bk st_Lk ne_s1 en_s1 ne_s2 en_s2 ne_s3 en_s3 ne_s4 en_s4 ne_s5 en_s5 ne_s6 en_s6 ne_s7 en_s7 ne_s8 en_s8 lt_s2 lt_s3 lt_s4 lt_s5 lt_s6 lt_s7 lt_s8 rowAt_at rowAt_old rowAt_drew rowAt_drewN setRow_drew setRow_at setRow_old setRow_setRow rowAt_setRow_eq rowAt_setRow_ne cell_setRow_eq cell_setRow_ne frozen_setRow_eq frozen_setRow_ne ones_lit oc_int oc_bool oc_str oc_ptr oc_sl oc_map oc_fn oc_nf oc_ni oc_if
attribute [local go_sem ↓] x_ldKy
theorem ownedL_mem {l : List Fb} {ex : Int} {x : Fb} (h : ownedL l ex = some x) : x ∈ l := by
  unfold ownedL at h
  split at h
  · simp only [Option.bind_eq_some_iff, Option.filter_eq_some_iff] at h
    obtain ⟨n, -, hx, -⟩ := h
    exact List.mem_of_getElem? hx
  · cases h
set_option maxRecDepth 100000 in
set_option maxHeartbeats 4000000 in
theorem cs_out (h : IsCache w N cb R M V l hi mi) (ex : Int) (h0 : -9223372036854775808 ≤ ex) (h1 : ex ≤ 9223372036854775807) (hol : (ownL (pl l)).length ≤ 60000) (hll : l.length ≤ 10000)
    (hb : ∀ x ∈ l, 0 ≤ x.1.pos ∧ x.1.pos ≤ 1000000 ∧ x.1.rs.length ≤ 5000 ∧ ∀ r ∈ x.1.rs, 0 ≤ r.off ∧ r.off ≤ 1000000) :
    Calls Tryz.prog 13 #[.pointer (some ⟨cb, 0, none⟩), .int .i64 ex] w fun e w' => e = .returned (outV l ex) ∧ Same w w' := by
  have k0 := (Keeps.refl (fun _ => False) w).alloc (.cells outZ 43)
  have HO := hidE (cs_owned (h.same k0) ex h0 h1 hol hll)
  have B0 := hidE (block_new w (.cells outZ 43))
  have HK0 := hidE k0
  have HH := hidE h
  clear h k0
  cases hq : ownedL l ex with
  | none =>
    have HV := hidE (outV_no hq)
    rw [ownedV_no hq] at HO
    clear hq hb
    simp only [laidZ, outZ] at *
    go_enter Tryz.func13, Tryz.ntmps13
    go_wp2_with fail
    refine HO.out.mono ?_
    rintro _ w1 ⟨rfl, hk⟩
    have r1 := rowAt_of (hk.get B0.out id)
    have l1 := lt_of_block (hk.get B0.out id)
    have HK1 := hidE (HK0.out.trans hk)
    clear hk
    go_wp2
    refine post_row1 (v := .bool false) rfl Tryz.underlying43 rfl infoOu rfl rfl rfl (by go_simp; rfl) rfl ?_
    rw [HV.out]
    exact ⟨rfl, (HK1.out.setRow (fun h => absurd h (Nat.lt_irrefl _)) _).alloc _⟩
  | some x =>
    have hx := ownedL_mem hq
    obtain ⟨p0, p1, hrl, hro⟩ := hb x hx
    obtain ⟨hfb1, ⟨B, hfb2⟩, hfb3, -⟩ := HH.out.fb x hx
    obtain ⟨o1, o2, o3⟩ := (HH.out.fb x hx).ones
    have HY := hidE (fun r => outV_yes (r := r) hq)
    have HG := hidE (outV_gone hq)
    rw [ownedV_yes hq] at HO
    obtain ⟨fp, ⟨bv, rv, fv⟩⟩ := x
    obtain ⟨rp, rc, hrv⟩ := owns_slice hfb2
    simp only at hrv
    subst hrv
    simp only at o1 o2 o3 p0 p1 hrl hro HY HG
    have HR := hidE hfb2
    clear hq hb hx hfb1 hfb2 hfb3
    have hlive : ∃ g, (Value.bool (!fp.live)) = .bool g := ⟨_, rfl⟩
    obtain ⟨gl, hgl⟩ := hlive
    simp only [laidV, outZ, hgl] at *
    go_enter Tryz.func13, Tryz.ntmps13
    go_wp2_with fail
    refine HO.out.mono ?_
    rintro _ w1 ⟨rfl, hk⟩
    have B1 := hidE (hk.get B0.out id)
    have HK1 := hidE (HK0.out.trans hk)
    clear hk
    go_wp2_with fail
    have K9 := HK1.out.alloc (.cells #[.int .u32 fp.k1, .int .u32 fp.k2, .int .i64 fp.pos, bv, .slice rp fp.rs.length rc, .int .i64 fp.fin, fv, .bool gl] 112)
    have B9 := hidE (block_new w1 (.cells #[.int .u32 fp.k1, .int .u32 fp.k2, .int .i64 fp.pos, bv, .slice rp fp.rs.length rc, .int .i64 fp.fin, fv, .bool gl] 112))
    have B9' := hidE (block_old (.cells #[.int .u32 fp.k1, .int .u32 fp.k2, .int .i64 fp.pos, bv, .slice rp fp.rs.length rc, .int .i64 fp.fin, fv, .bool gl] 112) B1.out)
    have HK9 := hidE K9
    clear K9
    obtain ⟨W9, hW9⟩ : ∃ W9, w1.alloc (.cells #[.int .u32 fp.k1, .int .u32 fp.k2, .int .i64 fp.pos, bv, .slice rp fp.rs.length rc, .int .i64 fp.fin, fv, .bool gl] 112) = W9 := ⟨_, rfl⟩
    rw [hW9] at B9 B9' HK9 ⊢
    clear hW9
    go_loopw [23] (fun t23 wr => ∃ (k : Nat), k ≤ fp.rs.length ∧ t23 = .int .i64 (k : Int) ∧ (fp.rs.take k).find? (fun r => r.ex == ex) = none ∧ Same W9 wr) (fun t23 _ => (fp.rs.length - intOf t23).toNat)
    case atStart => exact ⟨0, by omega, rfl, by simp, Keeps.refl _ _⟩
    case round =>
      obtain ⟨k, hk, rfl, hnf, h2⟩ := hrel
      have HW := hidE h2
      have HNF := hidE hnf
      clear h2 hnf
      by_cases hlt : k < fp.rs.length
      · have q0 : decide ((k : Int) < (fp.rs.length : Int)) = true := decide_eq_true (by omega)
        have q1 : (k : Int) < (fp.rs.length : Int) := by omega
        have e1 := wrapI ((k : Int) + 1) (by omega) (by omega)
        obtain ⟨r, hr⟩ : ∃ r, fp.rs[k]? = some r := ⟨_, List.getElem?_eq_getElem hlt⟩
        have hst := find_step (p := fun r => r.ex == ex) hr HNF.out
        obtain ⟨r0, r1⟩ := hro r (List.mem_of_getElem? hr)
        have e2 := wrapI (fp.pos + r.off) (by omega) (by omega)
        obtain ⟨g, c2, e, n1, hc⟩ := rowsR_cells (owns_apart HR.out (HK9.out.trans HW.out) (fun _ _ => id)) hr
        cases e
        have a0 := hc 0 _ rfl
        have a1 := hc 1 _ rfl
        have a2 := hc 2 _ rfl
        have a3 := hc 3 _ rfl
        simp only [Nat.add_zero] at a0
        have HST := hidE hst
        clear hc hr hst
        by_cases hx : r.ex = ex
        · subst hx
          have q2 : (r.ex == r.ex) = true := beq_self_eq_true _
          have b6 := block_old (.cells #[.int .i64 r.off, .int .u32 r.pc, .int .i64 r.dn, .int .i64 r.ex] 49) (HW.out.get B9.out id)
          have b4 := block_old (.cells #[.int .i64 r.off, .int .u32 r.pc, .int .i64 r.dn, .int .i64 r.ex] 49) (HW.out.get B9'.out id)
          have c6 := cell_of b6
          have c6w := cell_of (HW.out.get B9.out id)
          have l6 := lt_of_block (HW.out.get B9.out id)
          have l6' := Nat.ne_of_lt l6
          have l6'' := Nat.ne_of_gt l6
          have hkey : ∀ u, Same (wr.alloc (.cells #[.int .i64 r.off, .int .u32 r.pc, .int .i64 r.dn, .int .i64 r.ex] 49)) u → (ldRow 31 (.pointer (some ⟨w1.heap.size, 0, none⟩))).run Tryz.prog u = .ok (.value (.agg #[.int .u32 fp.k1, .int .u32 fp.k2])) u := fun u hu => ld_at (P := Tryz.prog) (c := [.int .u32 fp.k1, .int .u32 fp.k2]) (o := 0) Tryz.underlying31 rfl infoKy rfl (fun i v hv => by
            have := cell_of (hu.get b6 id) i
            rw [Nat.zero_add, this]
            match i, hv with
            | 0, hv => exact hv
            | 1, hv => exact hv)
          have hk0 := hkey _ (Keeps.refl _ _)
          have r4 := rowAt_of b4
          have l4 := lt_of_block b4
          clear b6 b4 hkey
          go_wp2
          refine post_row1 (v := .bool true) (A := #[.int .u32 fp.k1, .int .u32 fp.k2, .int .i64 (fp.pos + r.off), .int .u32 r.pc]) rfl Tryz.underlying43 rfl infoOu rfl rfl rfl (by go_simp) rfl ?_
          rw [HY.out r (HST.out.1 q2)]
          exact ⟨rfl, ((HK9.out.trans HW.out).alloc _).setRow (fun h => absurd h (Nat.lt_irrefl _)) _⟩
        · have q2 : (r.ex == ex) = false := beq_eq_false_iff_ne.2 hx
          go_wp2_with fail
          refine ⟨⟨k + 1, by omega, by simp, HST.out.2 q2, HW.out.alloc _⟩, by simp only [intOf]; omega⟩
      · obtain rfl : k = fp.rs.length := by omega
        have q0 : decide ((fp.rs.length : Int) < (fp.rs.length : Int)) = false := by simp
        have b4 := HW.out.get B9'.out id
        have r4 := rowAt_of b4
        have l4 := lt_of_block b4
        have hnf := HNF.out
        rw [List.take_length] at hnf
        have HNO := hidE (HG.out hnf)
        clear b4 hnf
        go_wp2
        refine post_row1 (v := .bool false) rfl Tryz.underlying43 rfl infoOu rfl rfl rfl (by go_simp; rfl) rfl ?_
        rw [HNO.out]
        exact ⟨rfl, (HK9.out.trans HW.out).setRow (fun h => absurd h (Nat.lt_irrefl _)) _⟩
end
end Go.Proofs.YtomphgpplbekiaaGreat
