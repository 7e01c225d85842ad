/- A cache: Put. A cache: Put, of a block that may be. The works of the laws on caches: a block is laid and found. -/
import Derived.Test.YtomphgpplbekiaaGreatCnC
import Derived.Test.YtomphgpplbekiaaGreatRz
import Derived.Test.YtomphgpplbekiaaGreatSt
import Derived.Test.YtomphgpplbekiaaGreatItems
namespace Go.Proofs.YtomphgpplbekiaaGreat
open Go.RowKit
attribute [local go_sem ↓] Go.wp_at_zero Go.wp_at_succ

def fpOf (L : List Fp) (k : Int × Int) (b : Bk) (xs : List Int) : Fp := ⟨k.1, k.2, (usedL L : Nat), (trC b ((ownL L).length : Nat)).1, (trC b ((ownL L).length : Nat)).2, b.fin, xs, true⟩
def PutP (w : World) (N cb : Nat) (R : RamAt) (M : List Int) (V : CV) (l : List Fb) (hi mi : Int) (k : Int × Int) (b : Bk) (xs : List Int) (e : Ending) (w' : World) : Prop :=
  if (idxL (pl l) k).isSome ∨ mayBlk b = false then e = .returned (.tuple #[.int .i64 0, .int .i64 2]) ∧ IsCache w' N cb R M V l hi mi ∧ Same w w'
  else if usedL (pl l) + (trC b ((ownL (pl l)).length : Nat)).1.length ≤ 64 * R.n then ∃ V' x, x.1 = fpOf (pl l) k b xs ∧ e = .returned (.tuple #[.int .i64 (usedL (pl l) : Nat), .int .i64 0]) ∧ IsCache w' N cb R (R.put M (usedL (pl l)) (trC b ((ownL (pl l)).length : Nat)).1) V' (l ++ [x]) hi mi ∧ Keeps (fun g => Wr cb R V g) w w' ∧ (∀ g, Wr cb R V' g → Wr cb R V g ∨ w.heap.size ≤ g) ∧ (∀ g, ROk x g → w.heap.size ≤ g)
  else e = .returned (.tuple #[.int .i64 0, .int .i64 5]) ∧ IsCache w' N cb R M V l hi mi ∧ Same w w'
theorem trC_bytes {w : World} {b : Bk} (hb : b.Ok w) (hm : mayBlk b = true) (first : Int) (x0 : 0 ≤ first) (x1 : first ≤ 65534) : ∀ y ∈ (trC b first).1, 0 ≤ y ∧ y < 256 := by
  have hg := good_of hm
  have hx : ∀ k, k < b.n → (b.X k).Ok := by
    rcases hb.ins with h | ⟨S, o, -, -, h⟩
    · intro k hk; omega
    · exact fun k hk => (h k hk).1
  rw [tr_it hg first x0 x1]
  exact itB_bytes (trI_good hg hx hb.n0 hb.n1 first x0 x1)
section
variable {w w' : World} {N cb : Nat} {R : RamAt} {M : List Int} {V : CV} {l : List Fb} {hi mi : Int}
attribute [local go_sem ↓] x_stKy x_stRw x_stLd x_stOu x_stRb x_stCd x_stBk x_stLk
attribute [local go_sem] st_Ky st_Rw st_Ld st_Ou st_Rb st_Cd st_Bk st_Lk ne_s1 en_s1 ne_s2 en_s2 ne_s3 en_s3 ne_s4 en_s4 ne_s5 en_s5 ne_s6 en_s6 ne_s7 en_s7 ne_s8 en_s8 lt_s2 lt_s3 lt_s4 lt_s5 lt_s6 lt_s7 lt_s8 rowAt_at rowAt_old rowAt_drew rowAt_drewN setRow_drew setRow_at setRow_old setRow_setRow rowAt_setRow_eq rowAt_setRow_ne cell_setRow_eq cell_setRow_ne frozen_setRow_eq frozen_setRow_ne ones_lit oc_int oc_bool oc_str oc_ptr oc_sl oc_map oc_fn oc_nf oc_ni oc_if
set_option maxRecDepth 100000 in
set_option maxHeartbeats 4000000 in
theorem cs_put_no (h : IsCache w N cb R M V l hi mi) (b : Bk) (hb : b.Ok w) (xs : List Int) (k1 k2 : Int) (hno : (idxL (pl l) (k1, k2)).isSome ∨ mayBlk b = false) :
    Calls Tryz.prog 38 #[.pointer (some ⟨cb, 0, none⟩), .agg #[.int .u32 k1, .int .u32 k2], .agg (bkA b)] w (PutP w N cb R M V l hi mi (k1, k2) b xs) := by
  unfold PutP
  simp only [if_pos hno]
  have HM := hidE (fun (w' : World) (hk : Same w w') => mayT_any b w' (hb.keeps hk))
  simp only [bkA] at *
  have k0 := ((Keeps.refl (fun _ => False) w).alloc (.cells #[.int .u32 k1, .int .u32 k2] 31)).alloc (.cells #[.slice b.ia b.n b.cn, .slice b.aa b.m b.cm, .int .u32 b.next, .int .u32 b.to, .int .i64 b.fin, b.fr, b.tb] 36)
  have B4 := hidE (block_old (.cells #[.slice b.ia b.n b.cn, .slice b.aa b.m b.cm, .int .u32 b.next, .int .u32 b.to, .int .i64 b.fin, b.fr, b.tb] 36) (block_new w (.cells #[.int .u32 k1, .int .u32 k2] 31)))
  have B5 := hidE (block_atR (.cells #[.slice b.ia b.n b.cn, .slice b.aa b.m b.cm, .int .u32 b.next, .int .u32 b.to, .int .i64 b.fin, b.fr, b.tb] 36) (by simp : (w.alloc (.cells #[.int .u32 k1, .int .u32 k2] 31)).heap.size = w.heap.size + 1))
  have h := h.same k0
  have HN := hidE (cs_none h)
  have HL := hidE (h.look k1 k2)
  have HH := hidE h
  have HK0 := hidE k0
  generalize mayBlk b = MB at *
  clear h k0 hb
  generalize hq : idxL (pl l) (k1, k2) = q at *
  cases q with
  | some j =>
    simp only [Option.getD_some, Option.isSome_some] at HL
    go_enter Tryz.func38, Tryz.ntmps38
    go_wp2_with fail
    refine HN.out.mono ?_
    rintro _ w1 ⟨rfl, rfl⟩
    go_wp2_with fail
    refine wp_region_ra [0, 1, 2, 3, 4, 5, 6, 7, 8, 9, 10] [] 0 (Same _) (by kernel_rfl) (by kernel_rfl) (fun u u' h k => Keeps.trans h k) (Keeps.refl _ _).drew ?_; simp only [opsOf, List.filterMap_cons, List.filterMap_nil, List.getElem?_cons_zero, List.getElem?_cons_succ]
    repeat (first | (refine seqV_run (v := ?_) rfl (fun u hu => ?_) ?_; rotate_left; (focus (have d1 := (HH.out.same hu).c 2; have d2 := cell_of (hu.get B4.out id); have d3 := HL.out u hu; simp only [cacheA] at d1; clear hu; go_simp; first | done | with_reducible rfl)); (try simp only [Act.put, List.setIfInBounds_toArray, List.set_cons_zero, List.set_cons_succ])) | (refine seqV_no rfl ?_; (try simp only [Act.put, List.setIfInBounds_toArray, List.set_cons_zero, List.set_cons_succ])))
    refine seqV_nil ?_
    refine tailR_zero fun u5 hu _ => ?_
    (try simp only [Act.put, List.setIfInBounds_toArray, List.set_cons_zero, List.set_cons_succ])
    have HU := hidE (HK0.out.trans hu)
    have HH5 := hidE (HH.out.same hu)
    clear hu HL HH
    go_wp2
    go_ret2
    exact ⟨rfl, HH5.out, HU.out⟩
  | none =>
    obtain rfl : MB = false := by simpa using hno
    simp only [Option.getD_none, Option.isSome_none] at HL
    clear hno
    go_enter Tryz.func38, Tryz.ntmps38
    go_wp2_with fail
    refine HN.out.mono ?_
    rintro _ w1 ⟨rfl, rfl⟩
    go_wp2_with fail
    refine wp_region_ra [0, 1, 2, 3, 4, 5, 6, 7, 8, 9, 10] [] 0 (Same _) (by kernel_rfl) (by kernel_rfl) (fun u u' h k => Keeps.trans h k) (Keeps.refl _ _).drew ?_; simp only [opsOf, List.filterMap_cons, List.filterMap_nil, List.getElem?_cons_zero, List.getElem?_cons_succ]
    repeat (first | (refine seqV_run (v := ?_) rfl (fun u hu => ?_) ?_; rotate_left; (focus (have d1 := (HH.out.same hu).c 2; have d2 := cell_of (hu.get B4.out id); have d3 := HL.out u hu; simp only [cacheA] at d1; clear hu; go_simp; first | done | with_reducible rfl)); (try simp only [Act.put, List.setIfInBounds_toArray, List.set_cons_zero, List.set_cons_succ])) | (refine seqV_no rfl ?_; (try simp only [Act.put, List.setIfInBounds_toArray, List.set_cons_zero, List.set_cons_succ])))
    refine seqV_nil ?_
    refine tailR_zero fun u5 hu _ => ?_
    (try simp only [Act.put, List.setIfInBounds_toArray, List.set_cons_zero, List.set_cons_succ])
    have HU := hidE (HK0.out.trans hu)
    have HH5 := hidE (HH.out.same hu)
    have c5 := cell_of (hu.get B5.out id)
    clear hu HL HH
    go_wp2_with fail
    refine (HM.out _ HU.out).mono ?_
    rintro _ u6 ⟨rfl, hk⟩
    have HU6 := hidE (HU.out.trans hk)
    have HH6 := hidE (HH5.out.same hk)
    clear c5 hk
    go_wp2
    go_ret2
    exact ⟨rfl, HH6.out, HU6.out⟩
end
end Go.Proofs.YtomphgpplbekiaaGreat
namespace Go.Proofs.YtomphgpplbekiaaGreat
open Go.RowKit
attribute [local go_sem ↓] Go.wp_at_zero Go.wp_at_succ
section
variable {w w' : World} {N cb : Nat} {R : RamAt} {M : List Int} {V : CV} {l : List Fb} {hi mi : Int}
attribute [local go_sem ↓] x_stKy x_stRw x_stLd x_stOu x_stRb x_stCd x_stBk x_stLk
attribute [local go_sem] st_Ky st_Rw st_Ld st_Ou st_Rb st_Cd st_Bk st_Lk ne_s1 en_s1 ne_s2 en_s2 ne_s3 en_s3 ne_s4 en_s4 ne_s5 en_s5 ne_s6 en_s6 ne_s7 en_s7 ne_s8 en_s8 lt_s2 lt_s3 lt_s4 lt_s5 lt_s6 lt_s7 lt_s8 rowAt_at rowAt_old rowAt_drew rowAt_drewN setRow_drew setRow_at setRow_old setRow_setRow rowAt_setRow_eq rowAt_setRow_ne cell_setRow_eq cell_setRow_ne frozen_setRow_eq frozen_setRow_ne ones_lit oc_int oc_bool oc_str oc_ptr oc_sl oc_map oc_fn oc_nf oc_ni oc_if
theorem bySr_of {w : World} {B A : Nat} {v : Value} {xs : List Int} (h : RowB w B v xs) (hb : ∀ y ∈ xs, 0 ≤ y ∧ y < 256) (hA : A < B) : BySr w A v xs := by
  obtain ⟨-, ⟨rfl, h0⟩ | ⟨g, cap, cur, rfl, hB, hg, hc1, hc2, hc3, hc4⟩⟩ := h
  · exact ⟨hb, none, 0, by rw [h0], by omega, by simp, fun e => by omega⟩
  · refine ⟨hb, _, cap, rfl, hc1, hc2, fun _ => ⟨g, 0, rfl, by omega, lt_of_block hg, fun j hj => ?_⟩⟩
    rw [Nat.zero_add, cell_of hg]
    have := congrArg (fun l => l[j]?) hc4
    simp only [List.getElem?_take, List.getElem?_map] at this
    rw [if_pos (by omega), List.getElem?_eq_getElem hj] at this
    simpa using this
theorem own_base {w : World} {B B' : Nat} {e : TypeId} {s n : Nat} {v : Value} {xs : List Value} (h : w.ownsRow B e s v n xs) (hB : B' ≤ B) : w.ownsRow B' e s v n xs := by
  obtain ⟨h1, h2 | ⟨g, cap, cur, rfl, hg, h2⟩⟩ := h
  · exact ⟨h1, .inl h2⟩
  · exact ⟨h1, .inr ⟨g, cap, cur, rfl, by omega, h2⟩⟩
/-- What Translate hands back. -/
def TrV (B : Nat) (TC : Cd) (x : Value) (u : World) : Prop := ∃ bv rv, x = .tuple #[.agg #[bv, rv], .int .i64 0] ∧ RowB u B bv TC.1 ∧ RowR u B rv TC.2
theorem TrV.stable (B : Nat) (TC : Cd) (x : Value) (u u' : World) (h : TrV B TC x u) (k : Same u u') : TrV B TC x u' := by
  obtain ⟨bv, rv, e, h1, h2⟩ := h
  exact ⟨bv, rv, e, owns_apart h1 k (fun _ _ => id), owns_apart h2 k (fun _ _ => id)⟩
theorem TrV.out {B : Nat} {TC : Cd} {bv rv : Value} {u : World} (h : TrV B TC (.tuple #[.agg #[bv, rv], .int .i64 0]) u) : RowB u B bv TC.1 ∧ RowR u B rv TC.2 := by
  obtain ⟨bv', rv', e, h1, h2⟩ := h
  cases e
  exact ⟨h1, h2⟩
theorem laid_info : (Tryz.prog.info? 112).map (fun i => (i.zero, i.size, i.bytes)) = some (some (.agg #[.int .u32 0, .int .u32 0, .int .i64 0, .slice none 0 0, .slice none 0 0, .int .i64 0, .slice none 0 0, .bool false]), 8, 104) := by kernel_rfl
def mkFb (k1 k2 us : Int) (TC : Cd) (fin : Int) (xs : List Int) (bv rv fv : Value) : Fb := (⟨k1, k2, us, TC.1, TC.2, fin, xs, true⟩, ⟨bv, rv, fv⟩)
theorem keepsThen {F G : Nat → Prop} {w a b : World} (h : Keeps F w a) (k : Keeps G a b) (hG : ∀ k, G k → F k ∨ w.heap.size ≤ k) : Keeps F w b :=
  ⟨k.os.trans h.os, k.tape.trans h.tape, k.output.trans h.output, Nat.le_trans h.size k.size, fun i hi hf => (k.block i (Nat.lt_of_lt_of_le hi h.size) (fun e => (hG i e).elim hf (fun g => by omega))).trans (h.block i hi hf)⟩
theorem fbOk_mk {w : World} {B1 B2 : Nat} {fp : Fp} {bv rv fv : Value} (h1 : RowB w B1 bv fp.bs) (h2 : RowR w B2 rv fp.rs) (h3 : IntSl w fv fp.frs) (h4 : fp.frs ≠ [] → ∀ g, some g = fv.ownBlock → g < w.heap.size) : FbOk w (fp, ⟨bv, rv, fv⟩) :=
  ⟨⟨_, h1⟩, ⟨_, h2⟩, h3, fun k hk => by
    rcases hk with hk | hk | hk
    · exact (World.ownsRow.lt h1 k hk.symm).2
    · exact (World.ownsRow.lt h2 k hk.symm).2
    · exact h4 hk.1 k hk.2⟩
theorem stepR_callM2 {P : Program} {R : Value → World → Prop} {X : Result Next} {f : FuncId} {args : Array Value} {w' : World} (h : X = .ok (.enter f args) w') (hc : Calls P f args w' (fun e w'' => ∃ v, e = .returned v ∧ R v w'')) : stepR P R X := by
  rw [h]
  exact hc
set_option maxRecDepth 100000 in
set_option maxHeartbeats 8000000 in
theorem cs_put_yes (h : IsCache w N cb R M V l hi mi) (hN : N ≤ w.heap.size) (b : Bk) (hb : b.Ok w) (xs : List Int) (hfr : IntSl w b.fr xs) (hfN : xs ≠ [] → ∀ g, some g = b.fr.ownBlock → g < N) (hlx : xs.length * 8 ≤ 140737488355328) (hol : (ownL (pl l)).length ≤ 60000) (hll : l.length ≤ 10000) (hus : usedL (pl l) ≤ 64 * R.n) (k1 k2 : Int)
    (hno : idxL (pl l) (k1, k2) = none) (hm : mayBlk b = true) :
    Calls Tryz.prog 38 #[.pointer (some ⟨cb, 0, none⟩), .agg #[.int .u32 k1, .int .u32 k2], .agg (bkA b)] w (PutP w N cb R M V l hi mi (k1, k2) b xs) := by
  unfold PutP
  have hnn : ¬ ((idxL (pl l) (k1, k2)).isSome = true ∨ mayBlk b = false) := by simp [hno, hm]
  simp only [if_neg hnn]
  clear hnn
  have hby := trC_bytes hb hm ((ownL (pl l)).length : Nat) (by omega) (by omega)
  have hlen := trC_len (good_of hm) ((ownL (pl l)).length : Nat)
  have HM := hidE (fun (w' : World) (hk : Same w w') => by have h := mayT_any b w' (hb.keeps hk); rw [hm] at h; exact h)
  have HT := hidE (fun (w' : World) (hk : Same w w') => trans_yes b ((ownL (pl l)).length : Nat) w' (hb.keeps hk) hm (by omega) (by omega))
  have HF := hidE hfr
  unfold TrPost at HT
  have hfp : fpOf (pl l) (k1, k2) b xs = ⟨k1, k2, (usedL (pl l) : Nat), (trC b ((ownL (pl l)).length : Nat)).1, (trC b ((ownL (pl l)).length : Nat)).2, b.fin, xs, true⟩ := rfl
  rw [hfp]
  generalize hTC : trC b ((ownL (pl l)).length : Nat) = TC at *
  simp only [bkA] at *
  have k0 := ((Keeps.refl (fun _ => False) w).alloc (.cells #[.int .u32 k1, .int .u32 k2] 31)).alloc (.cells #[.slice b.ia b.n b.cn, .slice b.aa b.m b.cm, .int .u32 b.next, .int .u32 b.to, .int .i64 b.fin, b.fr, b.tb] 36)
  have B4 := hidE (block_old (.cells #[.slice b.ia b.n b.cn, .slice b.aa b.m b.cm, .int .u32 b.next, .int .u32 b.to, .int .i64 b.fin, b.fr, b.tb] 36) (block_new w (.cells #[.int .u32 k1, .int .u32 k2] 31)))
  have B5 := hidE (block_atR (.cells #[.slice b.ia b.n b.cn, .slice b.aa b.m b.cm, .int .u32 b.next, .int .u32 b.to, .int .i64 b.fin, b.fr, b.tb] 36) (by simp : (w.alloc (.cells #[.int .u32 k1, .int .u32 k2] 31)).heap.size = w.heap.size + 1))
  have hlt := h.c_.lt
  have HRO := hidE (fun x hx k hk => (h.fb x hx).lt k hk : ∀ x ∈ l, ∀ k, ROk x k → k < w.heap.size)
  have h := h.same k0
  have HN := hidE (cs_none h)
  have HL := hidE (h.look k1 k2)
  rw [hno] at HL
  simp only [Option.getD_none, Option.isSome_none] at HL
  obtain ⟨p1, c1, ebl⟩ := h.bl_sl
  obtain ⟨p3, c3, eow⟩ := rowI_sl h.ow
  have HH := hidE h.c_
  have HK0 := hidE k0
  have HB := hidE hby
  have HLT := hidE hlt
  clear h k0 hb hfr hfp hm hby hlt
  go_enter Tryz.func38, Tryz.ntmps38
  go_wp2_with fail
  refine HN.out.mono ?_
  rintro _ w1 ⟨rfl, rfl⟩
  go_wp2_with fail
  refine wp_region_ra [0, 1, 2, 3, 4, 5, 6, 7, 8, 9, 10] [] 0 (Same _) (by kernel_rfl) (by kernel_rfl) (fun u u' h k => Keeps.trans h k) (Keeps.refl _ _).drew ?_; simp only [opsOf, List.filterMap_cons, List.filterMap_nil, List.getElem?_cons_zero, List.getElem?_cons_succ]
  repeat (first | (refine seqV_run (v := ?_) rfl (fun u hu => ?_) ?_; rotate_left; (focus (have d1 := (HH.out.same hu).c 2; have d2 := cell_of (hu.get B4.out id); have d3 := HL.out u hu; simp only [cA] at d1; clear hu; go_simp; first | done | with_reducible rfl)); (try simp only [Act.put, List.setIfInBounds_toArray, List.set_cons_zero, List.set_cons_succ])) | (refine seqV_no rfl ?_; (try simp only [Act.put, List.setIfInBounds_toArray, List.set_cons_zero, List.set_cons_succ])))
  refine seqV_nil ?_
  refine tailR_zero fun u5 hu _ => ?_
  (try simp only [Act.put, List.setIfInBounds_toArray, List.set_cons_zero, List.set_cons_succ])
  have HU := hidE (HK0.out.trans hu)
  have HH5 := hidE (HH.out.same hu)
  have B45 := hidE (hu.get B4.out id)
  have B55 := hidE (hu.get B5.out id)
  have c5 := cell_of B55.out
  clear hu HL HH B4 B5
  go_wp2_with fail
  refine (HM.out _ HU.out).mono ?_
  rintro _ u6 ⟨rfl, hk⟩
  have HU6 := hidE (HU.out.trans hk)
  have HH6 := hidE (HH5.out.same hk)
  have B46 := hidE (hk.get B45.out id)
  have B56 := hidE (hk.get B55.out id)
  clear c5 hk HH5 B45 B55 HU
  go_wp2_with fail
  refine wp_region_rz [0, 1, 2, 3, 4, 5] [6] 10 [7, 8, 9] [11, 12] 1 (Same u6) u6.heap.size (by kernel_rfl) (by kernel_rfl) (fun u u' h k => Keeps.trans h k) (Keeps.refl _ _).drew (fun u h => h.size) _ rfl rfl (Z := #[.slice none 0 0, .slice none 0 0]) (ty := 60) (fun ρ u hu => by simp only [ptrV]; clear hu; go_simp) ?_
  simp only [opsOf, List.filterMap_cons, List.filterMap_nil, List.getElem?_cons_zero, List.getElem?_cons_succ]
  repeat (first | (refine seqV_run (v := ?_) rfl (fun u hu => ?_) ?_; rotate_left; (focus (have d1 := (HH6.out.same hu).c 3; have d2 := cell_of (hu.get B56.out id); simp only [cA, eow] at d1; clear hu; go_simp; first | done | with_reducible rfl)); (try simp only [Act.put, List.setIfInBounds_toArray, List.set_cons_zero, List.set_cons_succ])) | (refine seqV_no rfl ?_; (try simp only [Act.put, List.setIfInBounds_toArray, List.set_cons_zero, List.set_cons_succ])))
  refine seqV_nil ?_
  refine chainP_call (f := 73) (args := #[.agg #[.slice b.ia b.n b.cn, .slice b.aa b.m b.cm, .int .u32 b.next, .int .u32 b.to, .int .i64 b.fin, b.fr, b.tb], .int .i64 ((ownL (pl l)).length : Nat)]) (TrV w.heap.size TC) rfl (TrV.stable _ _) (fun u hu _ => by clear hu; go_simp) (fun u hu _ => (HT.out u (HU6.out.trans hu)).mono (by
    rintro _ u' ⟨bv, rv, rfl, h1, h2, h3⟩
    have hz := (HU6.out.trans hu).size
    exact ⟨_, rfl, h3, bv, rv, rfl, own_base h1 hz, own_base h2 hz⟩)) (fun v hv => ?_)
  obtain ⟨_, _, bv, rv, rfl, hb1, hr1⟩ := hv
  obtain ⟨pb, cpb, rfl⟩ := owns_slice hb1
  obtain ⟨pr, cpr, rfl⟩ := owns_slice hr1
  (try simp only [Act.put, List.setIfInBounds_toArray, List.set_cons_zero, List.set_cons_succ])
  refine chainP_nil ?_
  repeat (first | (refine seqV_run (v := ?_) rfl (fun u hu => ?_) ?_; rotate_left; (focus (clear hu; go_simp; first | done | with_reducible rfl)); (try simp only [Act.put, List.setIfInBounds_toArray, List.set_cons_zero, List.set_cons_succ])) | (refine seqV_no rfl ?_; (try simp only [Act.put, List.setIfInBounds_toArray, List.set_cons_zero, List.set_cons_succ])))
  refine seqV_nil ?_
  intro b3 hb3
  (try simp only [ptrV])
  refine tailR_cons (fun _ u => TrV w.heap.size TC (.tuple #[.agg #[.slice pb TC.1.length cpb, .slice pr TC.2.length cpr], .int .i64 0]) u ∧ u.heap[b3]? = some (.cells #[.slice pb TC.1.length cpb, .slice pr TC.2.length cpr] 60 (0, 0))) rfl (fun x u u' h k => ⟨TrV.stable _ _ _ _ _ h.1 k, k.get h.2 id⟩) (fun u hu hp => ?_) (fun v1 _ => ?_)
  · have hst := stRow_run (P := Tryz.prog) u 60 b3 1 #[.slice pb TC.1.length cpb, .slice pr TC.2.length cpr] infoCd (by rw [rowAt_of hp.2]; rfl) rfl (by simp [Ones, Value.oneCell'])
    have hx : ∀ X : Result Next, X = .ok .skip (u.setRow b3 #[.slice pb TC.1.length cpb, .slice pr TC.2.length cpr]) → stepR Tryz.prog (fun _ u' => Same u6 u' ∧ TrV w.heap.size TC (.tuple #[.agg #[.slice pb TC.1.length cpb, .slice pr TC.2.length cpr], .int .i64 0]) u' ∧ u'.heap[b3]? = some (.cells #[.slice pb TC.1.length cpb, .slice pr TC.2.length cpr] 60 (0, 0))) X := fun X e => by
      rw [e]
      refine ⟨hu.setRow (fun h => absurd h (by omega)) _, ?_, ?_⟩
      · obtain ⟨h1, h2⟩ := TrV.out hp.1
        have kk : Keeps (fun k => k = b3) u (u.setRow b3 #[.slice pb TC.1.length cpb, .slice pr TC.2.length cpr]) := Keeps.setRow (F := fun k => k = b3) (Keeps.refl _ _) (fun _ => rfl) _
        exact ⟨_, _, rfl, owns_apart h1 kk (fun g hg => ne_tg (tg_own h1 g hg) (tg_cells hp.2) (by decide)), owns_apart h2 kk (fun g hg => ne_tg (tg_own h2 g hg) (tg_cells hp.2) (by decide))⟩
      · simp [World.setRow, Array.getElem?_modify, hp.2]
    exact hx _ hst
  (try simp only [Act.put, List.setIfInBounds_toArray, List.set_cons_zero, List.set_cons_succ])
  refine tailR_zero fun u7 hu hp => ?_
  (try simp only [Act.put, List.setIfInBounds_toArray, List.set_cons_zero, List.set_cons_succ])
  obtain ⟨hTr, hB3⟩ := hp
  have hTr := TrV.out hTr
  have HTr := hidE hTr
  have HU7 := hidE (HU6.out.trans hu)
  have HH7 := hidE (HH6.out.same hu)
  have B47 := hidE (hu.get B46.out id)
  have B57 := hidE (hu.get B56.out id)
  have B37 := hidE hB3
  clear hu hTr hB3 HH6 B46 B56 HT HM
  have eU : IntKind.u32.wrap (usedL (pl l) : Nat) = (usedL (pl l) : Nat) := by
    have := HH7.out.ram.n2
    simp [IntKind.wrap, IntKind.bits, IntKind.signed]; omega
  have n3A : b3 ≠ R.A := ne_tg (tg_cells B37.out) HH7.out.tA.2.2.2.1 (by decide)
  have ncA : cb ≠ R.A := ne_tg HH7.out.tA.1 HH7.out.tA.2.2.2.1 (by decide)
  have C0 := hidE (HH7.out.c 0)
  have C4 := hidE (HH7.out.c 4)
  have hA7 := lt_of_block HH7.out.ram.hA
  have n2R := HH7.out.ram.n2
  have hAw : R.A < w.heap.size := HLT.out _ (.inr (.inr (.inr (.inr rfl))))
  by_cases hfit : usedL (pl l) + TC.1.length ≤ 64 * R.n
  · go_wp2_with fail
    refine wp_region_rp [0, 1, 2, 3, 4, 5, 6, 7, 8, 9, 10, 11, 12, 13] [14, 15, 16] 3 (Keeps (fun k => k = R.A) u7) (Same u7) (by kernel_rfl) (by kernel_rfl) (fun u u' h k => h.trans (k.mono fun _ _ h => h.elim)) (Keeps.refl _ _).drew (fun u u' h k => h.trans k) (Keeps.refl _ _).drew ?_
    simp only [opsOf, List.filterMap_cons, List.filterMap_nil, List.getElem?_cons_zero, List.getElem?_cons_succ]
    repeat (first | (refine seqV_run (v := ?_) rfl (fun u hu => ?_) ?_; rotate_left; (focus (have d1 := cellK hu ncA C0.out; have d2 := cellK hu ncA C4.out; have d3 := cell_of (hu.get B37.out n3A); simp only [cA] at d1 d2; clear hu; go_simp; first | done | with_reducible rfl)); (try simp only [Act.put, List.setIfInBounds_toArray, List.set_cons_zero, List.set_cons_succ])) | (refine seqV_no rfl ?_; (try simp only [Act.put, List.setIfInBounds_toArray, List.set_cons_zero, List.set_cons_succ])))
    refine seqV_nil ?_
    refine tailR_cons (fun x u => x = .bool true ∧ IsRam u R (R.put M (usedL (pl l)) TC.1)) rfl (fun x u u' h k => ⟨h.1, h.2.same k⟩) (fun u hu hp => ?_) (fun v1 hv1 => ?_)
    · refine stepR_callM2 (w' := u) (f := 60) (args := #[.pointer (some ⟨R.b, 0, none⟩), .int .u32 (usedL (pl l) : Nat), .slice pb TC.1.length cpb]) (by clear hu hp; go_simp) ?_
      refine (fill_ram u (HH7.out.ram.same hp) (usedL (pl l)) (by omega) _ TC.1 (bySr_of (owns_apart HTr.out.1 hp (fun _ _ => id)) HB.out hAw)).mono fun e w'' h => ?_
      unfold LayPost at h
      rw [if_pos ⟨by omega, by omega⟩] at h
      exact ⟨_, h.1, hu.trans h.2.2, rfl, h.2.1⟩
    obtain ⟨_, _, rfl, _⟩ := hv1
    (try simp only [Act.put, List.setIfInBounds_toArray, List.set_cons_zero, List.set_cons_succ])
    ((refine tailR_run (v := ?_) rfl (fun u u' h k => ⟨h.1, h.2.same k⟩) (fun u hu hp => ?_) ?_; rotate_left; (focus (clear hu hp; go_simp; first | done | with_reducible rfl)); (try simp only [Act.put, List.setIfInBounds_toArray, List.set_cons_zero, List.set_cons_succ])))
    ((refine tailR_run (v := ?_) rfl (fun u u' h k => ⟨h.1, h.2.same k⟩) (fun u hu hp => ?_) ?_; rotate_left; (focus (clear hu hp; go_simp; first | done | with_reducible rfl)); (try simp only [Act.put, List.setIfInBounds_toArray, List.set_cons_zero, List.set_cons_succ])))
    refine tailR_zero fun u8 hu hp => ?_
    (try simp only [Act.put, List.setIfInBounds_toArray, List.set_cons_zero, List.set_cons_succ])
    have HH8 := hidE (HH7.out.ram' hu hp.2)
    have HK8 := hidE (((HU7.out.mono (G := fun g => Wr cb R V g) fun _ _ h => h.elim).trans (hu.mono fun _ _ e => .inr (.inr (.inr (.inr e))))))
    have HF8 := hidE ((HF.out.keeps HU7.out (fun _ _ => id)).keeps2 hu (fun hx g hg => by have h1 := hfN hx g hg; have h2 := HH7.out.far R.A (.inr (.inr (.inr (.inr rfl)))); omega))
    have HTr8 := hidE (And.intro (owns_apart HTr.out.1 hu (fun g hg => by have h1 := (World.ownsRow.lt HTr.out.1 g hg.symm).1; omega)) (owns_apart HTr.out.2 hu (fun g hg => by have h1 := (World.ownsRow.lt HTr.out.2 g hg.symm).1; omega)))
    have B38 := hidE (hu.get B37.out n3A)
    have B48 := hidE (hu.get B47.out (ne_tg (tg_cells B47.out) HH7.out.tA.2.2.2.1 (by decide)))
    have B58 := hidE (hu.get B57.out (ne_tg (tg_cells B57.out) HH7.out.tA.2.2.2.1 (by decide)))
    clear hu hp HH7 HU7 HF HTr B37 B47 B57 C0 C4 HN eU n3A ncA
    go_wp2_with fail
    have hB5e := cell_of B58.out 5
    refine wp_region_rz [0, 1, 2, 3, 4, 5, 6, 7, 8, 9] [10] 12 [11] [13] 0 (Same u8) u8.heap.size (by kernel_rfl) (by kernel_rfl) (fun u u' h k => Keeps.trans h k) (Keeps.refl _ _).drew (fun u h => h.size) _ rfl rfl (Z := #[.int .u32 0, .int .u32 0, .int .i64 0, .slice none 0 0, .slice none 0 0, .int .i64 0, .slice none 0 0, .bool false]) (ty := 112) (fun ρ u hu => by simp only [ptrV]; clear hu; go_simp) ?_
    simp only [opsOf, List.filterMap_cons, List.filterMap_nil, List.getElem?_cons_zero, List.getElem?_cons_succ]
    repeat (first | (refine seqV_run (v := ?_) rfl (fun u hu => ?_) ?_; rotate_left; (focus (have d1 := (HH8.out.same hu).c 4; have d2 := cell_of (hu.get B48.out id); have d3 := cell_of (hu.get B58.out id); have d4 := cell_of (hu.get B38.out id); simp only [cA] at d1; clear hu; go_simp; first | done | with_reducible rfl)); (try simp only [Act.put, List.setIfInBounds_toArray, List.set_cons_zero, List.set_cons_succ])) | (refine seqV_no rfl ?_; (try simp only [Act.put, List.setIfInBounds_toArray, List.set_cons_zero, List.set_cons_succ])))
    refine seqV_nil ?_
    refine chainP_call (f := 74) (args := #[b.fr]) (fun x u => IntSl u x xs ∧ ∀ g, some g = x.ownBlock → u8.heap.size ≤ g ∧ g < u.heap.size ∧ tg u g = some (some 3)) rfl (fun x u u' h k => ⟨h.1.keeps k (fun _ _ => id), fun g hg => ⟨(h.2 g hg).1, Nat.lt_of_lt_of_le (h.2 g hg).2.1 k.size, tg_keeps k (h.2 g hg).2.2 id⟩⟩) (fun u hu _ => by clear hu; go_simp) (fun u hu _ => (clone_any u b.fr xs (HF8.out.keeps hu (fun _ _ => id)) hlx).mono (by
      rintro _ u' ⟨v', rfl, h1, h2, h3⟩
      have hz := hu.size
      exact ⟨_, rfl, h2, h1, fun g hg => ⟨Nat.le_trans hz (h3 g hg).1, (h3 g hg).2.1, (h3 g hg).2.2⟩⟩)) (fun fv hfv => ?_)
    obtain ⟨_, _, ⟨pf, cf, rfl, _⟩, _⟩ := hfv
    (try simp only [Act.put, List.setIfInBounds_toArray, List.set_cons_zero, List.set_cons_succ])
    refine chainP_nil ?_
    repeat (first | (refine seqV_run (v := ?_) rfl (fun u hu => ?_) ?_; rotate_left; (focus (clear hu; go_simp; first | done | with_reducible rfl)); (try simp only [Act.put, List.setIfInBounds_toArray, List.set_cons_zero, List.set_cons_succ])) | (refine seqV_no rfl ?_; (try simp only [Act.put, List.setIfInBounds_toArray, List.set_cons_zero, List.set_cons_succ])))
    refine seqV_nil ?_
    intro b12 hb12
    (try simp only [ptrV])
    refine tailR_zero fun u9 hu hp => ?_
    obtain ⟨⟨hf9, hf9b⟩, hB12⟩ := hp
    (try simp only [List.setIfInBounds_toArray, List.set_cons_zero, List.set_cons_succ])
    have r12 := rowAt_of hB12
    have HH9 := hidE (HH8.out.same hu)
    have HK9 := hidE (HK8.out.trans (hu.mono fun _ _ h => h.elim))
    have HU9 := hidE hu
    have HF9 := hidE (And.intro hf9 hf9b)
    have HTr9 := hidE (And.intro (owns_apart HTr8.out.1 hu (fun _ _ => id)) (owns_apart HTr8.out.2 hu (fun _ _ => id)))
    have B39 := hidE (hu.get B38.out id)
    have B49 := hidE (hu.get B48.out id)
    have B129 := hidE hB12
    clear hu hf9 hf9b hB12 HH8 HTr8 B38 B48 B58 HF8 hB5e
    go_wp2_with fail
    obtain ⟨U, hU⟩ : ∃ U, u9.setRow b12 #[.int .u32 k1, .int .u32 k2, .int .i64 (usedL (pl l) : Nat), .slice pb TC.1.length cpb, .slice pr TC.2.length cpr, .int .i64 b.fin, .slice pf xs.length cf, .bool false] = U := ⟨_, rfl⟩
    rw [hU]
    have kk : Keeps (fun k => k = b12) u9 U := by rw [← hU]; exact Keeps.setRow (F := fun k => k = b12) (Keeps.refl _ _) (fun _ => rfl) _
    have hz8 := HK8.out.size
    have hb12w : w.heap.size ≤ b12 := Nat.le_trans hz8 hb12
    have tB := tg_cells B129.out
    have HU1 := hidE (HH9.out.keeps kk (fun k hk => by have := HLT.out k hk; omega) (ne_tg HH9.out.tA.2.1 tB (by decide)) (ne_tg HH9.out.tA.2.2.1 tB (by decide)) (fun x hx k hk => by have := HRO.out x hx k hk; omega))
    have HKU := hidE (keepsThen HK9.out kk (fun k e => .inr (by omega)))
    have X1 := hidE (show FbOk U (mkFb k1 k2 (usedL (pl l) : Nat) TC b.fin xs (.slice pb TC.1.length cpb) (.slice pr TC.2.length cpr) (.slice pf xs.length cf)) from fbOk_mk (fp := ⟨k1, k2, (usedL (pl l) : Nat), TC.1, TC.2, b.fin, xs, true⟩) (owns_apart HTr9.out.1 kk (fun g hg => ne_tg (tg_own HTr9.out.1 g hg) tB (by decide))) (owns_apart HTr9.out.2 kk (fun g hg => ne_tg (tg_own HTr9.out.2 g hg) tB (by decide))) (HF9.out.1.keeps kk (fun g hg => ne_tg (HF9.out.2 g hg).2.2 tB (by decide))) (fun _ g hg => Nat.lt_of_lt_of_le (HF9.out.2 g hg).2.1 kk.size))
    have X2 := hidE (fun (k : Nat) (hk : ROk (mkFb k1 k2 (usedL (pl l) : Nat) TC b.fin xs (.slice pb TC.1.length cpb) (.slice pr TC.2.length cpr) (.slice pf xs.length cf)) k) => (show w.heap.size ≤ k by
      rcases hk with hk | hk | hk
      · exact (World.ownsRow.lt HTr9.out.1 k hk.symm).1
      · exact (World.ownsRow.lt HTr9.out.2 k hk.symm).1
      · exact Nat.le_trans hz8 (HF9.out.2 k hk.2).1))
    have BX := hidE (show U.heap[b12]? = some (.cells #[.int .u32 k1, .int .u32 k2, .int .i64 (usedL (pl l) : Nat), .slice pb TC.1.length cpb, .slice pr TC.2.length cpr, .int .i64 b.fin, .slice pf xs.length cf, .bool false] 112 (0, 0)) by rw [← hU]; simp [World.setRow, Array.getElem?_modify, B129.out])
    have B3U := hidE (kk.get B39.out (ne_tg (tg_cells B39.out) tB (by decide)))
    have B4U := hidE (kk.get B49.out (ne_tg (tg_cells B49.out) tB (by decide)))
    clear r12 kk hU HH9 HK9 HU9 HF9 HTr9 B39 B49 B129 tB HK8 hz8 hb12
    refine wp_region_ra [0, 1, 2, 3, 4, 5, 6, 7, 8, 9] [10] 0 (Same _) (by kernel_rfl) (by kernel_rfl) (fun u u' h k => Keeps.trans h k) (Keeps.refl _ _).drew ?_; simp only [opsOf, List.filterMap_cons, List.filterMap_nil, List.getElem?_cons_zero, List.getElem?_cons_succ]
    repeat (first | (refine seqV_run (v := ?_) rfl (fun u hu => ?_) ?_; rotate_left; (focus (have d1 := (HU1.out.same hu).c 2; have d2 := cell_of (hu.get B4U.out id); have d3 := (HU1.out.same hu).c 1; simp only [cA, ebl] at d1 d3; clear hu; go_simp; first | done | with_reducible rfl)); (try simp only [Act.put, List.setIfInBounds_toArray, List.set_cons_zero, List.set_cons_succ])) | (refine seqV_no rfl ?_; (try simp only [Act.put, List.setIfInBounds_toArray, List.set_cons_zero, List.set_cons_succ])))
    refine seqV_nil ?_
    refine tailR_zero fun u10 hu _ => ?_
    (try simp only [Act.put, List.setIfInBounds_toArray, List.set_cons_zero, List.set_cons_succ])
    obtain ⟨u11, hrun, hm11, hk11⟩ := (HU1.out.same hu).mp.put 93 Tryz.underlying93 k1 k2 (l.length : Nat) (by rw [look_live, hno]; rfl)
    simp only [kyV] at hrun
    have tM := (HU1.out.same hu).tA.2.2.2.2.1
    have HH11 := hidE ((HU1.out.same hu).map' hk11 hm11)
    have HK11 := hidE ((HKU.out.trans (hu.mono fun _ _ h => h.elim)).trans (hk11.mono fun _ _ e => .inr (.inr (.inr (.inl e)))))
    have X11 := hidE ((X1.out.keeps hu (fun _ _ => id)).keeps hk11 (fun g hg e => by have h1 := X2.out g hg; have h2 := HLT.out V.mb (.inr (.inr (.inr (.inl rfl)))); omega))
    have B311 := hidE (hk11.get (hu.get B3U.out id) (ne_tg (tg_cells (hu.get B3U.out id)) tM (by decide)))
    have BX11 := hidE (hk11.get (hu.get BX.out id) (ne_tg (tg_cells (hu.get BX.out id)) tM (by decide)))
    clear hu hm11 hk11 tM HU1 HKU X1 B3U B4U BX
    have c3 := cell_of B311.out
    go_wp2_with fail
    clear hrun
    obtain ⟨Br, hrr⟩ := X11.out.r
    refine (exits_any u11 Br (.slice pr TC.2.length cpr) TC.2 hrr (by omega)).mono ?_
    rintro _ u12 ⟨ev, rfl, hev, hk12⟩
    obtain ⟨pe, ce, rfl⟩ := owns_slice hev
    have HH12 := hidE (HH11.out.same hk12)
    have HK12 := hidE (HK11.out.trans (hk12.mono fun _ _ h => h.elim))
    have X12 := hidE (X11.out.keeps hk12 (fun _ _ => id))
    have B312 := hidE (hk12.get B311.out id)
    have BX12 := hidE (hk12.get BX11.out id)
    clear hev hrr hk12 HH11 HK11 X11 B311 BX11 c3
    go_wp2_with fail
    have hE : (exL TC.2).length ≤ 50 := Nat.le_trans (exL_le _) hlen.2
    go_loopw [83] (fun t83 wr => ∃ (k : Nat) (ow' : Value) (ol' : List Int), t83 = .int .i64 (k : Int) ∧ k ≤ (exL TC.2).length ∧ ol' = ownL (pl l) ++ List.replicate k (l.length : Int) ∧ IsC wr N cb R (R.put M (usedL (pl l)) TC.1) { V with ow := ow' } l ol' (liveL (pl l) ++ [((k1, k2), ((l.length : Nat) : Int))]) (usedL (pl l) : Nat) hi mi ∧ Keeps (fun g => Wr cb R V g) w wr ∧
      FbOk wr (mkFb k1 k2 (usedL (pl l) : Nat) TC b.fin xs (.slice pb TC.1.length cpb) (.slice pr TC.2.length cpr) (.slice pf xs.length cf)) ∧ wr.heap[b3]? = some (.cells #[.slice pb TC.1.length cpb, .slice pr TC.2.length cpr] 60 (0, 0)) ∧
      wr.heap[b12]? = some (.cells #[.int .u32 k1, .int .u32 k2, .int .i64 (usedL (pl l) : Nat), .slice pb TC.1.length cpb, .slice pr TC.2.length cpr, .int .i64 b.fin, .slice pf xs.length cf, .bool false] 112 (0, 0)) ∧
      (∀ g, some g = ow'.ownBlock → some g = V.ow.ownBlock ∨ u12.heap.size ≤ g) ∧ u12.heap.size ≤ wr.heap.size) (fun t83 _ => ((exL TC.2).length - intOf t83).toNat)
    case atStart => exact ⟨0, V.ow, ownL (pl l), rfl, by omega, by simp, HH12.out, HK12.out, X12.out, B312.out, BX12.out, fun g hg => .inl hg, Nat.le_refl _⟩
    case round =>
      obtain ⟨k, ow', ol', rfl, hkE, hol', q1, q2, q3, q4, q5, q6, q7⟩ := hrel
      have HQ := hidE q1
      have HK := hidE q2
      have HX := hidE q3
      have HB3 := hidE q4
      have HBX := hidE q5
      have HF := hidE q6
      have HZ := hidE q7
      have HOL := hidE hol'
      have hlen' : ol'.length ≤ 60050 := by rw [hol']; simp; omega
      obtain ⟨p5, c5, e5⟩ := rowI_sl q1.ow
      simp only at e5
      subst e5
      have hz12 := HK12.out.size
      have hX12 := X12.out.lt
      clear q1 q2 q3 q4 q5 q6 q7 hol' HH12 HK12 B312 BX12 X12
      by_cases hk : k < (exL TC.2).length
      · have p0 : decide ((k : Int) < ((exL TC.2).length : Int)) = true := decide_eq_true (by omega)
        have e1 := wrapI ((k : Int) + 1) (by omega) (by omega)
        have ncb : ∀ g, some g = (Value.slice p5 ol'.length c5).ownBlock → g ≠ cb := fun g hg => ne_tg (HQ.out.tA.2.2.2.2.2.2 g hg) HQ.out.tA.1 (by decide)
        have C3 := hidE (HQ.out.c 3)
        have C1 := hidE (HQ.out.c 1)
        have F3 := hidE (HQ.out.fz 3)
        go_wp2_with fail
        refine wp_region_rp [0, 1, 2, 3, 4, 5, 6, 7, 8, 9] [10, 11, 12, 13, 14] 2 (Keeps (fun g => some g = (Value.slice p5 ol'.length c5).ownBlock) wr) (Same wr) (by kernel_rfl) (by kernel_rfl) (fun u u' h k => h.trans (k.mono fun _ _ h => h.elim)) (Keeps.refl _ _).drew (fun u u' h k => h.trans k) (Keeps.refl _ _).drew ?_
        simp only [opsOf, List.filterMap_cons, List.filterMap_nil, List.getElem?_cons_zero, List.getElem?_cons_succ]
        repeat (first | (refine seqV_run (v := ?_) rfl (fun u hu => ?_) ?_; rotate_left; (focus (have d1 := cellK hu (fun e => ncb cb e rfl) C3.out; have d2 := cellK hu (fun e => ncb cb e rfl) C1.out; simp only [cA, ebl] at d1 d2; clear hu; go_simp; first | done | with_reducible rfl)); (try simp only [Act.put, List.setIfInBounds_toArray, List.set_cons_zero, List.set_cons_succ])) | (refine seqV_no rfl ?_; (try simp only [Act.put, List.setIfInBounds_toArray, List.set_cons_zero, List.set_cons_succ])))
        refine seqV_nil ?_
        refine tailR_cons (fun x u => Same wr u ∧ ∃ g, x = .slice (some ⟨g, 0, none⟩) 1 1 ∧ u.heap[g]? = some (.cells #[.int .i64 (l.length : Int)] 3 (0, 0))) rfl (fun x u u' h k => ⟨h.1.trans k, h.2.elim fun g hg => ⟨g, hg.1, k.get hg.2 id⟩⟩) (fun u hu hp => ?_) (fun v1 hv1 => ?_)
        · have hx : ∀ X : Result Next, X = .ok (.value (.slice (some ⟨u.heap.size, 0, none⟩) 1 1)) (u.alloc (.cells #[.int .i64 (l.length : Int)] 3)) → stepR Tryz.prog (fun x u' => Keeps (fun g => some g = (Value.slice p5 ol'.length c5).ownBlock) wr u' ∧ Same wr u' ∧ ∃ g, x = .slice (some ⟨g, 0, none⟩) 1 1 ∧ u'.heap[g]? = some (.cells #[.int .i64 (l.length : Int)] 3 (0, 0))) X := fun X e => by
            rw [e]
            exact ⟨hu.alloc _, hp.alloc _, _, rfl, block_new _ _⟩
          exact hx _ (by clear hu hp; go_simp)
        obtain ⟨_, _, _, g1, rfl, _⟩ := hv1
        (try simp only [Act.put, List.setIfInBounds_toArray, List.set_cons_zero, List.set_cons_succ])
        refine tailR_cons (fun x u => RowI u N x (ol' ++ [(l.length : Int)]) ∧ ∀ g, some g = x.ownBlock → some g = (Value.slice p5 ol'.length c5).ownBlock ∨ wr.heap.size ≤ g) rfl (fun x u u' h k => ⟨owns_apart h.1 k (fun _ _ => id), h.2⟩) (fun u hu hp => ?_) (fun v2 hv2 => ?_)
        · obtain ⟨hs, g, e, hg⟩ := hp
          cases e
          obtain ⟨g', cap, u', hap, h5, h6, h7⟩ := rowI_push (owns_apart HQ.out.ow hs (fun _ _ => id)) g1 (l.length : Int) hg (by omega) (by have := hs.size; have := HK.out.size; omega)
          have hx : ∀ X : Result Next, X = .ok (.value (.slice (some ⟨g', 0, none⟩) (ol'.length + 1) cap)) u' → stepR Tryz.prog (fun x u' => Keeps (fun g => some g = (Value.slice p5 ol'.length c5).ownBlock) wr u' ∧ RowI u' N x (ol' ++ [(l.length : Int)]) ∧ ∀ g, some g = x.ownBlock → some g = (Value.slice p5 ol'.length c5).ownBlock ∨ wr.heap.size ≤ g) X := fun X e => by
            rw [e]
            refine ⟨hu.trans h6, h5, fun j hj => ?_⟩
            obtain rfl : j = g' := Option.some.inj hj
            rcases h7 with h7 | h7
            · exact .inl h7
            · exact .inr (by have := hs.size; omega)
          exact hx _ (exec_app (.tmp 89) (.tmp 95) 34 rfl rfl rfl hap)
        obtain ⟨_, _, hv2, hv3⟩ := hv2
        obtain ⟨p6, c6, rfl⟩ := rowI_sl hv2
        (try simp only [Act.put, List.setIfInBounds_toArray, List.set_cons_zero, List.set_cons_succ])
        refine tailR_zero fun u13 hu hp => ?_
        have d3 := cellK hu (fun e => ncb cb e rfl) C3.out
        have f3 := frozenK hu (fun e => ncb cb e rfl) (lt_of_block HQ.out.hb) F3.out
        simp only [cA] at d3
        have HU13 := hidE hu
        have HP13 := hidE hp
        clear hu hp hv2
        have hl1 : (ol' ++ [(l.length : Int)]).length = ol'.length + 1 := by simp
        go_wp2_with fail
        have kk : Keeps (fun g => some g = (Value.slice p5 ol'.length c5).ownBlock ∨ g = cb) wr (u13.setCell ⟨cb, 3, none⟩ (.slice p6 (ol'.length + 1) c6)) := (HU13.out.mono fun _ _ h => .inl h).setCell (fun _ => .inr rfl) _
        have hI := HQ.out.ow' HU13.out HP13.out.1 (fun g hg => HP13.out.2 g hg)
        rw [hl1] at hI
        have hp2 := HP13.out.2
        rw [hl1] at hp2
        refine ⟨⟨k + 1, .slice p6 (ol'.length + 1) c6, ol' ++ [(l.length : Int)], by simp, by omega, ?_, hI, keepsThen HK.out kk (fun g hg => ?_), HX.out.keeps kk (fun g hg e => ?_), kk.get HB3.out ?_, kk.get HBX.out ?_, fun g hg => ?_, Nat.le_trans HZ.out kk.size⟩, by simp only [intOf]; omega⟩
        · rw [HOL.out, List.append_assoc, List.replicate_succ']
        · rcases hg with hg | rfl
          · rcases HF.out g hg with hg | hg
            · exact .inl (.inr (.inr (.inl hg)))
            · exact .inr (by omega)
          · exact .inl (.inl rfl)
        · have h1 := X2.out g hg
          rcases e with e | rfl
          · rcases HF.out g e with e | e
            · have := HLT.out g (.inr (.inr (.inl e))); omega
            · have := hX12 g hg; omega
          · have := HLT.out g (.inl rfl); omega
        · rintro (e | e)
          · exact ne_tg (tg_cells HB3.out) (HQ.out.tA.2.2.2.2.2.2 _ e) (by decide) rfl
          · exact ne_tg (tg_cells HB3.out) HQ.out.tA.1 (by decide) e
        · rintro (e | e)
          · exact ne_tg (tg_cells HBX.out) (HQ.out.tA.2.2.2.2.2.2 _ e) (by decide) rfl
          · exact ne_tg (tg_cells HBX.out) HQ.out.tA.1 (by decide) e
        · rcases hp2 g hg with e | e
          · exact HF.out g e
          · exact .inr (by have := HZ.out; omega)
      · have p0 : decide ((k : Int) < ((exL TC.2).length : Int)) = false := decide_eq_false (by omega)
        obtain rfl : k = (exL TC.2).length := by omega
        have hbw : ∀ g, some g = (Value.slice p1 l.length c1).ownBlock → g < w.heap.size := fun g hg => HLT.out g (.inr (.inl (by rw [ebl]; exact hg)))
        have ncb : ∀ g, some g = (Value.slice p1 l.length c1).ownBlock → g ≠ cb := fun g hg => ne_tg (HQ.out.tA.2.2.2.2.2.1 g (by simp only [ebl]; exact hg)) HQ.out.tA.1 (by decide)
        have C1 := hidE (HQ.out.c 1)
        have F1 := hidE (HQ.out.fz 1)
        go_wp2_with fail
        refine wp_region_rp [0, 1, 2, 3, 4, 5] [6, 7, 8, 9, 10] 2 (Keeps (fun g => some g = (Value.slice p1 l.length c1).ownBlock) wr) (Same wr) (by kernel_rfl) (by kernel_rfl) (fun u u' h k => h.trans (k.mono fun _ _ h => h.elim)) (Keeps.refl _ _).drew (fun u u' h k => h.trans k) (Keeps.refl _ _).drew ?_
        simp only [opsOf, List.filterMap_cons, List.filterMap_nil, List.getElem?_cons_zero, List.getElem?_cons_succ]
        repeat (first | (refine seqV_run (v := ?_) rfl (fun u hu => ?_) ?_; rotate_left; (focus (have d1 := cellK hu (fun e => ncb cb e rfl) C1.out; have d2 := cell_of (hu.get HBX.out (fun e => by have := hbw b12 e; omega)); simp only [cA, ebl] at d1; clear hu; go_simp; first | done | with_reducible rfl)); (try simp only [Act.put, List.setIfInBounds_toArray, List.set_cons_zero, List.set_cons_succ])) | (refine seqV_no rfl ?_; (try simp only [Act.put, List.setIfInBounds_toArray, List.set_cons_zero, List.set_cons_succ])))
        refine seqV_nil ?_
        refine tailR_cons (fun x u => Same wr u ∧ ∃ g, x = .slice (some ⟨g, 0, none⟩) 1 1 ∧ u.heap[g]? = some (.cells #[.int .u32 k1, .int .u32 k2, .int .i64 (usedL (pl l) : Nat), .slice pb TC.1.length cpb, .slice pr TC.2.length cpr, .int .i64 b.fin, .slice pf xs.length cf, .bool false] 112 (0, 0))) rfl (fun x u u' h k => ⟨h.1.trans k, h.2.elim fun g hg => ⟨g, hg.1, k.get hg.2 id⟩⟩) (fun u hu hp => ?_) (fun v1 hv1 => ?_)
        · have hx : ∀ X : Result Next, X = .ok (.value (.slice (some ⟨u.heap.size, 0, none⟩) 1 1)) (u.alloc (.cells #[.int .u32 k1, .int .u32 k2, .int .i64 (usedL (pl l) : Nat), .slice pb TC.1.length cpb, .slice pr TC.2.length cpr, .int .i64 b.fin, .slice pf xs.length cf, .bool false] 112)) → stepR Tryz.prog (fun x u' => Keeps (fun g => some g = (Value.slice p1 l.length c1).ownBlock) wr u' ∧ Same wr u' ∧ ∃ g, x = .slice (some ⟨g, 0, none⟩) 1 1 ∧ u'.heap[g]? = some (.cells #[.int .u32 k1, .int .u32 k2, .int .i64 (usedL (pl l) : Nat), .slice pb TC.1.length cpb, .slice pr TC.2.length cpr, .int .i64 b.fin, .slice pf xs.length cf, .bool false] 112 (0, 0))) X := fun X e => by
            rw [e]
            exact ⟨hu.alloc _, hp.alloc _, _, rfl, block_new _ _⟩
          exact hx _ (by clear hu hp; go_simp)
        obtain ⟨_, _, _, g1, rfl, _⟩ := hv1
        (try simp only [Act.put, List.setIfInBounds_toArray, List.set_cons_zero, List.set_cons_succ])
        have hnp : N ≤ wr.heap.size := by have := HK.out.size; omega
        have hbl0 := HQ.out.bl
        simp only [ebl] at hbl0
        have HBL := hidE hbl0
        clear hbl0
        refine tailR_cons (fun x u => RowX u N 112 8 x ((l ++ [(mkFb k1 k2 (usedL (pl l) : Nat) TC b.fin xs (.slice pb TC.1.length cpb) (.slice pr TC.2.length cpr) (.slice pf xs.length cf))]).map fbP) ∧ ∀ g, some g = x.ownBlock → some g = (Value.slice p1 l.length c1).ownBlock ∨ wr.heap.size ≤ g) rfl (fun x u u' h k => ⟨h.1.keeps k (fun _ _ => id), h.2⟩) (fun u hu hp => ?_) (fun v2 hv2 => ?_)
        · obtain ⟨hs, g, e, hg⟩ := hp
          cases e
          obtain ⟨g', cap, u', hap, h5, h6⟩ := (HBL.out.keeps hs (fun _ _ => id)).push (P := Tryz.prog) 92 _ 104 Tryz.underlying92 laid_info (by rfl) (by decide) (by decide) [.int .u32 k1, .int .u32 k2, .int .i64 (usedL (pl l) : Nat), .slice pb TC.1.length cpb, .slice pr TC.2.length cpr, .int .i64 b.fin, .slice pf xs.length cf, .bool false] rfl (by simp [Value.oneCell']) g1 1 hg rfl (by simp; omega) (by have := hs.size; omega)
          simp only [List.length_map] at hap h5 h6
          have hx : ∀ X : Result Next, X = .ok (.value (.slice (some ⟨g', 0, none⟩) (l.length + 1) cap)) u' → stepR Tryz.prog (fun x u' => Keeps (fun g => some g = (Value.slice p1 l.length c1).ownBlock) wr u' ∧ RowX u' N 112 8 x ((l ++ [(mkFb k1 k2 (usedL (pl l) : Nat) TC b.fin xs (.slice pb TC.1.length cpb) (.slice pr TC.2.length cpr) (.slice pf xs.length cf))]).map fbP) ∧ ∀ g, some g = x.ownBlock → some g = (Value.slice p1 l.length c1).ownBlock ∨ wr.heap.size ≤ g) X := fun X e => by
            rw [e]
            refine ⟨hu.trans h6.keeps, by rw [List.map_append]; exact h5, fun j hj => ?_⟩
            rcases h6.fresh j hj with h7 | h7
            · exact .inl h7
            · exact .inr (by have := hs.size; omega)
          exact hx _ (exec_app (.tmp 104) (.tmp 106) 92 rfl rfl rfl hap)
        obtain ⟨_, _, hv2, hv3⟩ := hv2
        obtain ⟨p6, c6, rfl⟩ := hv2.sl
        (try simp only [Act.put, List.setIfInBounds_toArray, List.set_cons_zero, List.set_cons_succ])
        refine tailR_zero fun u13 hu hp => ?_
        have d3 := cellK hu (fun e => ncb cb e rfl) C1.out
        have f3 := frozenK hu (fun e => ncb cb e rfl) (lt_of_block HQ.out.hb) F1.out
        simp only [cA] at d3
        have HU13 := hidE hu
        have HP13 := hidE hp
        clear hu hp hv2 hv3
        have hl1 : ((l ++ [(mkFb k1 k2 (usedL (pl l) : Nat) TC b.fin xs (.slice pb TC.1.length cpb) (.slice pr TC.2.length cpr) (.slice pf xs.length cf))]).map fbP).length = l.length + 1 := by simp
        go_wp2_with fail
        have kk : Keeps (fun g => some g = (Value.slice p1 l.length c1).ownBlock ∨ g = cb) wr (u13.setCell ⟨cb, 1, none⟩ (.slice p6 (l.length + 1) c6)) := (HU13.out.mono fun _ _ h => .inl h).setCell (fun _ => .inr rfl) _
        have hI := HQ.out.bl' (by simp only [ebl]; exact HU13.out) HP13.out.1 (fun g hg => by simp only [ebl]; exact HP13.out.2 g hg) HX.out (fun g hg e => by
          have h1 := X2.out g hg
          rcases e with e | e | e | e | e
          · have := HLT.out g (.inl e); omega
          · have := HLT.out g (.inr (.inl e)); omega
          · rcases HF.out g e with e | e
            · have := HLT.out g (.inr (.inr (.inl e))); omega
            · have := hX12 g hg; omega
          · have := HLT.out g (.inr (.inr (.inr (.inl e)))); omega
          · have := HLT.out g (.inr (.inr (.inr (.inr e)))); omega)
        rw [hl1] at hI
        have HI := hidE hI
        have hp2 := HP13.out.2
        rw [hl1] at hp2
        have HP2 := hidE hp2
        clear hp2
        have HKK := hidE (keepsThen HK.out kk (fun g hg => by
          rcases hg with hg | rfl
          · exact .inl (.inr (.inl (by rw [ebl]; exact hg)))
          · exact .inl (.inl rfl)))
        have HB3' := hidE (kk.get HB3.out (by
          rintro (e | e)
          · exact ne_tg (tg_cells HB3.out) (HQ.out.tA.2.2.2.2.2.1 _ (by simp only [ebl]; exact e)) (by decide) rfl
          · exact ne_tg (tg_cells HB3.out) HQ.out.tA.1 (by decide) e))
        have HBX' := hidE (kk.get HBX.out (by
          rintro (e | e)
          · have := hbw _ e; omega
          · exact ne_tg (tg_cells HBX.out) HQ.out.tA.1 (by decide) e))
        clear hI kk d3 f3 HU13 HP13
        obtain ⟨U, hU⟩ : ∃ U, u13.setCell ⟨cb, 1, none⟩ (.slice p6 (l.length + 1) c6) = U := ⟨_, rfl⟩
        rw [hU] at HI HKK HB3' HBX' ⊢
        clear hU HQ HK HB3 HBX HX
        have C4 := hidE (HI.out.c 4)
        have F4 := hidE (HI.out.fz 4)
        have n2R := HI.out.ram.n2
        have eS := wrapI ((usedL (pl l) : Nat) + (TC.1.length : Nat)) (by omega) (by omega)
        refine wp_region_ra [0, 1, 2, 3, 4, 5, 6, 7] [8, 9, 10] 0 (Same _) (by kernel_rfl) (by kernel_rfl) (fun u u' h k => Keeps.trans h k) (Keeps.refl _ _).drew ?_; simp only [opsOf, List.filterMap_cons, List.filterMap_nil, List.getElem?_cons_zero, List.getElem?_cons_succ]
        repeat (first | (refine seqV_run (v := ?_) rfl (fun u hu => ?_) ?_; rotate_left; (focus (have d1 := (HI.out.same hu).c 4; have d2 := cell_of (hu.get HB3'.out id); simp only [cA] at d1; clear hu; go_simp; first | done | with_reducible rfl)); (try simp only [Act.put, List.setIfInBounds_toArray, List.set_cons_zero, List.set_cons_succ])) | (refine seqV_no rfl ?_; (try simp only [Act.put, List.setIfInBounds_toArray, List.set_cons_zero, List.set_cons_succ])))
        refine seqV_nil ?_
        refine tailR_zero fun u14 hu _ => ?_
        (try simp only [Act.put, List.setIfInBounds_toArray, List.set_cons_zero, List.set_cons_succ])
        have HI14 := hidE (HI.out.same hu)
        have HK14 := hidE (HKK.out.trans (hu.mono fun _ _ h => h.elim))
        have HBX14 := hidE (hu.get HBX'.out id)
        have d1 := HI14.out.c 4
        have f1 := HI14.out.fz 4
        have cX := cell_of HBX14.out
        have nbx : b12 ≠ cb := by have := HLT.out cb (.inl rfl); omega
        simp only [cA] at d1
        clear hu HI HKK HB3' HBX'
        go_wp2_with fail
        have kc := (Keeps.refl (fun k => k = cb) u14).setCell (p := ⟨cb, 4, none⟩) (fun _ => rfl) (.int .i64 ((usedL (pl l) : Nat) + (TC.1.length : Nat)))
        have hfin := HI14.out.num' (us' := (usedL (pl l) : Nat) + (TC.1.length : Nat)) (hi' := hi) (mi' := mi) kc (block_set HI14.out.hb 4 _)
        go_ret2
        refine ⟨rfl, ⟨_, ⟨.slice pb TC.1.length cpb, .slice pr TC.2.length cpr, .slice pf xs.length cf⟩, hfin.done ?_ ?_ ?_, HK14.out.trans (kc.mono fun _ _ e => .inl e), fun g hg => ?_, fun g hg => X2.out g hg⟩⟩
        rotate_left 3
        · rcases hg with e | e | e | e | e
          · exact .inl (.inl e)
          · rcases HP2.out g e with e | e
            · exact .inl (.inr (.inl (by rw [ebl]; exact e)))
            · exact .inr (by have := HZ.out; omega)
          · rcases HF.out g e with e | e
            · exact .inl (.inr (.inr (.inl e)))
            · exact .inr (by omega)
          · exact .inl (.inr (.inr (.inr (.inl e))))
          · exact .inl (.inr (.inr (.inr (.inr e))))
        · rw [HOL.out]
          simp only [pl, List.map_append, List.map_cons, List.map_nil]
          rw [ownL_push]
          simp [exN, mkFb]
        · simp only [pl, List.map_append, List.map_cons, List.map_nil]
          rw [liveL_push _ _ rfl]
          simp [mkFb]
        · simp only [pl, List.map_append, List.map_cons, List.map_nil]
          rw [usedL_push]
          simp [mkFb]
  · go_wp2_with fail
    refine wp_region_rp [0, 1, 2, 3, 4, 5, 6, 7, 8, 9, 10, 11, 12, 13] [14, 15, 16] 3 (Same u7) (fun _ => True) (by kernel_rfl) (by kernel_rfl) (fun u u' h k => h.trans k) (Keeps.refl _ _).drew (fun _ _ _ _ => trivial) trivial ?_
    simp only [opsOf, List.filterMap_cons, List.filterMap_nil, List.getElem?_cons_zero, List.getElem?_cons_succ]
    repeat (first | (refine seqV_run (v := ?_) rfl (fun u hu => ?_) ?_; rotate_left; (focus (have d1 := cellK hu id C0.out; have d2 := cellK hu id C4.out; have d3 := cell_of (hu.get B37.out id); simp only [cA] at d1 d2; clear hu; go_simp; first | done | with_reducible rfl)); (try simp only [Act.put, List.setIfInBounds_toArray, List.set_cons_zero, List.set_cons_succ])) | (refine seqV_no rfl ?_; (try simp only [Act.put, List.setIfInBounds_toArray, List.set_cons_zero, List.set_cons_succ])))
    refine seqV_nil ?_
    refine tailR_cons (fun x _ => x = .bool false) rfl (fun _ _ _ h _ => h) (fun u hu hp => ?_) (fun v1 hv1 => ?_)
    · refine stepR_callM2 (w' := u) (f := 60) (args := #[.pointer (some ⟨R.b, 0, none⟩), .int .u32 (usedL (pl l) : Nat), .slice pb TC.1.length cpb]) (by clear hu hp; go_simp) ?_
      refine (fill_ram u (HH7.out.ram.same hu) (usedL (pl l)) (by omega) _ TC.1 (bySr_of (owns_apart HTr.out.1 hu (fun _ _ => id)) HB.out hAw)).mono fun e w'' h => ?_
      unfold LayPost at h
      rw [if_neg (fun hc => hfit hc.2)] at h
      exact ⟨_, h.1, h.2 ▸ hu, rfl⟩
    obtain ⟨_, _, rfl⟩ := hv1
    (try simp only [Act.put, List.setIfInBounds_toArray, List.set_cons_zero, List.set_cons_succ])
    ((refine tailR_run (v := ?_) rfl (fun _ _ h _ => h) (fun u hu hp => ?_) ?_; rotate_left; (focus (clear hu hp; go_simp; first | done | with_reducible rfl)); (try simp only [Act.put, List.setIfInBounds_toArray, List.set_cons_zero, List.set_cons_succ])))
    ((refine tailR_run (v := ?_) rfl (fun _ _ h _ => h) (fun u hu hp => ?_) ?_; rotate_left; (focus (clear hu hp; go_simp; first | done | with_reducible rfl)); (try simp only [Act.put, List.setIfInBounds_toArray, List.set_cons_zero, List.set_cons_succ])))
    refine tailR_zero fun u8 hu _ => ?_
    (try simp only [Act.put, List.setIfInBounds_toArray, List.set_cons_zero, List.set_cons_succ])
    have HH8 := hidE (HH7.out.same hu)
    have HK8 := hidE (HU7.out.trans hu)
    clear hu
    go_wp2
    go_ret2
    exact ⟨rfl, HH8.out.done rfl rfl rfl, HK8.out⟩
end
end Go.Proofs.YtomphgpplbekiaaGreat
namespace Go.Proofs.YtomphgpplbekiaaGreat
open Go.RowKit
attribute [local go_sem ↓] Go.wp_at_zero Go.wp_at_succ

def wCX (_k : Nat) : In := ⟨0, 0, 0, 0⟩
def wCY (_k : Nat) : Int := 8
def wC (S S2 : Nat) (nx : Int) : Bk := ⟨some ⟨S, 0, none⟩, 1, 1, some ⟨S2, 0, none⟩, 1, 1, nx, 0, 1, .slice none 0 0, .slice none 0 0, wCX, wCY⟩
theorem wC_ok (w : World) (S S2 : Nat) (nx : Int) (n0 : 0 ≤ nx) (n1 : nx < 4294967296) (h1 : w.heap[S]? = some (.cells #[.int .u8 0, .int .u8 0, .int .u8 0, .int .i32 0] 122 (0, 0))) (h2 : w.heap[S2]? = some (.cells #[.int .u32 8] 29 (0, 0))) : (wC S S2 nx).Ok w := by
  have c1 := cell_of h1
  have c2 := cell_of h2
  refine ⟨.inr ⟨S, 0, rfl, lt_of_block h1, fun k hk => ?_⟩, .inr ⟨S2, 0, rfl, lt_of_block h2, fun k hk => ?_⟩, by simp [wC], by simp [wC], by simp [wC], by simp [wC], by simpa [wC] using n0, by simpa [wC] using n1, by simp [wC], by simp [wC], by simp [wC], by simp [wC]⟩
  · have hk' : k < 1 := hk
    obtain rfl : k = 0 := by omega
    exact ⟨⟨by simp [wC, wCX], by simp [wC, wCX], by simp [wC, wCX], by simp [wC, wCX], by simp [wC, wCX], by simp [wC, wCX], by simp [wC, wCX], by simp [wC, wCX]⟩, by rw [c1]; rfl, by rw [c1]; rfl, by rw [c1]; rfl, by rw [c1]; rfl⟩
  · have hk' : k < 1 := hk
    obtain rfl : k = 0 := by omega
    exact ⟨by simp [wC, wCY], by simp [wC, wCY], by rw [c2]; rfl⟩
theorem wC_may (S S2 : Nat) (nx : Int) : mayBlk (wC S S2 nx) = true := by
  have : mayBlk (wC 0 0 0) = true := by decide +kernel
  exact this
theorem wC_tr (S S2 : Nat) (nx : Int) : (trC (wC S S2 nx) 0).1 = [0, 112, 1, 113, 0, 0] ∧ (trC (wC S S2 nx) 0).2 = [⟨0, 8, 0, -1⟩, ⟨1, nx, 1, -1⟩, ⟨3, nx, 0, 0⟩] := by
  constructor
  · have : (trC (wC 0 0 0) 0).1 = [0, 112, 1, 113, 0, 0] := by decide +kernel
    exact this
  · rfl
def fpC (nx : Int) : Fp := ⟨8, 0, 0, [0, 112, 1, 113, 0, 0], [⟨0, 8, 0, -1⟩, ⟨1, nx, 1, -1⟩, ⟨3, nx, 0, 0⟩], 1, [], true⟩
theorem put_first {w : World} {N cb : Nat} {R : RamAt} {M : List Int} {V : CV} {hi mi : Int} (h : IsCache w N cb R M V [] hi mi) (hN : N ≤ w.heap.size) (S S2 : Nat) (nx : Int) (n0 : 0 ≤ nx) (n1 : nx < 4294967296)
    (h1 : w.heap[S]? = some (.cells #[.int .u8 0, .int .u8 0, .int .u8 0, .int .i32 0] 122 (0, 0))) (h2 : w.heap[S2]? = some (.cells #[.int .u32 8] 29 (0, 0))) :
    Calls Tryz.prog 38 #[.pointer (some ⟨cb, 0, none⟩), .agg #[.int .u32 8, .int .u32 0], .agg #[.slice (some ⟨S, 0, none⟩) 1 1, .slice (some ⟨S2, 0, none⟩) 1 1, .int .u32 nx, .int .u32 0, .int .i64 1, .slice none 0 0, .slice none 0 0]] w fun e w' =>
      ∃ V' x, x.1 = fpC nx ∧ e = .returned (.tuple #[.int .i64 0, .int .i64 0]) ∧ IsCache w' N cb R (R.put M 0 [0, 112, 1, 113, 0, 0]) V' [x] hi mi ∧ Keeps (fun g => Wr cb R V g) w w' := by
  have n3 := h.ram.n1
  have hP : Calls Tryz.prog 38 #[.pointer (some ⟨cb, 0, none⟩), .agg #[.int .u32 8, .int .u32 0], .agg #[.slice (some ⟨S, 0, none⟩) 1 1, .slice (some ⟨S2, 0, none⟩) 1 1, .int .u32 nx, .int .u32 0, .int .i64 1, .slice none 0 0, .slice none 0 0]] w (PutP w N cb R M V [] hi mi (8, 0) (wC S S2 nx) []) := cs_put_yes h hN (wC S S2 nx) (wC_ok _ _ _ _ n0 n1 h1 h2) [] ⟨none, 0, rfl, by simp, by simp, .inl rfl⟩ (fun hx => absurd rfl hx) (by simp) (by simp [pl, ownL]) (by simp) (by simp [pl, usedL]) 8 0 rfl (wC_may _ _ _)
  refine hP.mono ?_
  intro e w3 hp
  unfold PutP at hp
  have hno : ¬ ((idxL (pl []) ((8 : Int), (0 : Int))).isSome = true ∨ mayBlk (wC S S2 nx) = false) := by rw [wC_may]; simp [pl, idxL]
  rw [if_neg hno] at hp
  have e0 : ((ownL (pl [])).length : Int) = 0 := by simp [pl, ownL]
  have e1 : usedL (pl []) = 0 := by simp [pl, usedL]
  have hp' : (if usedL (pl []) + (trC (wC S S2 nx) ((ownL (pl [])).length : Nat)).1.length ≤ 64 * R.n then ∃ V' x, x.1 = fpOf (pl []) (8, 0) (wC S S2 nx) [] ∧ e = .returned (.tuple #[.int .i64 (usedL (pl []) : Nat), .int .i64 0]) ∧ IsCache w3 N cb R (R.put M (usedL (pl [])) (trC (wC S S2 nx) ((ownL (pl [])).length : Nat)).1) V' ([] ++ [x]) hi mi ∧ Keeps (fun g => Wr cb R V g) w w3 ∧ (∀ g, Wr cb R V' g → Wr cb R V g ∨ w.heap.size ≤ g) ∧ (∀ g, ROk x g → w.heap.size ≤ g)
    else e = .returned (.tuple #[.int .i64 0, .int .i64 5]) ∧ IsCache w3 N cb R M V [] hi mi ∧ Same w w3) := hp
  unfold fpOf at hp'
  rw [e0, e1, (wC_tr S S2 nx).1, (wC_tr S S2 nx).2] at hp'
  rw [if_pos (by simp; omega)] at hp'
  obtain ⟨V', x, hx, he, hI, hk, -, -⟩ := hp'
  exact ⟨V', x, hx, he, hI, hk⟩
set_option maxRecDepth 100000 in
set_option maxHeartbeats 2000000 in
theorem works22 (w : World) : Calls Tryz.prog 16 #[] w fun e w' => e = .returned (.bool true) ∧ Same w w' := by
  go_enter Tryz.func16, Tryz.ntmps16
  go_wp2_with fail
  refine (new_ram _ 1 (by omega) (by omega)).mono ?_
  rintro _ w1 ⟨R, rfl, hn, -, hR, hk1, -, -, hA⟩
  have HR := hidE hR
  have HK1 := hidE hk1
  clear hR hk1
  go_wp2_with fail
  refine (cs_new _ R _ HR.out w.heap.size HK1.out.size hA).mono ?_
  rintro _ w2 ⟨cb, V, rfl, hC, hk2, -⟩
  have HC := hidE hC
  have HK2 := hidE (HK1.out.trans hk2)
  clear hC hk2
  go_wp2_with fail
  have k3 := ((Keeps.refl (fun _ => False) w2).alloc (.cells #[.int .u8 0, .int .u8 0, .int .u8 0, .int .i32 0] 122)).alloc (.cells #[.int .u32 8] 29)
  have hz2 := HK2.out.size
  refine (put_first (HC.out.same k3) (by simp; omega) w2.heap.size (w2.heap.size + 1) 9 (by omega) (by omega) (block_old _ (block_new _ _)) (block_atR _ (by simp))).mono ?_
  rintro _ w4 ⟨V', x, hx, rfl, hI, hk4⟩
  have HX := hidE hx
  have HI := hidE hI
  have HK4 := hidE (same_then (HK2.out.trans k3) hk4 (fun k hk => HC.out.far k hk))
  clear hx hI hk4 k3
  go_wp2_with fail
  refine (cs_find HI.out (by omega) (by omega) (by simp) 8 0).mono ?_
  intro e w5 hp
  unfold FindPost at hp
  have hq : idxL (pl [x]) ((8 : Int), (0 : Int)) = some 0 := by simp only [pl, List.map_cons, List.map_nil, HX.out]; rfl
  rw [hq] at hp
  obtain ⟨y, hy, rfl, hI5, hk5⟩ := hp
  obtain rfl : x = y := by simpa using hy
  have HI5 := hidE hI5
  have HK5 := hidE (same_then HK4.out hk5 (fun k hk => by subst hk; exact HI.out.far k (.inl rfl)))
  have hpos : x.1.pos = 0 := by rw [HX.out]; rfl
  have hus : usedL (pl [x]) = 6 := by simp only [pl, List.map_cons, List.map_nil, HX.out]; rfl
  clear hy hq hI5 hk5
  simp only [hpos]
  clear hpos
  go_wp2_with fail
  refine (cs_used HI5.out).mono ?_
  rintro _ w6 ⟨rfl, rfl⟩
  simp only [hus]
  clear hus
  go_wp2
  go_ret
  exact ⟨rfl, HK5.out⟩
end Go.Proofs.YtomphgpplbekiaaGreat
