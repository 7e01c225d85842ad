/- The walk of made. The walk of works: two instructions and a branch. Small walks for the laws of layer 18: ints and Same of empty rows; a guest's state read out of it; rows read. -/
import Derived.Test.YtjkjnomhggmplaaGreatLaid
import Derived.Test.YtjkjnomhggmplaaGreatRa
namespace Go.Proofs.YtjkjnomhggmplaaGreat
open Go.RowKit
attribute [local go_sem ↓] Go.wp_at_zero Go.wp_at_succ

theorem x_ldG (ρ : Operand → Value) (dst : Option Tmp) (x : Operand) (ty : TypeId) (pos : String) (after : Array Edge) (guard : Option (Nat × Bool)) :
    execOp ρ { dst, op := .load 31 x, type := ty, pos, after, guard } = ldRow 31 (ρ x) := rfl
theorem ld_G {w : World} {b : Nat} {G : Array Value} (hb : w.heap[b]? = some (.cells G 31 (0, 0))) (hs : G.size = 25) :
    (ldRow 31 (.pointer (some ⟨b, 0, none⟩))).run Tryz.prog w = .ok (.value (.agg G)) w := by
  have h := ldRow_run (P := Tryz.prog) w 31 b 24 _ Tryz.underlying31 rfl (by kernel_rfl) (by rw [rowAt_of hb, hs])
  rw [rowAt_of hb] at h
  exact h
attribute [local go_sem ↓] x_ldG
section
variable {P : Program} {fn : Func} {tmps : Array Value} {w : World}
theorem results_tc {a u : Tmp} {t : TypeId} {b : Nat} {A : Array Value} {ty : TypeId} {f : Nat × Nat} {d : TypeDesc} (h : fn.results = #[.tmp u, .cell a t]) (hp : tmps.getD a undef = .pointer (some ⟨b, 0, none⟩)) (hb : w.heap[b]? = some (.cells A ty f))
    (hu : P.underlying t = some d) (hd : isAggD d = true) (hi : (P.info? t).map (·.size) = some A.size) : (results fn tmps).run P w = .ok (.tuple #[tmps.getD u undef, .agg A]) w := by
  have h1 := run_rescell (P := P) hb hu hd hi
  have hq : tmps[a]?.getD undef = .pointer (some ⟨b, 0, none⟩) := by simpa using hp
  simp [results, h, hq, run_asAddr, h1]
end
theorem bySr_of {w : World} {A g : Nat} {M : List Int} (hM : w.heap[g]? = some (.cells (bytesV M) 5 (0, 0))) (hb : Bytes8 M) (hl : M.length ≤ 100000) (hA : g ≠ A) : BySr w A (.slice (some ⟨g, 0, none⟩) M.length M.length) M :=
  ⟨hb, _, _, rfl, Nat.le_refl _, by unfold maxLen; omega, fun _ => ⟨g, 0, rfl, hA, lt_of_block hM, fun j hj => by rw [cell_of hM]; simp [bytesV, hj]⟩⟩
theorem put_id {R R' : RamAt} (h : R.F = id) (h' : R'.F = id) : ∀ (l : List Int) (M : List Int) (a : Nat), R.put M a l = R'.put M a l
  | [], _, _ => rfl
  | y :: l, M, a => by
    simp only [RamAt.put]
    rw [show R.pos a = R'.pos a by unfold RamAt.pos; rw [h, h']]
    exact put_id h h' l _ _
set_option maxRecDepth 100000 in
set_option maxHeartbeats 4000000 in
theorem made_new {w : World} {G : Array Value} {fr : Int} {ia : Option Addr} {il ic : Nat} {X : Nat → Int} {ca : Option Addr} {cl cc : Nat} {Y : Nat → In} {en root ps pc : Nat} (h : GuestOk w G fr ia il ic X ca cl cc Y en root ps pc) :
    Calls Tryz.prog 5 #[.agg G] w fun e w' => ∃ R M g, e = .returned (.tuple #[.pointer (some ⟨R.b, 0, none⟩), .agg #[.slice (some ⟨g, 0, none⟩) (64 * R.n) (64 * R.n)]]) ∧ IsRam w' R M ∧ Same w w' ∧ w.heap.size ≤ R.A ∧ g ≠ R.A ∧ M.length = 64 * R.n ∧ R.F = id ∧ w'.heap[g]? = some (.cells (bytesV M) 5 (0, 0)) := by
  have hsz := h.size
  have HH := hidE h
  have hfr := frN_bd fr
  have hG : Hid (∀ w1, Same w w1 → _) := hidE (fun w1 hk => laid_any (w := w1) (h.same hk))
  clear h
  generalize frN fr = n at *
  go_enter Tryz.func5, Tryz.ntmps5
  have hld := ld_G (w := (w.alloc (.cells G 31)).alloc (.cells #[.slice none 0 0] 34)) (block_old _ (block_new _ _)) hsz
  go_wp2_with fail
  refine (hG.out _ (((Keeps.refl _ _).alloc _).alloc _)).mono ?_
  rintro _ w1 ⟨rfl, hk1, M, hM, hMb, hMc⟩
  have HM := hidE hMc
  have HK1 := hidE ((((Keeps.refl (fun _ => False) w).alloc (.cells G 31)).alloc (.cells #[.slice none 0 0] 34)).trans hk1)
  have B3 := hidE (hk1.get (block_atR (.cells #[.slice none 0 0] 34) (by simp : (w.alloc (.cells G 31)).heap.size = w.heap.size + 1)) id)
  clear hk1 hMc hld
  generalize hgm : ((w.alloc (.cells G 31)).alloc (.cells #[.slice none 0 0] 34)).heap.size + 1 = gm at *
  clear hgm
  go_wp2_with fail
  refine (r5_New _ n (by omega)).mono ?_
  rintro _ w2 ⟨rfl, hZ, hk2⟩
  have HK2 := hidE hk2
  have HZ := hidE hZ
  have B3' := hidE (hk2.get B3.out id)
  have HM2 := hidE (hk2.get HM.out id)
  have hgz := lt_of_block hZ
  have hgm := lt_of_block HM.out
  have hs2 := hk2.size
  clear hk2 hZ
  generalize hgz' : w1.heap.size + 1 = gz at *
  have HFi := hidE (r5_Fill (w2.alloc (.cells #[.slice (some ⟨gz, 0, none⟩) (64 * n) (64 * n)] 34)) gz (64 * n) (List.replicate (64 * n) 0) (by simp) (by omega) (block_old _ HZ.out) 0 (by omega) _ M (bySr_of (A := gz) (block_old _ HM2.out) hMb (by omega) (by omega)))
  rw [hM] at HFi
  simp only [Nat.zero_add, Nat.le_refl, if_true] at HFi
  go_wp2_with fail
  refine HFi.out.mono ?_
  rintro _ w3 ⟨rfl, hF1, hF2⟩
  have b6 := hF2.get (block_new w2 (.cells #[.slice (some ⟨gz, 0, none⟩) (64 * n) (64 * n)] 34)) (by omega)
  have HB6 := hidE b6
  have HM3 := hidE (hF2.get (block_old _ HM2.out) (by omega))
  have B33 := hidE (hF2.get (block_old _ B3'.out) (by have := lt_of_block B3.out; omega))
  have HK3 := hidE (same_then ((HK1.out.trans HK2.out).alloc (.cells #[.slice (some ⟨gz, 0, none⟩) (64 * n) (64 * n)] 34)) hF2 (fun j hj => by have := HK1.out.size; omega))
  have HF1 := hidE hF1
  have hgz3 := lt_of_block hF1
  clear hF1 hF2 b6
  go_wp2_with fail
  refine (new_ram _ n (by omega) (by omega)).mono ?_
  rintro _ w4 ⟨R, rfl, hRn, hRF, hR, hk4, hRb, hRs, hRA⟩
  have hgm3 := lt_of_block HM3.out
  have HFr := hidE (fill_ram w4 hR 0 (by omega) _ M (bySr_of (A := R.A) (hk4.get HM3.out id) hMb (by omega) (by omega)))
  rw [hM] at HFr
  have HK4 := hidE (HK3.out.trans hk4)
  have HB64 := hidE (hk4.get HB6.out id)
  have HB34 := hidE (hk4.get B33.out id)
  have hb6lt := lt_of_block HB6.out
  have hb3lt := lt_of_block B33.out
  have hs3 := HK3.out.size
  have hR0 : w3.heap.size ≤ R.b ∧ w3.heap.size ≤ R.S := ⟨hRb, hRs⟩
  have hf4 := hk4.get HF1.out id
  have eqM : R0.put (List.replicate (64 * n) 0) 0 M = R.put (List.replicate (64 * n) 0) 0 M := put_id rfl hRF _ _ _
  rw [eqM] at hf4
  have HF4 := hidE hf4
  have HRF := hidE hRF
  clear hk4 hR hRF hRb hRs hf4 eqM
  subst hRn
  go_wp2_with fail
  refine HFr.out.mono ?_
  intro e w5 hp
  unfold LayPost at hp
  rw [if_pos ⟨by simp, by omega⟩] at hp
  obtain ⟨rfl, hR5, hk5⟩ := hp
  have HF5 := hidE (hk5.get HF4.out (by omega))
  have HB65 := hk5.get HB64.out (by omega)
  have HB35 := hk5.get HB34.out (by omega)
  have c6 := cell_of HB65
  have HR5 := hidE hR5
  have HK5 := hidE (same_then HK4.out hk5 (fun j hj => by omega))
  have HB35' := hidE HB35
  clear hR5 hk5 HB65 HB35
  go_wp2
  refine wp_region_evp [0, 1, 2] [3] 0 (fun u => u.cell? ⟨w2.heap.size, 0, none⟩ = some (.slice (some ⟨gz, 0, none⟩) (64 * R.n) (64 * R.n))) (by kernel_rfl) (by kernel_rfl) (fun c a d v w h => by cases d <;> exact h) (c6 0) ?_
  simp only [opsOf, List.filterMap_cons, List.filterMap_nil, List.getElem?_cons_zero, List.getElem?_cons_succ]
  repeat (refine stS_cons (v := ?_) rfl (fun u hu => ?_) ?_; rotate_left; · (go_simp; first | done | with_reducible rfl); (try simp only [Act.put, List.setIfInBounds_toArray, List.set_cons_zero, List.set_cons_succ]))
  refine stS_nil ?_
  have c3 := cell_of HB35'.out
  have f3 := frozen_of HB35'.out
  refine wpListS_zero ?_
  (try simp only [Act.put, List.setIfInBounds_toArray, List.set_cons_zero, List.set_cons_succ])
  go_wp2
  exact bodyPost_ret (results_tc rfl rfl (block_set HB35'.out 0 _) Tryz.underlying34 rfl (by kernel_rfl)) rfl ⟨R, _, gz, rfl, HR5.out.keeps (F := fun k => k = w.heap.size + 1) (Keeps.setCell (F := fun k => k = w.heap.size + 1) (Keeps.refl _ _).drew (p := ⟨w.heap.size + 1, 0, none⟩) (fun _ => rfl) _) (by have := hR0.1; omega) (by have := hR0.2; omega) (by omega), HK5.out.drew.setCell (p := ⟨w.heap.size + 1, 0, none⟩) (fun h => absurd h (by simp only; omega)) _, by omega, by omega, by rw [RamAt.put_length]; simp, HRF.out, block_other _ HF5.out (by have := lt_of_block B3.out; simp only; omega)⟩
theorem made_any {w : World} {G : Array Value} {fr : Int} {ia : Option Addr} {il ic : Nat} {X : Nat → Int} {ca : Option Addr} {cl cc : Nat} {Y : Nat → In} {en root ps pc : Nat} (h : GuestOk w G fr ia il ic X ca cl cc Y en root ps pc) :
    Calls Tryz.prog 5 #[.agg G] w fun e w' => ∃ R M g, e = .returned (.tuple #[.pointer (some ⟨R.b, 0, none⟩), .agg #[.slice (some ⟨g, 0, none⟩) (64 * R.n) (64 * R.n)]]) ∧ IsRam w' R M ∧ Same w w' := by
  refine (made_new h).mono ?_
  rintro e w' ⟨R, M, g, he, hR, hk, -⟩
  exact ⟨R, M, g, he, hR, hk⟩
end Go.Proofs.YtjkjnomhggmplaaGreat
namespace Go.Proofs.YtjkjnomhggmplaaGreat
open Go.RowKit

def bytesW : List Int := [17, 18, 32, 48, 7, 0, 0, 0, 65, 251, 255]
def worksZ (b S cap A : Nat) : Scanned := scanL ⟨b, S, 1, cap, A, id⟩ (RamAt.put ⟨b, S, 1, cap, A, id⟩ (List.replicate (64 * 1) 0) 0 bytesW) 0 0 0 9
theorem worksZ_c (b S cap A : Nat) : (worksZ b S cap A).c = 0 := by kernel_rfl
theorem worksZ_l (b S cap A : Nat) : (worksZ b S cap A).b.ins.length = 3 := by kernel_rfl
theorem worksZ_n (b S cap A : Nat) : (worksZ b S cap A).b.next = 11 := by kernel_rfl
theorem worksZ_t (b S cap A : Nat) : (worksZ b S cap A).b.to = 6 := by kernel_rfl
theorem worksZ_e (b S cap A : Nat) : (worksZ b S cap A).b.en = 3 := by kernel_rfl
theorem zeroS : StV #[.int .u32 0, .int .u32 0, .int .u32 0, .int .u32 0, .int .u32 0, .int .u32 0, .int .u32 0, .int .u32 0, .int .u32 0, .int .u32 0, .int .u32 0, .int .u32 0, .int .u32 0, .int .u32 0, .int .u32 0, .int .u32 0, .int .u32 0, .int .u32 0, .bool false] 0 0 0 := ⟨rfl, by simp [Ones, oc_int, oc_bool], rfl, rfl, rfl, by omega, by omega, by omega⟩
set_option maxRecDepth 100000 in
set_option maxHeartbeats 4000000 in
theorem works_any (w : World) : Calls Tryz.prog 9 #[] w fun e w' => e = .returned (.bool true) ∧ Same w w' := by
  go_enter Tryz.func9, Tryz.ntmps9
  go_wp2_with fail
  refine (new_ram w 1 (by omega) (by omega)).mono ?_
  rintro _ w1 ⟨R, rfl, hRn, hRF, hR, hk1, hRb, hRs, hRA⟩
  obtain ⟨Rb, RS, Rn, Rc, RA, RF⟩ := R
  simp only at hRn hRF
  subst hRn
  subst hRF
  have hz1 := worksZ_c Rb RS Rc RA
  have hz2 := worksZ_l Rb RS Rc RA
  have hz3 := worksZ_n Rb RS Rc RA
  have hz4 := worksZ_t Rb RS Rc RA
  have hz5 := worksZ_e Rb RS Rc RA
  have hlA := lt_of_block hR.hA
  have hFi := hidE (fill_ram (w1.alloc (.cells (bytesW.map (Value.int .u8)).toArray 5)) (hR.same ((Keeps.refl _ _).alloc _)) 0 (by omega) (.slice (some ⟨w1.heap.size, 0, none⟩) 11 11) bytesW
    ⟨by decide, some ⟨w1.heap.size, 0, none⟩, 11, rfl, by decide, by unfold maxLen; omega, fun _ => ⟨w1.heap.size, 0, rfl, Nat.ne_of_gt hlA, by simp, fun j hj => by rw [cell_of (block_new _ _)]; simp at hj ⊢⟩⟩)
  have HK1 := hidE hk1
  have hR0 := And.intro hRb (And.intro hRs hRA)
  clear hk1 hR hRb hRs hRA
  simp only at hR0
  simp only [bytesW, List.map_cons, List.map_nil] at hFi
  go_wp2_with fail
  refine hFi.out.mono ?_
  intro e w2 hp
  unfold LayPost at hp
  rw [if_pos ⟨by simp, by simp⟩] at hp
  obtain ⟨rfl, hR2, hk2⟩ := hp
  have hSc := hidE (scan_any w2 hR2 _ 0 0 0 zeroS 9 (by omega) (by omega))
  have HK2 := hidE (same_then (HK1.out.alloc (.cells #[.int .u8 17, .int .u8 18, .int .u8 32, .int .u8 48, .int .u8 7, .int .u8 0, .int .u8 0, .int .u8 0, .int .u8 65, .int .u8 251, .int .u8 255] 5)) hk2 (fun j hj => by simp only at hj; omega))
  change Hid (Calls _ _ _ _ (ScanPost w2 (worksZ Rb RS Rc RA))) at hSc
  generalize worksZ Rb RS Rc RA = Z at *
  clear hk2 hR2
  go_wp2_with fail
  refine hSc.out.mono ?_
  rintro _ w3 ⟨vi, va, vf, vt, rfl, hB, hk3⟩
  obtain ⟨pi, ci, rfl⟩ := owns_sl hB.ri
  obtain ⟨pa, ca, rfl⟩ := owns_sl hB.ra
  obtain ⟨pf, cf, rfl⟩ := owns_sl hB.rf
  obtain ⟨pt, ct, rfl⟩ := owns_sl hB.rt
  have HK3 := hidE (HK2.out.trans hk3)
  obtain ⟨zc, za, ⟨zins, zat, znx, zto, zen, zfr, ztb⟩⟩ := Z
  simp only at hz1 hz2 hz3 hz4 hz5
  subst hz1
  subst hz3
  subst hz4
  subst hz5
  simp only [blA, flV, hz2]
  clear hB hk3
  go_wp2
  go_ret

  exact ⟨rfl, (HK3.out.alloc _).alloc _⟩
end Go.Proofs.YtjkjnomhggmplaaGreat
namespace Go.Proofs.YtjkjnomhggmplaaGreat
open Go.RowKit

theorem ints_0 (p q : Option Addr) (c d : Nat) (w : World) : Calls Tryz.prog 28 #[.slice p 0 c, .slice q 0 d] w fun e w' => e = .returned (.bool true) ∧ Same w w' := by
  go_enter Tryz.func28, Tryz.ntmps28
  go_wp2_with fail
  go_loop [5] (fun t5 => t5 = .int .i64 0) (fun _ => 0)
  case atStart => rfl
  case round =>
    subst hrel
    go_wp2
    go_ret
    exact ⟨rfl, Keeps.refl _ _⟩
theorem insC_get : ∀ (l : List In) (j k : Nat) (hj : j < l.length), k < 4 → (insC l)[j * 4 + k]? = ([.int .u8 l[j].op, .int .u8 l[j].a, .int .u8 l[j].b, .int .i32 l[j].imm] : List Value)[k]?
  | [], j, k, hj, _ => by simp at hj
  | i :: r, 0, k, _, hk => by
    have e : insC (i :: r) = [.int .u8 i.op, .int .u8 i.a, .int .u8 i.b, .int .i32 i.imm] ++ insC r := by simp [insC]
    rw [e, Nat.zero_mul, Nat.zero_add, List.getElem?_append_left (by simpa using hk)]
    rfl
  | i :: r, j + 1, k, hj, hk => by
    have e : insC (i :: r) = [.int .u8 i.op, .int .u8 i.a, .int .u8 i.b, .int .i32 i.imm] ++ insC r := by simp [insC]
    rw [e, List.getElem?_append_right (by simp; omega), show (j + 1) * 4 + k - ([.int .u8 i.op, .int .u8 i.a, .int .u8 i.b, .int .i32 i.imm] : List Value).length = j * 4 + k by simp; omega]
    exact insC_get r j k (by simpa using hj) hk
theorem rowN_get {w : World} {B : Nat} {v : Value} {l : List In} (h : rowN w B v l) (hp : 0 < l.length) : ∃ g cap, v = .slice (some ⟨g, 0, none⟩) l.length cap ∧ l.length ≤ cap ∧ cap ≤ maxLen ∧ g < w.heap.size ∧ ∀ (j : Nat) (hj : j < l.length), w.cell? ⟨g, j * 4, none⟩ = some (.int .u8 l[j].op) ∧ w.cell? ⟨g, j * 4 + 1, none⟩ = some (.int .u8 l[j].a) ∧ w.cell? ⟨g, j * 4 + 2, none⟩ = some (.int .u8 l[j].b) ∧ w.cell? ⟨g, j * 4 + 3, none⟩ = some (.int .i32 l[j].imm) := by
  obtain ⟨-, ⟨-, h0⟩ | ⟨g, cap, cur, rfl, hB, hg, hc1, hc2, hc3, hc4⟩⟩ := h
  · omega
  · refine ⟨g, cap, rfl, hc1, hc2, lt_of_block hg, fun j hj => ?_⟩
    have hx : ∀ k, k < 4 → cur[j * 4 + k]? = ([.int .u8 l[j].op, .int .u8 l[j].a, .int .u8 l[j].b, .int .i32 l[j].imm] : List Value)[k]? := fun k hk => by
      have h1 := congrArg (fun x => x[j * 4 + k]?) hc4
      simp only [List.getElem?_take] at h1
      rw [if_pos (by omega)] at h1
      rw [Array.getElem?_toList] at h1
      rw [h1]
      exact insC_get l j k hj hk
    rw [cell_of hg, cell_of hg, cell_of hg, cell_of hg]
    exact ⟨hx 0 (by omega), hx 1 (by omega), hx 2 (by omega), hx 3 (by omega)⟩
/-- The state within a guest. -/
theorem ld_StateAt {w : World} {b : Nat} {G : Array Value} (hb : w.heap[b]? = some (.cells G 31 (0, 0))) (hs : G.size = 25) :
    (ldRow 28 (.pointer (some ⟨b, 4, none⟩))).run Tryz.prog w = .ok (.value (.agg (G.extract 4 23))) w := by
  have hsz : (G.extract 4 23).toList.length = 19 := by simp [hs]
  have hl : (loadCells ⟨b, 4, none⟩ (G.extract 4 23).toList.length).run Tryz.prog w = .ok (G.extract 4 23).toList.toArray w :=
    run_loadCells_list (P := Tryz.prog) w ⟨b, 4, none⟩ (G.extract 4 23).toList (fun j v hv => by
      have hj : j < 19 := by
        rcases Nat.lt_or_ge j 19 with h | h
        · exact h
        · rw [List.getElem?_eq_none (by omega)] at hv; cases hv
      rw [Addr.add_lit, cell_of hb]
      simp only [Array.toList_extract, List.extract_eq_take_drop] at hv
      rw [List.getElem?_take, if_pos (by omega), List.getElem?_drop] at hv
      simpa using hv)
  rw [hsz, Array.toArray_toList] at hl
  have hq : ∃ i, Tryz.prog.info? 28 = some i ∧ i.size = 19 := by
    have h : (Tryz.prog.info? 28).map (·.size) = some 19 := by kernel_rfl
    cases hq : Tryz.prog.info? 28 with
    | none => rw [hq] at h; cases h
    | some i => rw [hq] at h; simp at h; exact ⟨i, rfl, h⟩
  obtain ⟨i, hq, hi⟩ := hq
  have hagg : (isAgg 28).run Tryz.prog w = .ok true w := by
    unfold isAgg
    rw [Sem.run_bind, run_underlying Tryz.underlying28 w]
    rfl
  have h : (loadVar 28 ⟨b, 4, none⟩).run Tryz.prog w = .ok (.agg (G.extract 4 23)) w := by
    simp [loadVar, Sem.run_bind, hagg, sizeOf, typeInfo, hq, hi, hl]
  simp only [ldRow, Instr.loadAt, Instr.sureAddr, Sem.run_bind, Sem.run_pure, Result.andThen_ok, h]
set_option maxRecDepth 100000 in
set_option maxHeartbeats 4000000 in
theorem same_0 (pi pa pf pt : Option Addr) (ci ca cf ct : Nat) (w : World) : Calls Tryz.prog 8 #[.agg #[.slice pi 0 ci, .slice pa 0 ca, .int .u32 0, .int .u32 0, .int .i64 0, .slice pf 0 cf, .slice pt 0 ct], .agg #[.slice none 0 0, .slice none 0 0, .int .u32 0, .int .u32 0, .int .i64 0, .slice none 0 0, .slice none 0 0]] w fun e w' => e = .returned (.bool true) ∧ Same w w' := by
  go_enter Tryz.func8, Tryz.ntmps8
  go_wp2_with fail
  refine (ints_0 pf none cf 0 _).mono ?_
  rintro _ w1 ⟨rfl, hk1⟩
  have B0 := hk1.get (block_old _ (block_new w (.cells #[.slice pi 0 ci, .slice pa 0 ca, .int .u32 0, .int .u32 0, .int .i64 0, .slice pf 0 cf, .slice pt 0 ct] 40))) id
  have B1 := hk1.get (block_atR (.cells #[.slice none 0 0, .slice none 0 0, .int .u32 0, .int .u32 0, .int .i64 0, .slice none 0 0, .slice none 0 0] 40) (by simp : (w.alloc (.cells #[.slice pi 0 ci, .slice pa 0 ca, .int .u32 0, .int .u32 0, .int .i64 0, .slice pf 0 cf, .slice pt 0 ct] 40)).heap.size = w.heap.size + 1)) id
  have HK1 := hidE ((((Keeps.refl (fun _ => False) w).alloc _).alloc _).trans hk1)
  have c0 := cell_of B0
  have c1 := cell_of B1
  have HB := hidE (And.intro B0 B1)
  clear hk1 B0 B1
  go_wp2_with fail
  refine (ints_0 pt none ct 0 _).mono ?_
  rintro _ w2 ⟨rfl, hk2⟩
  have d0 := cell_of (hk2.get HB.out.1 id)
  have HK2 := hidE (HK1.out.trans hk2)
  clear hk2 c0 c1
  go_wp2_with fail
  go_loopw [5] (fun t5 wr => t5 = .int .i64 0 ∧ wr = w2) (fun _ _ => 0)
  case atStart => exact ⟨rfl, rfl⟩
  case round =>
    obtain ⟨rfl, rfl⟩ := hrel
    go_wp2
    go_ret
    exact ⟨rfl, HK2.out⟩
end Go.Proofs.YtjkjnomhggmplaaGreat
