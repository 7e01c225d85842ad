/- The walk of the document's Scan (the reference of layer 18). -/
import Derived.Test.YtjkjnomhggmplaaGreatDocF
namespace Go.Proofs.YtjkjnomhggmplaaGreat
open Go.RowKit
attribute [local go_sem ↓] Go.wp_at_zero Go.wp_at_succ
attribute [local go_sem ↓] x_ldSt x_ldB x_stB

/-- Scan near its end. -/
structure SdE (w u : World) (vi va vf vt : Value) (to : Nat) (en : Int) (ins : List In) (at_ fr tb : List Int) : Prop where
  b2 : u.heap[w.heap.size + 1 + 1]? = some (.cells #[.slice none 0 0, .slice none 0 0, .int .u32 0, .int .u32 0, .int .i64 0, .slice none 0 0, .slice none 0 0] 40 (0, 0))
  b3 : u.heap[w.heap.size + 1 + 1 + 1]? = some (.cells #[.int .i64 0, .int .u32 0] 42 (0, 0))
  b4 : u.heap[w.heap.size + 1 + 1 + 1 + 1]? = some (.cells #[vi, va, .int .u32 0, .int .u32 (to : Nat), .int .i64 en, .slice none 0 0, .slice none 0 0] 40 (0, 0))
  b5 : ∃ vp, u.heap[w.heap.size + 1 + 1 + 1 + 1 + 1]? = some (.cells #[vf, vt, vp] 77 (0, 0))
  ri : rowN u 0 vi ins
  ra : rowU u 0 va at_
  rf : rowI u 0 vf fr
  rt : rowI u 0 vt tb
  same : Same w u
section
variable {w u wr : World} {R : RamAt} {M : List Int} {g : Nat} {S : Array Value} {vi va vf vt vp : Value} {to : Nat} {en : Int} {ins : List In} {at_ fr tb qg : List Int}
theorem SdI.near (h : SdI w wr R M g S vi va vf vt vp ins at_ fr tb qg) : SdE w wr vi va vf vt 0 1 ins at_ fr tb :=
  ⟨h.b2, h.b3, h.b4, ⟨vp, h.b5⟩, owns_mono h.ri (Nat.zero_le _), owns_mono h.ra (Nat.zero_le _), h.rf, h.rt, h.same⟩
theorem SdE.put (_h : SdE w u vi va vf vt to en ins at_ fr tb) (j : Nat) (v : Value) : Keeps (fun k => k = w.heap.size + 1 + 1 + 1 + 1) u (u.setCell ⟨w.heap.size + 1 + 1 + 1 + 1, j, none⟩ v) :=
  Keeps.setCell (F := fun k => k = w.heap.size + 1 + 1 + 1 + 1) (p := ⟨w.heap.size + 1 + 1 + 1 + 1, j, none⟩) (Keeps.refl _ _) (fun _ => rfl) _
theorem SdE.st (h : SdE w u vi va vf vt to en ins at_ fr tb) (k : Same u wr) : SdE w wr vi va vf vt to en ins at_ fr tb :=
  ⟨k.get h.b2 id, k.get h.b3 id, k.get h.b4 id, h.b5.elim fun vp h => ⟨vp, k.get h id⟩, owns_S h.ri k, owns_S h.ra k, owns_S h.rf k, owns_S h.rt k, h.same.trans k⟩
theorem SdE.setEn (h : SdE w u vi va vf vt to en ins at_ fr tb) (v : Int) : SdE w (u.setCell ⟨w.heap.size + 1 + 1 + 1 + 1, 4, none⟩ (.int .i64 v)) vi va vf vt to v ins at_ fr tb :=
  have k := h.put 4 (.int .i64 v)
  ⟨k.get h.b2 (by omega), k.get h.b3 (by omega), block_set h.b4 4 _, h.b5.elim fun vp h => ⟨vp, k.get h (by omega)⟩, owns_box h.ri h.b4 (by decide) k, owns_box h.ra h.b4 (by decide) k, owns_box h.rf h.b4 (by decide) k, owns_box h.rt h.b4 (by decide) k, same_then h.same k (fun j hj => by omega)⟩
theorem SdE.setTo (h : SdE w u vi va vf vt to en ins at_ fr tb) (v : Nat) : SdE w (u.setCell ⟨w.heap.size + 1 + 1 + 1 + 1, 3, none⟩ (.int .u32 (v : Nat))) vi va vf vt v en ins at_ fr tb :=
  have k := h.put 3 (.int .u32 (v : Nat))
  ⟨k.get h.b2 (by omega), k.get h.b3 (by omega), block_set h.b4 3 _, h.b5.elim fun vp h => ⟨vp, k.get h (by omega)⟩, owns_box h.ri h.b4 (by decide) k, owns_box h.ra h.b4 (by decide) k, owns_box h.rf h.b4 (by decide) k, owns_box h.rt h.b4 (by decide) k, same_then h.same k (fun j hj => by omega)⟩
theorem SdE.fin (h : SdE w u vi va vf vt to en ins at_ fr tb) (nx : Nat) {U : World} (hU : U = ((u.setCell ⟨w.heap.size + 1 + 1 + 1 + 1, 2, none⟩ (.int .u32 (nx : Nat))).setCell ⟨w.heap.size + 1 + 1 + 1 + 1, 5, none⟩ vf).setCell ⟨w.heap.size + 1 + 1 + 1 + 1, 6, none⟩ vt) :
    (ldRow 40 (.pointer (some ⟨w.heap.size + 1 + 1 + 1 + 1, 0, none⟩))).run Tryz.prog U = .ok (.value (.agg #[vi, va, .int .u32 (nx : Nat), .int .u32 (to : Nat), .int .i64 en, vf, vt])) U ∧
    (stRow 40 (.pointer (some ⟨w.heap.size + 1 + 1, 0, none⟩)) (.agg #[vi, va, .int .u32 (nx : Nat), .int .u32 (to : Nat), .int .i64 en, vf, vt])).run Tryz.prog U = .ok .skip (U.setRow (w.heap.size + 1 + 1) #[vi, va, .int .u32 (nx : Nat), .int .u32 (to : Nat), .int .i64 en, vf, vt]) ∧
    (U.setRow (w.heap.size + 1 + 1) #[vi, va, .int .u32 (nx : Nat), .int .u32 (to : Nat), .int .i64 en, vf, vt]).heap[w.heap.size + 1 + 1 + 1]? = some (.cells #[.int .i64 0, .int .u32 0] 42 (0, 0)) ∧
    (U.setRow (w.heap.size + 1 + 1) #[vi, va, .int .u32 (nx : Nat), .int .u32 (to : Nat), .int .i64 en, vf, vt]).heap[w.heap.size + 1 + 1]? = some (.cells #[vi, va, .int .u32 (nx : Nat), .int .u32 (to : Nat), .int .i64 en, vf, vt] 40 (0, 0)) ∧
    Keeps (fun k => k = w.heap.size + 1 + 1 ∨ k = w.heap.size + 1 + 1 + 1 + 1) u (U.setRow (w.heap.size + 1 + 1) #[vi, va, .int .u32 (nx : Nat), .int .u32 (to : Nat), .int .i64 en, vf, vt]) := by
  subst hU
  have k1 : Keeps (fun k => k = w.heap.size + 1 + 1 + 1 + 1) u (((u.setCell ⟨w.heap.size + 1 + 1 + 1 + 1, 2, none⟩ (.int .u32 (nx : Nat))).setCell ⟨w.heap.size + 1 + 1 + 1 + 1, 5, none⟩ vf).setCell ⟨w.heap.size + 1 + 1 + 1 + 1, 6, none⟩ vt) :=
    Keeps.setCell (F := fun k => k = w.heap.size + 1 + 1 + 1 + 1) (p := ⟨w.heap.size + 1 + 1 + 1 + 1, 6, none⟩) (Keeps.setCell (F := fun k => k = w.heap.size + 1 + 1 + 1 + 1) (p := ⟨w.heap.size + 1 + 1 + 1 + 1, 5, none⟩) (h.put 2 _) (fun _ => rfl) _) (fun _ => rfl) _
  have o1 := owns_one h.ri
  have o2 := owns_one h.ra
  have o3 := owns_one h.rf
  have o4 := owns_one h.rt
  have b2 := k1.get h.b2 (by omega)
  have b3 := k1.get h.b3 (by omega)
  refine ⟨ld_Bv (block_set (block_set (block_set h.b4 2 _) 5 _) 6 _) rfl, st_Bv (by rw [rowAt_of b2]; rfl) (by simp [Ones, oc_int, o1, o2, o3, o4]), row_O b3 (by omega) _, row_D b2 _, ?_⟩
  exact (k1.mono fun _ _ h => .inr h).setRow (fun _ => .inl rfl) _
theorem SdE.row (_h : SdE w u vi va vf vt to en ins at_ fr tb) {e : TypeId} {s m : Nat} {v : Value} {xs : List Value} (ho : u.ownsRow 0 e s v m xs)
    (e1 : e ≠ 40) (e3 : e ≠ 42) (k : Keeps (fun k => k = w.heap.size + 1 + 1 ∨ k = w.heap.size + 1 + 1 + 1 + 1 ∨ k = w.heap.size + 1 + 1 + 1) u wr) : wr.ownsRow 0 e s v m xs :=
  owns_stay ho k fun j hj hF => by
    rcases hF with rfl | rfl | rfl
    · exact owns_no ho _h.b2 e1 hj
    · exact owns_no ho _h.b4 e1 hj
    · exact owns_no ho _h.b3 e3 hj
end
/-- What is known of a block under way. -/
structure SdP (L : Nat) (ins : List In) (at_ fr tb qg : List Int) (nx : Nat) : Prop where
  hn : nx < 4294967296
  il : ins.length ≤ L
  la : at_.length = ins.length
  lf : fr.length ≤ 6 * ins.length
  lt : tb.length ≤ 12 * ins.length
  lq : qg.length ≤ 2
  q1 : Rising fr
  q2 : Rising tb
  nd : qg.Nodup
theorem lenF_of {u : World} {b : Nat} {p : Option Addr} {n c : Nat} {x1 x2 x3 x4 x5 x6 : Value} {t : TypeId} {f : Nat × Nat} (h : u.heap[b]? = some (.cells #[.slice p n c, x1, x2, x3, x4, x5, x6] t f)) : lenF u b = n := by
  unfold lenF
  rw [cell_of h]
  rfl
set_option maxRecDepth 100000 in
set_option maxHeartbeats 16000000 in
theorem d_scan {R : RamAt} {M : List Int} {g : Nat} (w : World) (H : DocR w R M g) (HR : IsRam w R M) (S : Array Value) (root ps pc : Nat) (hS : StV S root ps pc) (most : Int) (_m0 : -9223372036854775808 ≤ most) (_m1 : most ≤ 9223372036854775807) :
    Calls Tryz.prog 7 #[.agg (docV R g), .agg S, .int .i64 most] w (SdPost w (scanD R M root ps pc most)) := by
  obtain ⟨Z, hZ⟩ : ∃ Z, Z = scanD R M root ps pc most := ⟨_, rfl⟩
  rw [← hZ]
  obtain ⟨L, hL⟩ : ∃ L, L = limN most := ⟨_, rfl⟩
  unfold scanD at hZ
  rw [← hL] at hZ
  have HZ := hidE hZ.symm
  have HS := hidE hS
  have HD := hidE H
  have HRm := hidE HR
  have L32 : L ≤ 32 := by rw [hL]; exact limN_le most
  have hLm : ((L : Nat) : Int) = min (max most 1) 32 := by rw [hL]; unfold limN; omega
  have hsz := hS.size
  have hhc := hS.hc
  have hLm2 := hidE hLm
  clear hZ hL hLm H HR hS
  unfold docV
  go_enter Tryz.func7, Tryz.ntmps7
  go_upto_if 16 with fail
  go_cut [2] from 15 (fun s2 wx => s2 = .int .i64 (max most 1) ∧ wx = sdW w R g S)
  case first =>
    by_cases h : most < 1
    · have q : decide (most < 1) = true := decide_eq_true h
      go_wp2_with fail
      go_meet
      exact ⟨by rw [Int.max_eq_right (by omega)], rfl⟩
    · have q : decide (most < 1) = false := decide_eq_false h
      go_wp2_with fail
      go_meet
      exact ⟨by rw [Int.max_eq_left (by omega)], rfl⟩
  case rest =>
    obtain ⟨rfl, rfl⟩ := hcut
    go_upto_if 18 with fail
    go_cut [2] from 15 (fun s2 wx => s2 = .int .i64 (L : Nat) ∧ wx = sdW w R g S)
    case first =>
      generalize max most 1 = mm at *
      by_cases h : 32 < mm
      · have q : decide (32 < mm) = true := decide_eq_true h
        go_wp2_with fail
        go_meet
        exact ⟨by rw [hLm2.out, Int.min_eq_right (by omega)], rfl⟩
      · have q : decide (32 < mm) = false := decide_eq_false h
        go_wp2_with fail
        go_meet
        exact ⟨by rw [hLm2.out, Int.min_eq_left (by omega)], rfl⟩
    case rest =>
      obtain ⟨rfl, rfl⟩ := hcut
      clear hLm2
      have hsw : (sdW w R g S).heap.size = w.heap.size + 1 + 1 + 1 + 1 := by simp [sdW]
      have HI := hidE (sdI_new (w := w) (R := R) (M := M) (g := g) (S := S))
      have c8 := (cell_of HI.out.b1 8).trans HS.out.e8
      go_wp2_with fail
      clear c8
      go_loopw [10] (fun t10 wr => ∃ (vi va vf vt vp : Value) (ins : List In) (at_ fr tb qg : List Int) (nx : Nat), SdI w wr R M g S vi va vf vt vp ins at_ fr tb qg ∧ t10 = .int .u32 (nx : Nat) ∧ goD R M root ps (L - ins.length) ⟨ins, at_, nx, 0, 1, fr, tb⟩ qg = Z ∧ SdP L ins at_ fr tb qg nx) (fun _ wr => L - lenF wr (w.heap.size + 1 + 1 + 1 + 1))
      case atStart => exact ⟨_, _, _, _, _, [], [], [], [], [], pc, HI.out, rfl, HZ.out, ⟨hhc, by simp, rfl, by simp, by simp, by simp, List.Pairwise.nil, List.Pairwise.nil, List.nodup_nil⟩⟩
      case round =>
        clear HI HZ
        obtain ⟨vi, va, vf, vt, vp, ins, at_, fr, tb, qg, nx, hI, rfl, hZ, hP⟩ := hrel
        obtain ⟨pi, ci, rfl⟩ := owns_sl hI.ri
        obtain ⟨pa, ca, rfl⟩ := owns_sl hI.ra
        obtain ⟨pf, cf, rfl⟩ := owns_sl hI.rf
        obtain ⟨pt, ct, rfl⟩ := owns_sl hI.rt
        obtain ⟨pp, cp, rfl⟩ := owns_sl hI.rp
        have HI := hidE hI
        have HP := hidE hP
        have hsi := hI.size
        have hil := hP.il
        have hnx := hP.hn
        have c4 := cell_of hI.b4
        have c0 := cell_of hI.b0
        have c5 := cell_of hI.b5
        have hld := ld_State hI.b1 hsz
        have hlen := lenF_of hI.b4
        have HLn := hidE hlen
        simp only [docV] at c0
        clear hI hP hlen
        by_cases hlt : ins.length < L
        · have p0 : decide ((ins.length : Int) < (L : Int)) = true := decide_eq_true (by omega)
          obtain ⟨n, hn⟩ : ∃ n, L - ins.length = n + 1 := ⟨L - ins.length - 1, by omega⟩
          have HNn := hidE hn
          rw [hn] at hZ
          unfold goD at hZ
          simp only at hZ
          have hz := fetchD_rel (R := R) (M := M) (root := root) (ps := ps) (pc := nx) (f0 := ⟨fr, tb, qg⟩) HP.out.q1 HP.out.q2 HP.out.nd
          have ho := fetchL_ok HRm.out root ps nx
          have HF := hidE (d_fetch _ (HD.out.same HI.out.same) S root ps pc HS.out nx hnx _ _ _ ⟨fr, tb, qg⟩ HI.out.rf HI.out.rt HI.out.rp HP.out.q1 HP.out.q2 (by have := HP.out.lf; simp only; omega) (by have := HP.out.lt; simp only; omega) (by have := HP.out.lq; simp only; omega))
          generalize fetchL R M root ps nx = zl at *
          generalize fetchD R M root ps nx ⟨fr, tb, qg⟩ = z at *
          obtain ⟨zc, za, ⟨io, ia, ib, im⟩, sz, ⟨zf, zt, zg⟩⟩ := z
          have hs0 : 0 ≤ sz ∧ sz ≤ 6 := by have h1 := ho.s0; have h2 := ho.s6; rw [← hz.sz] at h1 h2; exact ⟨h1, h2⟩
          have ho0 : 0 ≤ io ∧ io < 256 := by have h1 := ho.o0; have h2 := ho.o1; rw [← hz.i] at h1 h2; exact ⟨h1, h2⟩
          have hlf : zf.length ≤ fr.length + 6 := by have h := hz.f.fr; simp only at h; rw [h]; have := length_fold zl.f.fr fr; have := ho.f.l1; omega
          have hltb : zt.length ≤ tb.length + 12 := by have h := hz.f.tb; simp only at h; rw [h]; have := length_fold zl.f.tb tb; have := ho.f.l2; omega
          have hq1 : Rising zf := by have h := hz.f.fr; simp only at h; rw [h]; exact rising_fold _ _ HP.out.q1
          have hq2 : Rising zt := by have h := hz.f.tb; simp only at h; rw [h]; exact rising_fold _ _ HP.out.q2
          have hnd : zg.Nodup := hz.f.pn
          have HQ := hidE (And.intro hq1 (And.intro hq2 hnd))
          have HZ := hidE hZ
          clear hz ho hq1 hq2 hnd hZ hn
          go_wp2_with fail
          refine HF.out.mono ?_
          rintro _ u1 ⟨vf', vt', vp', rfl, hrf, hrt, hrp, hk, hfr⟩
          obtain ⟨pf', cf', rfl⟩ := owns_sl hrf
          obtain ⟨pt', ct', rfl⟩ := owns_sl hrt
          obtain ⟨pp', cp', rfl⟩ := owns_sl hrp
          simp only at hrf hrt hrp
          simp only
          clear HF hld c0 c4 c5
          have hw1 : Same u1 (((u1.alloc (.cells #[.int .u8 io, .int .u8 ia, .int .u8 ib, .int .i32 im] 67)).alloc (.cells #[.slice pf' zf.length cf', .slice pt' zt.length ct', .slice pp' zg.length cp'] 77)).alloc (.cells #[.int .i64 zc, .int .u32 (za : Nat)] 42)) := (((Keeps.refl _ _).alloc _).alloc _).alloc _
          have HI1 := hidE ((HI.out.st hk).st hw1)
          have HR1 := hidE (And.intro (owns_S hrf hw1) (And.intro (owns_S hrt hw1) (owns_S hrp hw1)))
          have hap : ∀ k, some k = (Value.slice pa at_.length ca).ownBlock → some k ≠ (Value.slice pp' zg.length cp').ownBlock := fun k e1 e2 => by
            rcases hfr k e2 with e | e
            · exact HI.out.ap k e1 e
            · have := (owns_lt HI.out.ra k e1).2
              omega
          have HAp := hidE hap
          have hs1 := (HI.out.st hk).size
          have HVi := hidE (And.intro (fun k e => (owns_lt (HI.out.st hk).ri k e).2) (fun k e => (owns_lt (HI.out.st hk).ra k e).2))
          have t11 := block_old (.cells #[.int .i64 zc, .int .u32 (za : Nat)] 42) (block_old (.cells #[.slice pf' zf.length cf', .slice pt' zt.length ct', .slice pp' zg.length cp'] 77) (block_new u1 (.cells #[.int .u8 io, .int .u8 ia, .int .u8 ib, .int .i32 im] 67)))
          have t13 := block_old (.cells #[.int .i64 zc, .int .u32 (za : Nat)] 42) (block_atR (.cells #[.slice pf' zf.length cf', .slice pt' zt.length ct', .slice pp' zg.length cp'] 77) (by simp : (u1.alloc (.cells #[.int .u8 io, .int .u8 ia, .int .u8 ib, .int .i32 im] 67)).heap.size = u1.heap.size + 1))
          have t14 := block_atR (.cells #[.int .i64 zc, .int .u32 (za : Nat)] 42) (by simp : ((u1.alloc (.cells #[.int .u8 io, .int .u8 ia, .int .u8 ib, .int .i32 im] 67)).alloc (.cells #[.slice pf' zf.length cf', .slice pt' zt.length ct', .slice pp' zg.length cp'] 77)).heap.size = u1.heap.size + 1 + 1)
          have HT := hidE (And.intro t11 (And.intro t13 t14))
          clear hrf hrt hrp hfr hap hk hw1 HI t11 t13 t14
          by_cases hc : zc = 0
          · subst hc
            by_cases hpg : 2 < zg.length
            · have p1 : decide ((2 : Int) < (zg.length : Int)) = true := decide_eq_true (by omega)
              have hZ := HZ.out
              rw [if_neg (by simp), if_pos (.inr hpg)] at hZ
              subst hZ
              have HE := hidE HI1.out.near
              obtain ⟨vq, g5⟩ := HE.out.b5
              have c4 := cell_of HE.out.b4
              have f4 := frozen_of HE.out.b4
              have c5 := cell_of g5
              clear g5
              have c13 := cell_of HT.out.2.1
              have c14 := cell_of HT.out.2.2
              go_wp2_with fail
              go_upto_region 29 with fail
              obtain ⟨U, hU⟩ : ∃ U : World, U = (((((u1.alloc (.cells #[.int .u8 io, .int .u8 ia, .int .u8 ib, .int .i32 im] 67)).alloc (.cells #[.slice pf' zf.length cf', .slice pt' zt.length ct', .slice pp' zg.length cp'] 77)).alloc (.cells #[.int .i64 0, .int .u32 (za : Nat)] 42)).setCell ⟨w.heap.size + 1 + 1 + 1 + 1, 2, none⟩ (.int .u32 (nx : Nat))).setCell ⟨w.heap.size + 1 + 1 + 1 + 1, 5, none⟩ (.slice pf fr.length cf)).setCell ⟨w.heap.size + 1 + 1 + 1 + 1, 6, none⟩ (.slice pt tb.length ct) := ⟨_, rfl⟩
              rw [← hU]
              obtain ⟨gl, gs, e3, e2, gk⟩ := HE.out.fin nx hU
              (try simp only [Int.ofNat_zero] at gl gs e3 e2 gk)
              clear hU c4 f4 c5
              obtain ⟨V, hV⟩ : ∃ V : World, V = U.setRow (w.heap.size + 1 + 1) #[.slice pi ins.length ci, .slice pa at_.length ca, .int .u32 (nx : Nat), .int .u32 0, .int .i64 1, .slice pf fr.length cf, .slice pt tb.length ct] := ⟨_, rfl⟩
              rw [← hV] at gs e3 e2 gk
              clear hV
              have HG := hidE (And.intro e3 (And.intro e2 gk))
              have c3 := cell_of e3
              have f3 := frozen_of e3
              clear e3 e2 gk
              go_wp2
              (try (rw [gl]; go_wp2))
              have kF := Keeps.setCell (F := fun k => k = w.heap.size + 1 + 1 ∨ k = w.heap.size + 1 + 1 + 1 + 1 ∨ k = w.heap.size + 1 + 1 + 1) (p := ⟨w.heap.size + 1 + 1 + 1, 1, none⟩) (Keeps.setCell (F := fun k => k = w.heap.size + 1 + 1 ∨ k = w.heap.size + 1 + 1 + 1 + 1 ∨ k = w.heap.size + 1 + 1 + 1) (p := ⟨w.heap.size + 1 + 1 + 1, 0, none⟩) (HG.out.2.2.mono fun j _ h => h.elim .inl (fun h => .inr (.inl h))) (fun _ => .inr (.inr rfl)) (.int .i64 0)) (fun _ => .inr (.inr rfl)) (.int .u32 0)
              exact bodyPost_ret (results_cc rfl rfl (block_other _ (block_other _ HG.out.2.1 (by simp only; omega)) (by simp only; omega)) Tryz.underlying40 rfl (by kernel_rfl) rfl (block_set (block_set HG.out.1 0 _) 1 _) Tryz.underlying42 rfl (by kernel_rfl)) rfl
                ⟨_, _, _, _, by rfl, HE.out.row HE.out.ri (by decide) (by decide) kF, HE.out.row HE.out.ra (by decide) (by decide) kF, HE.out.row HE.out.rf (by decide) (by decide) kF, HE.out.row HE.out.rt (by decide) (by decide) kF, same_then HE.out.same kF (fun k hk => by omega)⟩
            · have p1 : decide ((2 : Int) < (zg.length : Int)) = false := decide_eq_false (by omega)
              have hZ := HZ.out
              rw [if_neg (by simp), if_neg (by simp; omega)] at hZ
              have HZ := hidE hZ
              clear hZ
              have c5 := cell_of HI1.out.b5
              have f5 := frozen_of HI1.out.b5
              have c13 := cell_of HT.out.2.1
              have c14 := cell_of HT.out.2.2
              go_upto_region 15 with fail
              have hUA := HI1.out.sets HR1.out.1 HR1.out.2.1 HR1.out.2.2 HAp.out
              have kUA := HI1.out.setK (.slice pf' zf.length cf') (.slice pt' zt.length ct') (.slice pp' zg.length cp')
              have t11 := kUA.get HT.out.1 (by omega)
              clear c5 f5 c13 c14
              obtain ⟨UA, hUw⟩ : ∃ U : World, U = (((((u1.alloc (.cells #[.int .u8 io, .int .u8 ia, .int .u8 ib, .int .i32 im] 67)).alloc (.cells #[.slice pf' zf.length cf', .slice pt' zt.length ct', .slice pp' zg.length cp'] 77)).alloc (.cells #[.int .i64 0, .int .u32 (za : Nat)] 42)).setCell ⟨w.heap.size + 1 + 1 + 1 + 1 + 1, 0, none⟩ (.slice pf' zf.length cf')).setCell ⟨w.heap.size + 1 + 1 + 1 + 1 + 1, 1, none⟩ (.slice pt' zt.length ct')).setCell ⟨w.heap.size + 1 + 1 + 1 + 1 + 1, 2, none⟩ (.slice pp' zg.length cp') := ⟨_, rfl⟩
              rw [← hUw] at hUA t11 ⊢
              have hsA := hUA.size
              have HI2 := hidE hUA
              have c11 := cell_of t11
              have c4 := cell_of hUA.b4
              have f4 := frozen_of hUA.b4
              have BIG := hidE (And.intro HP.out.il HP.out.la)
              have T11 := hidE t11
              have nA : u1.heap.size ≠ w.heap.size + 1 + 1 + 1 + 1 := by omega
              have nB : w.heap.size + 1 + 1 + 1 + 1 ≠ u1.heap.size := by omega
              clear hUA hUw kUA HI1 HR1 HAp HT t11
              have sz1 : IntKind.u32.wrap sz = sz := by simp [IntKind.wrap, IntKind.bits, IntKind.signed]; omega
              obtain ⟨ny, hny⟩ : ∃ ny : Nat, ny = (nx + sz.toNat) % 4294967296 := ⟨_, rfl⟩
              have sz2 : IntKind.u32.wrap ((nx : Int) + sz) = (ny : Nat) := by subst hny; simp [IntKind.wrap, IntKind.bits, IntKind.signed]; omega
              have HNy := hidE hny
              have ny1 : ny < 4294967296 := by omega
              clear hny
              obtain ⟨n0, b1, b2, b3, b4, b5, b6, b7, b8, b9, hsh⟩ := of3Shape io
              have HO := hidE (of3_any io ho0.1 ho0.2)
              rw [hsh] at HO
              clear hsh
              have hfd := fld3 n0 b1 b2 b3 b4 b5 b6 b7 b8 b9 (ending3 io)
              go_wp2_with (first
                | (at_builtin; (refine appendN rfl (.tmp 59) (.tmp 61) rfl (w.heap.size + 1 + 1 + 1 + 1 + 1 + 1) _ ins rfl (owns_S HI2.out.ri ((Keeps.refl _ _).alloc (.cells #[.int .u8 io, .int .u8 ia, .int .u8 ib, .int .i32 im] 67))) _ 1 ⟨io, ia, ib, im⟩ rfl ⟨_, block_new _ _⟩ (by omega) (by simp; omega) ?_; intro g1 cap1 wX h1 h2; have HI3 := hidE (HI2.out.insA h1 h2); have b41 := HI2.out.insB h2; have c41 := cell_of b41; have f41 := frozen_of b41; have hsB := HI3.out.size; simp only [World.size_setCell] at hsB; have T12 := hidE (h2.keeps.get (block_old _ T11.out) (fun e => by have := HVi.out.1 _ e; omega)); clear h1 h2 b41))
                | (at_builtin; go_loud (refine appendU rfl (.tmp 65) (.tmp 67) rfl (w.heap.size + 1 + 1 + 1 + 1 + 1 + 1) _ at_ rfl (owns_S HI3.out.ra ((Keeps.refl _ _).alloc (.cells #[.int .u32 (nx : Nat)] 25))) _ 1 (nx : Nat) rfl ⟨_, block_atR _ (by simp [World.setCell])⟩ (by have := BIG.out.1; have := BIG.out.2; omega) (by simp [World.setCell]; omega) ?_; intro g2 cap2 wY h1 h2; have HI4 := hidE (HI3.out.atA h1 h2); have b42 := HI3.out.atB h2; have c42 := cell_of b42; have f42 := frozen_of b42; have t13 := h2.keeps.get (block_old _ (block_other _ T12.out (by simp only; omega))) (fun e => by have := HVi.out.2 _ e; omega); have c13 := cell_of t13; have T13 := hidE (show (wY.setCell ⟨w.heap.size + 1 + 1 + 1 + 1, 1, none⟩ (.slice (some ⟨g2, 0, none⟩) (at_.length + 1) cap2)).heap[u1.heap.size]? = _ from block_other _ t13 (by simp only; omega)); clear h1 h2 b42 t13)))
              refine (HO.out _).mono ?_
              rintro _ w3 ⟨rfl, hk3⟩
              have HI5 := hidE (HI4.out.st hk3)
              have c11 := cell_of (hk3.get T13.out id)
              have c4 := cell_of HI5.out.b4
              have f4 := frozen_of HI5.out.b4
              have c5 := cell_of HI5.out.b5
              clear hk3 HI4 HI3 HI2 c41 f41 c42 f42 c13 T11 T12 T13
              have hZ := HZ.out
              clear HZ
              cases hE : ending3 io with
              | false =>
                rw [hE] at hfd hZ
                rw [if_neg (by simp)] at hZ
                have HZ := hidE hZ
                clear hZ hE
                go_wp2_with fail
                clear c11 c4 f4 c5 hfd
                have hlen := lenF_of HI5.out.b4
                go_roundw
                case rel =>
                  refine ⟨_, _, _, _, _, ins ++ [⟨io, ia, ib, im⟩], at_ ++ [(nx : Int)], zf, zt, zg, ny, HI5.out, rfl, ?_, ⟨ny1, ?_, ?_, ?_, ?_, by omega, HQ.out.1, HQ.out.2.1, HQ.out.2.2⟩⟩
                  · have h := HZ.out
                    unfold layD at h
                    simp only at h
                    rw [← HNy.out] at h
                    rw [show L - (ins ++ [(⟨io, ia, ib, im⟩ : In)]).length = n by have := HNn.out; simp only [List.length_append, List.length_cons, List.length_nil]; omega]
                    exact h
                  · simp only [List.length_append, List.length_cons, List.length_nil]; omega
                  · have := HP.out.la; simp only [List.length_append, List.length_cons, List.length_nil]; omega
                  · have := HP.out.lf; simp only [List.length_append, List.length_cons, List.length_nil]; omega
                  · have := HP.out.lt; simp only [List.length_append, List.length_cons, List.length_nil]; omega
                case measure =>
                  have h1 := HLn.out
                  omega
              | true =>
                rw [hE] at hfd hZ
                rw [if_pos rfl] at hZ
                obtain ⟨to, hto⟩ : ∃ t : Nat, t = toN ny im := ⟨_, rfl⟩
                have sz3 : IntKind.u32.wrap ((ny : Int) + IntKind.u32.wrap im) = (to : Nat) := by rw [hto]; exact toN_wrap ny im
                have sz4 : ((ny : Int) + im) % 4294967296 = (to : Int) := by rw [hto]; unfold toN; omega
                have HTo := hidE hto
                have HZ := hidE hZ
                clear hZ hE hto
                by_cases d1 : io = 64
                · have HE := hidE (((HI5.out.near.setEn 4).setEn 2).setTo to)
                  obtain rfl : (⟨0, 0, ⟨ins ++ [⟨io, ia, ib, im⟩], at_ ++ [(nx : Int)], ny, to, 2, zf, zt⟩⟩ : Scanned) = Z := by
                    have h := HZ.out
                    rw [← h]
                    unfold endB layD
                    simp only
                    rw [if_pos (.inl d1)]
                    simp only [Bl.fin]
                    rw [← HNy.out, ← HTo.out]
                  subst d1
                  go_upto_region 29 with fail
                  obtain ⟨U, hU⟩ : ∃ U : World, U = (((((w3.setCell ⟨w.heap.size + 1 + 1 + 1 + 1, 4, none⟩ (.int .i64 4)).setCell ⟨w.heap.size + 1 + 1 + 1 + 1, 4, none⟩ (.int .i64 2)).setCell ⟨w.heap.size + 1 + 1 + 1 + 1, 3, none⟩ (.int .u32 (to : Nat))).setCell ⟨w.heap.size + 1 + 1 + 1 + 1, 2, none⟩ (.int .u32 (ny : Nat))).setCell ⟨w.heap.size + 1 + 1 + 1 + 1, 5, none⟩ (.slice pf' zf.length cf')).setCell ⟨w.heap.size + 1 + 1 + 1 + 1, 6, none⟩ (.slice pt' zt.length ct') := ⟨_, rfl⟩
                  rw [← hU]
                  obtain ⟨gl, gs, e3, e2, gk⟩ := HE.out.fin ny hU
                  (try simp only [Int.ofNat_zero] at gl gs e3 e2 gk)
                  clear hU c4 f4 c5
                  obtain ⟨V, hV⟩ : ∃ V : World, V = U.setRow (w.heap.size + 1 + 1) #[.slice (some ⟨g1, 0, none⟩) (ins.length + 1) cap1, .slice (some ⟨g2, 0, none⟩) (at_.length + 1) cap2, .int .u32 (ny : Nat), .int .u32 (to : Nat), .int .i64 2, .slice pf' zf.length cf', .slice pt' zt.length ct'] := ⟨_, rfl⟩
                  rw [← hV] at gs e3 e2 gk
                  clear hV
                  have HG := hidE (And.intro e3 (And.intro e2 gk))
                  have c3 := cell_of e3
                  have f3 := frozen_of e3
                  clear e3 e2 gk
                  go_wp2
                  (try (rw [gl]; go_wp2))
                  have kF := Keeps.setCell (F := fun k => k = w.heap.size + 1 + 1 ∨ k = w.heap.size + 1 + 1 + 1 + 1 ∨ k = w.heap.size + 1 + 1 + 1) (p := ⟨w.heap.size + 1 + 1 + 1, 1, none⟩) (Keeps.setCell (F := fun k => k = w.heap.size + 1 + 1 ∨ k = w.heap.size + 1 + 1 + 1 + 1 ∨ k = w.heap.size + 1 + 1 + 1) (p := ⟨w.heap.size + 1 + 1 + 1, 0, none⟩) (HG.out.2.2.mono fun j _ h => h.elim .inl (fun h => .inr (.inl h))) (fun _ => .inr (.inr rfl)) (.int .i64 0)) (fun _ => .inr (.inr rfl)) (.int .u32 0)
                  exact bodyPost_ret (results_cc rfl rfl (block_other _ (block_other _ HG.out.2.1 (by simp only; omega)) (by simp only; omega)) Tryz.underlying40 rfl (by kernel_rfl) rfl (block_set (block_set HG.out.1 0 _) 1 _) Tryz.underlying42 rfl (by kernel_rfl)) rfl
                    ⟨_, _, _, _, by rfl, HE.out.row HE.out.ri (by decide) (by decide) kF, HE.out.row HE.out.ra (by decide) (by decide) kF, HE.out.row HE.out.rf (by decide) (by decide) kF, HE.out.row HE.out.rt (by decide) (by decide) kF, same_then HE.out.same kF (fun k hk => by omega)⟩
                · by_cases d2 : io = 72
                  · have HE := hidE (((HI5.out.near.setEn 4).setEn 2).setTo to)
                    obtain rfl : (⟨0, 0, ⟨ins ++ [⟨io, ia, ib, im⟩], at_ ++ [(nx : Int)], ny, to, 2, zf, zt⟩⟩ : Scanned) = Z := by
                      have h := HZ.out
                      rw [← h]
                      unfold endB layD
                      simp only
                      rw [if_pos (.inr d2)]
                      simp only [Bl.fin]
                      rw [← HNy.out, ← HTo.out]
                    subst d2
                    go_upto_region 29 with fail
                    obtain ⟨U, hU⟩ : ∃ U : World, U = (((((w3.setCell ⟨w.heap.size + 1 + 1 + 1 + 1, 4, none⟩ (.int .i64 4)).setCell ⟨w.heap.size + 1 + 1 + 1 + 1, 4, none⟩ (.int .i64 2)).setCell ⟨w.heap.size + 1 + 1 + 1 + 1, 3, none⟩ (.int .u32 (to : Nat))).setCell ⟨w.heap.size + 1 + 1 + 1 + 1, 2, none⟩ (.int .u32 (ny : Nat))).setCell ⟨w.heap.size + 1 + 1 + 1 + 1, 5, none⟩ (.slice pf' zf.length cf')).setCell ⟨w.heap.size + 1 + 1 + 1 + 1, 6, none⟩ (.slice pt' zt.length ct') := ⟨_, rfl⟩
                    rw [← hU]
                    obtain ⟨gl, gs, e3, e2, gk⟩ := HE.out.fin ny hU
                    (try simp only [Int.ofNat_zero] at gl gs e3 e2 gk)
                    clear hU c4 f4 c5
                    obtain ⟨V, hV⟩ : ∃ V : World, V = U.setRow (w.heap.size + 1 + 1) #[.slice (some ⟨g1, 0, none⟩) (ins.length + 1) cap1, .slice (some ⟨g2, 0, none⟩) (at_.length + 1) cap2, .int .u32 (ny : Nat), .int .u32 (to : Nat), .int .i64 2, .slice pf' zf.length cf', .slice pt' zt.length ct'] := ⟨_, rfl⟩
                    rw [← hV] at gs e3 e2 gk
                    clear hV
                    have HG := hidE (And.intro e3 (And.intro e2 gk))
                    have c3 := cell_of e3
                    have f3 := frozen_of e3
                    clear e3 e2 gk
                    go_wp2
                    (try (rw [gl]; go_wp2))
                    have kF := Keeps.setCell (F := fun k => k = w.heap.size + 1 + 1 ∨ k = w.heap.size + 1 + 1 + 1 + 1 ∨ k = w.heap.size + 1 + 1 + 1) (p := ⟨w.heap.size + 1 + 1 + 1, 1, none⟩) (Keeps.setCell (F := fun k => k = w.heap.size + 1 + 1 ∨ k = w.heap.size + 1 + 1 + 1 + 1 ∨ k = w.heap.size + 1 + 1 + 1) (p := ⟨w.heap.size + 1 + 1 + 1, 0, none⟩) (HG.out.2.2.mono fun j _ h => h.elim .inl (fun h => .inr (.inl h))) (fun _ => .inr (.inr rfl)) (.int .i64 0)) (fun _ => .inr (.inr rfl)) (.int .u32 0)
                    exact bodyPost_ret (results_cc rfl rfl (block_other _ (block_other _ HG.out.2.1 (by simp only; omega)) (by simp only; omega)) Tryz.underlying40 rfl (by kernel_rfl) rfl (block_set (block_set HG.out.1 0 _) 1 _) Tryz.underlying42 rfl (by kernel_rfl)) rfl
                      ⟨_, _, _, _, by rfl, HE.out.row HE.out.ri (by decide) (by decide) kF, HE.out.row HE.out.ra (by decide) (by decide) kF, HE.out.row HE.out.rf (by decide) (by decide) kF, HE.out.row HE.out.rt (by decide) (by decide) kF, same_then HE.out.same kF (fun k hk => by omega)⟩
                  · have q64 : (io == 64) = false := beq_eq_false_iff_ne.2 d1
                    have q72 : (io == 72) = false := beq_eq_false_iff_ne.2 d2
                    by_cases d3 : 65 ≤ io
                    · by_cases d4 : io ≤ 71
                      · have HE := hidE (((HI5.out.near.setEn 4).setEn 3).setTo to)
                        obtain rfl : (⟨0, 0, ⟨ins ++ [⟨io, ia, ib, im⟩], at_ ++ [(nx : Int)], ny, to, 3, zf, zt⟩⟩ : Scanned) = Z := by
                          have h := HZ.out
                          rw [← h]
                          unfold endB layD
                          simp only
                          rw [if_neg (by omega), if_pos (by omega)]
                          simp only [Bl.fin]
                          rw [← HNy.out, ← HTo.out]
                        have q65 : decide ((65 : Int) ≤ io) = true := decide_eq_true d3
                        have q71 : decide (io ≤ 71) = true := decide_eq_true d4
                        go_upto_region 29 with fail
                        obtain ⟨U, hU⟩ : ∃ U : World, U = (((((w3.setCell ⟨w.heap.size + 1 + 1 + 1 + 1, 4, none⟩ (.int .i64 4)).setCell ⟨w.heap.size + 1 + 1 + 1 + 1, 4, none⟩ (.int .i64 3)).setCell ⟨w.heap.size + 1 + 1 + 1 + 1, 3, none⟩ (.int .u32 (to : Nat))).setCell ⟨w.heap.size + 1 + 1 + 1 + 1, 2, none⟩ (.int .u32 (ny : Nat))).setCell ⟨w.heap.size + 1 + 1 + 1 + 1, 5, none⟩ (.slice pf' zf.length cf')).setCell ⟨w.heap.size + 1 + 1 + 1 + 1, 6, none⟩ (.slice pt' zt.length ct') := ⟨_, rfl⟩
                        rw [← hU]
                        obtain ⟨gl, gs, e3, e2, gk⟩ := HE.out.fin ny hU
                        (try simp only [Int.ofNat_zero] at gl gs e3 e2 gk)
                        clear hU c4 f4 c5
                        obtain ⟨V, hV⟩ : ∃ V : World, V = U.setRow (w.heap.size + 1 + 1) #[.slice (some ⟨g1, 0, none⟩) (ins.length + 1) cap1, .slice (some ⟨g2, 0, none⟩) (at_.length + 1) cap2, .int .u32 (ny : Nat), .int .u32 (to : Nat), .int .i64 3, .slice pf' zf.length cf', .slice pt' zt.length ct'] := ⟨_, rfl⟩
                        rw [← hV] at gs e3 e2 gk
                        clear hV
                        have HG := hidE (And.intro e3 (And.intro e2 gk))
                        have c3 := cell_of e3
                        have f3 := frozen_of e3
                        clear e3 e2 gk
                        go_wp2
                        (try (rw [gl]; go_wp2))
                        have kF := Keeps.setCell (F := fun k => k = w.heap.size + 1 + 1 ∨ k = w.heap.size + 1 + 1 + 1 + 1 ∨ k = w.heap.size + 1 + 1 + 1) (p := ⟨w.heap.size + 1 + 1 + 1, 1, none⟩) (Keeps.setCell (F := fun k => k = w.heap.size + 1 + 1 ∨ k = w.heap.size + 1 + 1 + 1 + 1 ∨ k = w.heap.size + 1 + 1 + 1) (p := ⟨w.heap.size + 1 + 1 + 1, 0, none⟩) (HG.out.2.2.mono fun j _ h => h.elim .inl (fun h => .inr (.inl h))) (fun _ => .inr (.inr rfl)) (.int .i64 0)) (fun _ => .inr (.inr rfl)) (.int .u32 0)
                        exact bodyPost_ret (results_cc rfl rfl (block_other _ (block_other _ HG.out.2.1 (by simp only; omega)) (by simp only; omega)) Tryz.underlying40 rfl (by kernel_rfl) rfl (block_set (block_set HG.out.1 0 _) 1 _) Tryz.underlying42 rfl (by kernel_rfl)) rfl
                          ⟨_, _, _, _, by rfl, HE.out.row HE.out.ri (by decide) (by decide) kF, HE.out.row HE.out.ra (by decide) (by decide) kF, HE.out.row HE.out.rf (by decide) (by decide) kF, HE.out.row HE.out.rt (by decide) (by decide) kF, same_then HE.out.same kF (fun k hk => by omega)⟩
                      · have HE := hidE (HI5.out.near.setEn 4)
                        obtain rfl : (⟨0, 0, ⟨ins ++ [⟨io, ia, ib, im⟩], at_ ++ [(nx : Int)], ny, 0, 4, zf, zt⟩⟩ : Scanned) = Z := by
                          have h := HZ.out
                          rw [← h]
                          unfold endB layD
                          simp only
                          rw [if_neg (by omega), if_neg (by omega)]
                          rw [← HNy.out]
                        have q65 : decide ((65 : Int) ≤ io) = true := decide_eq_true d3
                        have q71 : decide (io ≤ 71) = false := decide_eq_false d4
                        go_upto_region 29 with fail
                        obtain ⟨U, hU⟩ : ∃ U : World, U = (((w3.setCell ⟨w.heap.size + 1 + 1 + 1 + 1, 4, none⟩ (.int .i64 4)).setCell ⟨w.heap.size + 1 + 1 + 1 + 1, 2, none⟩ (.int .u32 (ny : Nat))).setCell ⟨w.heap.size + 1 + 1 + 1 + 1, 5, none⟩ (.slice pf' zf.length cf')).setCell ⟨w.heap.size + 1 + 1 + 1 + 1, 6, none⟩ (.slice pt' zt.length ct') := ⟨_, rfl⟩
                        rw [← hU]
                        obtain ⟨gl, gs, e3, e2, gk⟩ := HE.out.fin ny hU
                        (try simp only [Int.ofNat_zero] at gl gs e3 e2 gk)
                        clear hU c4 f4 c5
                        obtain ⟨V, hV⟩ : ∃ V : World, V = U.setRow (w.heap.size + 1 + 1) #[.slice (some ⟨g1, 0, none⟩) (ins.length + 1) cap1, .slice (some ⟨g2, 0, none⟩) (at_.length + 1) cap2, .int .u32 (ny : Nat), .int .u32 0, .int .i64 4, .slice pf' zf.length cf', .slice pt' zt.length ct'] := ⟨_, rfl⟩
                        rw [← hV] at gs e3 e2 gk
                        clear hV
                        have HG := hidE (And.intro e3 (And.intro e2 gk))
                        have c3 := cell_of e3
                        have f3 := frozen_of e3
                        clear e3 e2 gk
                        go_wp2
                        (try (rw [gl]; go_wp2))
                        have kF := Keeps.setCell (F := fun k => k = w.heap.size + 1 + 1 ∨ k = w.heap.size + 1 + 1 + 1 + 1 ∨ k = w.heap.size + 1 + 1 + 1) (p := ⟨w.heap.size + 1 + 1 + 1, 1, none⟩) (Keeps.setCell (F := fun k => k = w.heap.size + 1 + 1 ∨ k = w.heap.size + 1 + 1 + 1 + 1 ∨ k = w.heap.size + 1 + 1 + 1) (p := ⟨w.heap.size + 1 + 1 + 1, 0, none⟩) (HG.out.2.2.mono fun j _ h => h.elim .inl (fun h => .inr (.inl h))) (fun _ => .inr (.inr rfl)) (.int .i64 0)) (fun _ => .inr (.inr rfl)) (.int .u32 0)
                        exact bodyPost_ret (results_cc rfl rfl (block_other _ (block_other _ HG.out.2.1 (by simp only; omega)) (by simp only; omega)) Tryz.underlying40 rfl (by kernel_rfl) rfl (block_set (block_set HG.out.1 0 _) 1 _) Tryz.underlying42 rfl (by kernel_rfl)) rfl
                          ⟨_, _, _, _, by rfl, HE.out.row HE.out.ri (by decide) (by decide) kF, HE.out.row HE.out.ra (by decide) (by decide) kF, HE.out.row HE.out.rf (by decide) (by decide) kF, HE.out.row HE.out.rt (by decide) (by decide) kF, same_then HE.out.same kF (fun k hk => by omega)⟩
                    · have HE := hidE (HI5.out.near.setEn 4)
                      obtain rfl : (⟨0, 0, ⟨ins ++ [⟨io, ia, ib, im⟩], at_ ++ [(nx : Int)], ny, 0, 4, zf, zt⟩⟩ : Scanned) = Z := by
                        have h := HZ.out
                        rw [← h]
                        unfold endB layD
                        simp only
                        rw [if_neg (by omega), if_neg (by omega)]
                        rw [← HNy.out]
                      have q65 : decide ((65 : Int) ≤ io) = false := decide_eq_false d3
                      go_upto_region 29 with fail
                      obtain ⟨U, hU⟩ : ∃ U : World, U = (((w3.setCell ⟨w.heap.size + 1 + 1 + 1 + 1, 4, none⟩ (.int .i64 4)).setCell ⟨w.heap.size + 1 + 1 + 1 + 1, 2, none⟩ (.int .u32 (ny : Nat))).setCell ⟨w.heap.size + 1 + 1 + 1 + 1, 5, none⟩ (.slice pf' zf.length cf')).setCell ⟨w.heap.size + 1 + 1 + 1 + 1, 6, none⟩ (.slice pt' zt.length ct') := ⟨_, rfl⟩
                      rw [← hU]
                      obtain ⟨gl, gs, e3, e2, gk⟩ := HE.out.fin ny hU
                      (try simp only [Int.ofNat_zero] at gl gs e3 e2 gk)
                      clear hU c4 f4 c5
                      obtain ⟨V, hV⟩ : ∃ V : World, V = U.setRow (w.heap.size + 1 + 1) #[.slice (some ⟨g1, 0, none⟩) (ins.length + 1) cap1, .slice (some ⟨g2, 0, none⟩) (at_.length + 1) cap2, .int .u32 (ny : Nat), .int .u32 0, .int .i64 4, .slice pf' zf.length cf', .slice pt' zt.length ct'] := ⟨_, rfl⟩
                      rw [← hV] at gs e3 e2 gk
                      clear hV
                      have HG := hidE (And.intro e3 (And.intro e2 gk))
                      have c3 := cell_of e3
                      have f3 := frozen_of e3
                      clear e3 e2 gk
                      go_wp2
                      (try (rw [gl]; go_wp2))
                      have kF := Keeps.setCell (F := fun k => k = w.heap.size + 1 + 1 ∨ k = w.heap.size + 1 + 1 + 1 + 1 ∨ k = w.heap.size + 1 + 1 + 1) (p := ⟨w.heap.size + 1 + 1 + 1, 1, none⟩) (Keeps.setCell (F := fun k => k = w.heap.size + 1 + 1 ∨ k = w.heap.size + 1 + 1 + 1 + 1 ∨ k = w.heap.size + 1 + 1 + 1) (p := ⟨w.heap.size + 1 + 1 + 1, 0, none⟩) (HG.out.2.2.mono fun j _ h => h.elim .inl (fun h => .inr (.inl h))) (fun _ => .inr (.inr rfl)) (.int .i64 0)) (fun _ => .inr (.inr rfl)) (.int .u32 0)
                      exact bodyPost_ret (results_cc rfl rfl (block_other _ (block_other _ HG.out.2.1 (by simp only; omega)) (by simp only; omega)) Tryz.underlying40 rfl (by kernel_rfl) rfl (block_set (block_set HG.out.1 0 _) 1 _) Tryz.underlying42 rfl (by kernel_rfl)) rfl
                        ⟨_, _, _, _, by rfl, HE.out.row HE.out.ri (by decide) (by decide) kF, HE.out.row HE.out.ra (by decide) (by decide) kF, HE.out.row HE.out.rf (by decide) (by decide) kF, HE.out.row HE.out.rt (by decide) (by decide) kF, same_then HE.out.same kF (fun k hk => by omega)⟩
          · have q1 : (zc != 0) = true := by simpa using hc
            by_cases hi0 : ins.length = 0
            · have q2 : ((ins.length : Int) == 0) = true := beq_iff_eq.2 (by omega)
              have hZ := HZ.out
              rw [if_pos ⟨hc, hi0⟩] at hZ
              subst hZ
              have c4 := cell_of HI1.out.b4
              have c14 := cell_of HT.out.2.2
              go_wp2_with fail
              refine wp_region_ra [0, 1] [2, 3] 1 (SR _ (w.heap.size + 1 + 1) 6) (by kernel_rfl) (by kernel_rfl) SR.same (SR.init (by rw [rowAt_of HI1.out.b2]; rfl)) ?_
              simp only [opsOf, List.filterMap_cons, List.filterMap_nil, List.getElem?_cons_zero, List.getElem?_cons_succ]
              repeat (refine seqV_run (v := ?_) rfl (fun u hu => ?_) ?_; rotate_left; (focus (have d2 := cell_of (hu.k.get HT.out.2.2 (by omega)); clear hu; go_simp; first | done | with_reducible rfl)); (try simp only [Act.put, List.setIfInBounds_toArray, List.set_cons_zero, List.set_cons_succ]))
              refine seqV_nil ?_
              refine tailR_row (A := #[.slice none 0 0, .slice none 0 0, .int .u32 0, .int .u32 0, .int .i64 0, .slice none 0 0, .slice none 0 0]) rfl rfl (fun u hu => ?_) ?_
              · exact st_Bv hu.z (by simp [Ones, Value.oneCell'])
              (try simp only [Act.put])
              refine tailR_zero fun u hu hrow => ?_
              obtain ⟨TA, hbA⟩ := row_blk hrow (by simp)
              have HbA := hidE hbA
              have b3 := hu.k.get HI1.out.b3 (by omega)
              have B3 := hidE b3
              have c3 := cell_of b3
              have f3 := frozen_of b3
              have HU := hidE (same_then HI1.out.same hu.k (fun k hk => by omega))
              clear hu hrow hbA b3 c4 c14
              go_wp2
              have kF : Keeps (fun k => k = w.heap.size + 1 + 1 + 1) u _ := Keeps.setCell (F := fun k => k = w.heap.size + 1 + 1 + 1) (p := ⟨w.heap.size + 1 + 1 + 1, 1, none⟩) (Keeps.setCell (F := fun k => k = w.heap.size + 1 + 1 + 1) (p := ⟨w.heap.size + 1 + 1 + 1, 0, none⟩) (Keeps.refl _ _) (fun _ => rfl) (.int .i64 zc)) (fun _ => rfl) (.int .u32 (za : Nat))
              exact bodyPost_ret (results_cc rfl rfl (kF.get HbA.out (by omega)) Tryz.underlying40 rfl (by kernel_rfl) rfl (block_set (block_set B3.out 0 _) 1 _) Tryz.underlying42 rfl (by kernel_rfl)) rfl
                ⟨.slice none 0 0, .slice none 0 0, .slice none 0 0, .slice none 0 0, by rfl, World.ownsRow_nil _ _ _ _, World.ownsRow_nil _ _ _ _, World.ownsRow_nil _ _ _ _, World.ownsRow_nil _ _ _ _, same_then HU.out kF (fun k hk => by omega)⟩
            · have q2 : ((ins.length : Int) == 0) = false := beq_eq_false_iff_ne.2 (by omega)
              have hZ := HZ.out
              rw [if_neg (fun h => hi0 h.2), if_pos (.inl hc)] at hZ
              subst hZ
              have HE := hidE HI1.out.near
              obtain ⟨vq, g5⟩ := HE.out.b5
              have c4 := cell_of HE.out.b4
              have f4 := frozen_of HE.out.b4
              have c5 := cell_of g5
              clear g5
              have c14 := cell_of HT.out.2.2
              go_wp2_with fail
              go_upto_region 29 with fail
              obtain ⟨U, hU⟩ : ∃ U : World, U = (((((u1.alloc (.cells #[.int .u8 io, .int .u8 ia, .int .u8 ib, .int .i32 im] 67)).alloc (.cells #[.slice pf' zf.length cf', .slice pt' zt.length ct', .slice pp' zg.length cp'] 77)).alloc (.cells #[.int .i64 zc, .int .u32 (za : Nat)] 42)).setCell ⟨w.heap.size + 1 + 1 + 1 + 1, 2, none⟩ (.int .u32 (nx : Nat))).setCell ⟨w.heap.size + 1 + 1 + 1 + 1, 5, none⟩ (.slice pf fr.length cf)).setCell ⟨w.heap.size + 1 + 1 + 1 + 1, 6, none⟩ (.slice pt tb.length ct) := ⟨_, rfl⟩
              rw [← hU]
              obtain ⟨gl, gs, e3, e2, gk⟩ := HE.out.fin nx hU
              (try simp only [Int.ofNat_zero] at gl gs e3 e2 gk)
              clear hU c4 f4 c5
              obtain ⟨V, hV⟩ : ∃ V : World, V = U.setRow (w.heap.size + 1 + 1) #[.slice pi ins.length ci, .slice pa at_.length ca, .int .u32 (nx : Nat), .int .u32 0, .int .i64 1, .slice pf fr.length cf, .slice pt tb.length ct] := ⟨_, rfl⟩
              rw [← hV] at gs e3 e2 gk
              clear hV
              have HG := hidE (And.intro e3 (And.intro e2 gk))
              have c3 := cell_of e3
              have f3 := frozen_of e3
              clear e3 e2 gk
              go_wp2
              (try (rw [gl]; go_wp2))
              have kF := Keeps.setCell (F := fun k => k = w.heap.size + 1 + 1 ∨ k = w.heap.size + 1 + 1 + 1 + 1 ∨ k = w.heap.size + 1 + 1 + 1) (p := ⟨w.heap.size + 1 + 1 + 1, 1, none⟩) (Keeps.setCell (F := fun k => k = w.heap.size + 1 + 1 ∨ k = w.heap.size + 1 + 1 + 1 + 1 ∨ k = w.heap.size + 1 + 1 + 1) (p := ⟨w.heap.size + 1 + 1 + 1, 0, none⟩) (HG.out.2.2.mono fun j _ h => h.elim .inl (fun h => .inr (.inl h))) (fun _ => .inr (.inr rfl)) (.int .i64 0)) (fun _ => .inr (.inr rfl)) (.int .u32 0)
              exact bodyPost_ret (results_cc rfl rfl (block_other _ (block_other _ HG.out.2.1 (by simp only; omega)) (by simp only; omega)) Tryz.underlying40 rfl (by kernel_rfl) rfl (block_set (block_set HG.out.1 0 _) 1 _) Tryz.underlying42 rfl (by kernel_rfl)) rfl
                ⟨_, _, _, _, by rfl, HE.out.row HE.out.ri (by decide) (by decide) kF, HE.out.row HE.out.ra (by decide) (by decide) kF, HE.out.row HE.out.rf (by decide) (by decide) kF, HE.out.row HE.out.rt (by decide) (by decide) kF, same_then HE.out.same kF (fun k hk => by omega)⟩
        · have p0 : decide ((ins.length : Int) < (L : Int)) = false := decide_eq_false (by omega)
          rw [show L - ins.length = 0 by omega] at hZ
          unfold goD at hZ
          subst hZ
          have HE := hidE HI.out.near
          clear hld c0 c4 c5
          obtain ⟨vq, g5⟩ := HE.out.b5
          have c4 := cell_of HE.out.b4
          have f4 := frozen_of HE.out.b4
          have c5 := cell_of g5
          clear g5
          go_wp2_with fail
          go_upto_region 29 with fail
          obtain ⟨U, hU⟩ : ∃ U : World, U = ((wr.setCell ⟨w.heap.size + 1 + 1 + 1 + 1, 2, none⟩ (.int .u32 (nx : Nat))).setCell ⟨w.heap.size + 1 + 1 + 1 + 1, 5, none⟩ (.slice pf fr.length cf)).setCell ⟨w.heap.size + 1 + 1 + 1 + 1, 6, none⟩ (.slice pt tb.length ct) := ⟨_, rfl⟩
          rw [← hU]
          obtain ⟨gl, gs, e3, e2, gk⟩ := HE.out.fin nx hU
          (try simp only [Int.ofNat_zero] at gl gs e3 e2 gk)
          clear hU c4 f4 c5
          obtain ⟨V, hV⟩ : ∃ V : World, V = U.setRow (w.heap.size + 1 + 1) #[.slice pi ins.length ci, .slice pa at_.length ca, .int .u32 (nx : Nat), .int .u32 0, .int .i64 1, .slice pf fr.length cf, .slice pt tb.length ct] := ⟨_, rfl⟩
          rw [← hV] at gs e3 e2 gk
          clear hV
          have HG := hidE (And.intro e3 (And.intro e2 gk))
          have c3 := cell_of e3
          have f3 := frozen_of e3
          clear e3 e2 gk
          go_wp2
          (try (rw [gl]; go_wp2))
          have kF := Keeps.setCell (F := fun k => k = w.heap.size + 1 + 1 ∨ k = w.heap.size + 1 + 1 + 1 + 1 ∨ k = w.heap.size + 1 + 1 + 1) (p := ⟨w.heap.size + 1 + 1 + 1, 1, none⟩) (Keeps.setCell (F := fun k => k = w.heap.size + 1 + 1 ∨ k = w.heap.size + 1 + 1 + 1 + 1 ∨ k = w.heap.size + 1 + 1 + 1) (p := ⟨w.heap.size + 1 + 1 + 1, 0, none⟩) (HG.out.2.2.mono fun j _ h => h.elim .inl (fun h => .inr (.inl h))) (fun _ => .inr (.inr rfl)) (.int .i64 0)) (fun _ => .inr (.inr rfl)) (.int .u32 0)
          exact bodyPost_ret (results_cc rfl rfl (block_other _ (block_other _ HG.out.2.1 (by simp only; omega)) (by simp only; omega)) Tryz.underlying40 rfl (by kernel_rfl) rfl (block_set (block_set HG.out.1 0 _) 1 _) Tryz.underlying42 rfl (by kernel_rfl)) rfl
            ⟨_, _, _, _, by rfl, HE.out.row HE.out.ri (by decide) (by decide) kF, HE.out.row HE.out.ra (by decide) (by decide) kF, HE.out.row HE.out.rf (by decide) (by decide) kF, HE.out.row HE.out.rt (by decide) (by decide) kF, same_then HE.out.same kF (fun k hk => by omega)⟩
end Go.Proofs.YtjkjnomhggmplaaGreat
