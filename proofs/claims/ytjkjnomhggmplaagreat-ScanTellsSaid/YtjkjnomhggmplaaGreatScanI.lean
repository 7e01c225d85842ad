/- Package scan: the walk of Scan. -/
import Derived.Test.YtjkjnomhggmplaaGreatScanG
import Derived.WalkMore
namespace Go.Proofs.YtjkjnomhggmplaaGreat
open Go.RowKit
attribute [local go_sem ↓] Go.wp_at_zero Go.wp_at_succ
attribute [local go_sem ↓] x_ldSt x_ldFd x_stFd x_ldB x_stB

def ScRel (w : World) (R : RamAt) (M : List Int) (S : Array Value) (root ps s0 : Nat) (most : Int) (Z : Scanned) (t10 : Value) (wr : World) : Prop :=
  ∃ vi va vf vt b pg, ScI w R M S root ps s0 wr vi va vf vt t10 b pg ∧ BlOk b ∧ b.ins.length ≤ limN most ∧ pg.length ≤ 2 ∧ Rising pg ∧ goL R M root ps (limN most - b.ins.length) b pg = Z
theorem scI_new {w : World} {R : RamAt} {M : List Int} (H : IsRam w R M) (S : Array Value) (root ps pc : Nat) (hS : StV S root ps pc) {w1 : World} (ht : TabNew w1 ((((w.alloc (.cells S 28)).alloc (.cells #[.slice none 0 0, .slice none 0 0, .int .u32 0, .int .u32 0, .int .i64 0, .slice none 0 0, .slice none 0 0] 40)).alloc (.cells #[.int .i64 0, .int .u32 0] 42)).alloc (.cells #[.slice none 0 0, .slice none 0 0, .int .u32 (pc : Nat), .int .u32 0, .int .i64 1, .slice none 0 0, .slice none 0 0] 40)).heap.size) (hk : Same ((((w.alloc (.cells S 28)).alloc (.cells #[.slice none 0 0, .slice none 0 0, .int .u32 0, .int .u32 0, .int .i64 0, .slice none 0 0, .slice none 0 0] 40)).alloc (.cells #[.int .i64 0, .int .u32 0] 42)).alloc (.cells #[.slice none 0 0, .slice none 0 0, .int .u32 (pc : Nat), .int .u32 0, .int .i64 1, .slice none 0 0, .slice none 0 0] 40)) w1) :
    ScI w R M S root ps pc w1 (.slice none 0 0) (.slice none 0 0) (.slice none 0 0) (.slice none 0 0) (.slice none 0 0) ⟨[], [], pc, 0, 1, [], []⟩ [] := by
  have hlS : R.S < w.heap.size := by obtain ⟨cs, h, -⟩ := H.hS; exact lt_of_block h
  have k0 : Same w ((((w.alloc (.cells S 28)).alloc (.cells #[.slice none 0 0, .slice none 0 0, .int .u32 0, .int .u32 0, .int .i64 0, .slice none 0 0, .slice none 0 0] 40)).alloc (.cells #[.int .i64 0, .int .u32 0] 42)).alloc (.cells #[.slice none 0 0, .slice none 0 0, .int .u32 (pc : Nat), .int .u32 0, .int .i64 1, .slice none 0 0, .slice none 0 0] 40)) := ((((Keeps.refl _ _).alloc _).alloc _).alloc _).alloc _
  have hz : ((((w.alloc (.cells S 28)).alloc (.cells #[.slice none 0 0, .slice none 0 0, .int .u32 0, .int .u32 0, .int .i64 0, .slice none 0 0, .slice none 0 0] 40)).alloc (.cells #[.int .i64 0, .int .u32 0] 42)).alloc (.cells #[.slice none 0 0, .slice none 0 0, .int .u32 (pc : Nat), .int .u32 0, .int .i64 1, .slice none 0 0, .slice none 0 0] 40)).heap.size = w.heap.size + 1 + 1 + 1 + 1 := by simp
  rw [hz] at ht
  refine ⟨hk.get ?_ id, hk.get ?_ id, hk.get ?_ id, hk.get ?_ id, .inl ht, ⟨World.ownsRow_nil _ _ _ _, World.ownsRow_nil _ _ _ _, World.ownsRow_nil _ _ _ _, World.ownsRow_nil _ _ _ _, fun k e => by simp [Value.ownBlock] at e⟩, World.ownsRow_nil _ _ _ _, fun k e => by simp [Value.ownBlock] at e, H.same (k0.trans hk), lt_of_block H.hb, hlS, lt_of_block H.hA, hS, k0.trans hk, fun _ => rfl⟩
  all_goals repeat (first | exact block_new _ _ | (refine block_atR _ ?_; (simp; done)) | refine block_old _ ?_)
theorem scan_fin {w u : World} {R : RamAt} {M : List Int} {S : Array Value} {root ps s0 : Nat} {vi0 va0 vf0 vt0 vp0 : Value} {b0 : Bl} {pg0 : List Int} (h : ScI w R M S root ps s0 u vi0 va0 vf0 vt0 vp0 b0 pg0) {vi va vf vt : Value} {b : Bl} (hw : BlW u w.heap.size vi va vf vt b) {c : Int} {x : Nat} {act : Act} {Z : Scanned} (hZ : Z = ⟨c, x, b⟩)
    (ha : act.tmps.getD 6 undef = .pointer (some ⟨w.heap.size + 1, 0, none⟩)) (hb : act.tmps.getD 7 undef = .pointer (some ⟨w.heap.size + 1 + 1, 0, none⟩)) (hd : act.defers = []) :
    bodyPost Tryz.prog Tryz.f6 (ScanPost w Z) .ret act (((u.setRow (w.heap.size + 1) (blA b vi va vf vt)).setCell ⟨w.heap.size + 1 + 1, 0, none⟩ (.int .i64 c)).setCell ⟨w.heap.size + 1 + 1, 1, none⟩ (.int .u32 (x : Nat))) := by
  subst hZ
  have e0 := setRow_block h.e6 (blA b vi va vf vt)
  have k0 : Keeps (fun k => k = w.heap.size + 1) u (u.setRow (w.heap.size + 1) (blA b vi va vf vt)) := Keeps.setRow (F := fun k => k = w.heap.size + 1) (Keeps.refl _ _) (fun _ => rfl) _
  have e1 := k0.get h.e7 (by omega)
  generalize u.setRow (w.heap.size + 1) (blA b vi va vf vt) = w3 at *
  have k : Keeps (fun k => k = w.heap.size + 1 + 1) w3 ((w3.setCell ⟨w.heap.size + 1 + 1, 0, none⟩ (.int .i64 c)).setCell ⟨w.heap.size + 1 + 1, 1, none⟩ (.int .u32 (x : Nat))) :=
    Keeps.setCell (F := fun k => k = w.heap.size + 1 + 1) (Keeps.setCell (F := fun k => k = w.heap.size + 1 + 1) (Keeps.refl _ _) (p := ⟨w.heap.size + 1 + 1, 0, none⟩) (fun _ => rfl) _) (p := ⟨w.heap.size + 1 + 1, 1, none⟩) (fun _ => rfl) _
  have e2 := block_set (block_set e1 0 (.int .i64 c)) 1 (.int .u32 (x : Nat))
  refine bodyPost_ret (results_cc rfl ha (k.get e0 (by omega)) Tryz.underlying40 rfl (by kernel_rfl) hb e2 Tryz.underlying42 rfl (by kernel_rfl)) hd ⟨vi, va, vf, vt, rfl, ?_, same_then (same_then h.keep k0 fun j hj => by omega) k fun j hj => by omega⟩
  exact ⟨owns_box (owns_box hw.ri h.e6 (by decide) k0) e1 (by decide) k, owns_box (owns_box hw.ra h.e6 (by decide) k0) e1 (by decide) k, owns_box (owns_box hw.rf h.e6 (by decide) k0) e1 (by decide) k, owns_box (owns_box hw.rt h.e6 (by decide) k0) e1 (by decide) k, hw.ft⟩
theorem st_fresh (w2 : World) (i : In) (sz : Int) (uf ut up : Value) (h1 : uf.oneCell' = true) (h2 : ut.oneCell' = true) (h3 : up.oneCell' = true) :
    (stRow 69 (.pointer (some ⟨w2.heap.size, 0, none⟩)) (.agg (fdA i sz uf ut up))).run Tryz.prog ((w2.alloc (.cells #[.int .u8 0, .int .u8 0, .int .u8 0, .int .i32 0, .slice none 0 0, .slice none 0 0, .slice none 0 0, .int .i64 0] 69)).alloc (.cells #[.int .i64 0, .int .u32 0] 42)) = .ok .skip ((w2.alloc (.cells (fdA i sz uf ut up) 69)).alloc (.cells #[.int .i64 0, .int .u32 0] 42)) := by
  have h := st_Fd (i := i) (sz := sz) (block_old (.cells #[.int .i64 0, .int .u32 0] 42) (block_new w2 (.cells #[.int .u8 0, .int .u8 0, .int .u8 0, .int .i32 0, .slice none 0 0, .slice none 0 0, .slice none 0 0, .int .i64 0] 69))) rfl h1 h2 h3
  rw [setRow_old _ _ _ _ (by simp), setRow_at _ _ _ _ _ rfl] at h
  exact h
theorem limN_le (most : Int) : limN most ≤ 32 := by unfold limN; omega
theorem ScI.lenF {w : World} {R : RamAt} {M : List Int} {S : Array Value} {root ps s0 : Nat} {wr : World} {vi va vf vt vp : Value} {b : Bl} {pg : List Int} (h : ScI w R M S root ps s0 wr vi va vf vt vp b pg) : lenF wr (w.heap.size + 1 + 1 + 1) = b.ins.length := by
  obtain ⟨p, c, rfl⟩ := owns_sl h.rows.ri
  unfold Go.Proofs.YtjkjnomhggmplaaGreat.lenF
  rw [cell_of h.e8]
  rfl
theorem toN_wrap (nx : Nat) (imm : Int) : IntKind.u32.wrap ((nx : Int) + IntKind.u32.wrap imm) = (toN nx imm : Nat) := by
  unfold toN
  simp [IntKind.wrap, IntKind.bits, IntKind.signed]
  omega
theorem BlW.low {w : World} {B B' : Nat} {vi va vf vt : Value} {b : Bl} (h : BlW w B vi va vf vt b) (hB : B' ≤ B) : BlW w B' vi va vf vt b :=
  ⟨owns_mono h.ri hB, owns_mono h.ra hB, owns_mono h.rf hB, owns_mono h.rt hB, h.ft⟩
theorem scan_end {w u : World} {R : RamAt} {M : List Int} {S : Array Value} {root ps s0 : Nat} {vi va vf vt vp : Value} {b : Bl} {pg : List Int} (h : ScI w R M S root ps s0 u vi va vf vt vp b pg) :
    (ldRow 40 (.pointer (some ⟨w.heap.size + 1 + 1 + 1, 0, none⟩))).run Tryz.prog u = .ok (.value (.agg (blA b vi va vf vt))) u ∧
    (stRow 40 (.pointer (some ⟨w.heap.size + 1, 0, none⟩)) (.agg (blA b vi va vf vt))).run Tryz.prog u = .ok .skip (u.setRow (w.heap.size + 1) (blA b vi va vf vt)) ∧
    (u.setRow (w.heap.size + 1) (blA b vi va vf vt)).heap[w.heap.size + 1 + 1]? = some (.cells #[.int .i64 0, .int .u32 0] 42 (0, 0)) :=
  ⟨ld_B h.e8, st_B h.e6 rfl (owns_one h.rows.ri) (owns_one h.rows.ra) (owns_one h.rows.rf) (owns_one h.rows.rt), (setRow_other _ _ _ _ (by omega)).trans h.e7⟩
/-- The pages under way. -/
structure InRel (W : World) (B : Nat) (vp : Value) (pg l : List Int) (k : Nat) (v : Value) (wr : World) : Prop where
  row : rowU wr B v ((l.take k).foldl putL pg)
  same : Same W wr
  from_ : From W.heap.size vp v
  nil : (l.take k).foldl putL pg = [] → v = .slice none 0 0
  ris : Rising ((l.take k).foldl putL pg)
theorem InRel.next {W wr w4 w5 : World} {B k : Nat} {vp v v1 v2 : Value} {pg l : List Int} {y : Int} (h : InRel W B vp pg l k v wr) (hft : (l.take (k + 1)).foldl putL pg = putL ((l.take k).foldl putL pg) y)
    (h1 : rowU w4 wr.heap.size v1 ((l.take k).foldl putL pg)) (k1 : Same wr w4) (h2 : rowU w5 wr.heap.size v2 (putL ((l.take k).foldl putL pg) y)) (g2 : GrewS w4 w5 v1 v2) (hB : B ≤ wr.heap.size) : InRel W B vp pg l (k + 1) v2 w5 := by
  refine ⟨by rw [hft]; exact owns_mono h2 hB, h.same.trans (same_then k1 g2.keeps fun j e => (owns_lt h1 j e).1), fun j e => .inr ?_, fun e => ?_, by rw [hft]; exact rising_putL h.ris y⟩
  · have := (owns_lt h2 j e).1
    have := h.same.size
    omega
  · rw [hft] at e
    have : y ∈ putL ((l.take k).foldl putL pg) y := mem_putL.2 (.inl rfl)
    rw [e] at this
    simp at this
set_option maxRecDepth 100000 in
set_option maxHeartbeats 4000000 in
theorem scan_any {R : RamAt} {M : List Int} (w : World) (H : IsRam w R M) (S : Array Value) (root ps pc : Nat) (hS : StV S root ps pc) (most : Int) (m0 : -9223372036854775808 ≤ most) (m1 : most ≤ 9223372036854775807) :
    Calls Tryz.prog 6 #[.pointer (some ⟨R.b, 0, none⟩), .agg S, .int .i64 most] w (ScanPost w (scanL R M root ps pc most)) := by
  have hlb := lt_of_block H.hb
  have hlS : R.S < w.heap.size := by obtain ⟨cs, h, -⟩ := H.hS; exact lt_of_block h
  have hlA := lt_of_block H.hA
  have hsz := hS.size
  obtain ⟨_, g8⟩ := Array.getElem?_eq_some_iff.1 hS.e8
  have HH := hidE H
  clear H
  generalize hz : scanL R M root ps pc most = Z
  have HZ := hidE hz
  clear hz
  go_enter Tryz.func6, Tryz.ntmps6
  have hs0 : (stRow 40 (.pointer (some ⟨w.heap.size + 1 + 1 + 1, 0, none⟩)) (.agg #[.slice none 0 0, .slice none 0 0, .int .u32 (pc : Nat), .int .u32 0, .int .i64 1, .slice none 0 0, .slice none 0 0])).run Tryz.prog ((((w.alloc (.cells S 28)).alloc (.cells #[.slice none 0 0, .slice none 0 0, .int .u32 0, .int .u32 0, .int .i64 0, .slice none 0 0, .slice none 0 0] 40)).alloc (.cells #[.int .i64 0, .int .u32 0] 42)).alloc (.cells #[.slice none 0 0, .slice none 0 0, .int .u32 0, .int .u32 0, .int .i64 0, .slice none 0 0, .slice none 0 0] 40)) = .ok .skip ((((w.alloc (.cells S 28)).alloc (.cells #[.slice none 0 0, .slice none 0 0, .int .u32 0, .int .u32 0, .int .i64 0, .slice none 0 0, .slice none 0 0] 40)).alloc (.cells #[.int .i64 0, .int .u32 0] 42)).alloc (.cells #[.slice none 0 0, .slice none 0 0, .int .u32 (pc : Nat), .int .u32 0, .int .i64 1, .slice none 0 0, .slice none 0 0] 40)) := by
    have h := st_B (w := ((((w.alloc (.cells S 28)).alloc (.cells #[.slice none 0 0, .slice none 0 0, .int .u32 0, .int .u32 0, .int .i64 0, .slice none 0 0, .slice none 0 0] 40)).alloc (.cells #[.int .i64 0, .int .u32 0] 42)).alloc (.cells #[.slice none 0 0, .slice none 0 0, .int .u32 0, .int .u32 0, .int .i64 0, .slice none 0 0, .slice none 0 0] 40))) (g := w.heap.size + 1 + 1 + 1) (b := ⟨[], [], pc, 0, 1, [], []⟩) (vi := .slice none 0 0) (va := .slice none 0 0) (vf := .slice none 0 0) (vt := .slice none 0 0) (block_atR _ (by simp)) rfl rfl rfl rfl rfl
    rw [setRow_at _ _ _ _ _ (by simp)] at h
    exact h
  go_wp2_with fail
  go_step3
  go_wp2_with fail
  refine (kind_new _).mono ?_
  rintro _ w1 ⟨rfl, ht, hk⟩
  have HI := hidE (scI_new HH.out S root ps pc hS ht hk)
  clear ht hk hs0
  go_wp2_with fail
  go_step3
  go_wp2_with fail
  go_loopw [10] (fun t10 wr => ScRel w R M S root ps pc most Z t10 wr) (fun _ wr => limN most - lenF wr (w.heap.size + 1 + 1 + 1))
  case atStart =>
    refine ⟨_, _, _, _, _, [], HI.out, ⟨List.Pairwise.nil, List.Pairwise.nil, rfl, by simp, by simp, hS.hc⟩, by simp, by simp, List.Pairwise.nil, ?_⟩
    exact HZ.out
  case round =>
    obtain ⟨wr0, rfl⟩ : ∃ x, x = wr := ⟨_, rfl⟩
    obtain ⟨vi, va, vf, vt, b, pg, hI, hB, hl, hp2, hpr, hg⟩ := hrel
    have HI := hidE hI
    have HG := hidE hg
    have c8 := cell_of hI.e8
    simp only [blA] at c8
    obtain ⟨pi, ci, rfl⟩ := owns_sl hI.rows.ri
    clear hI hg HZ
    by_cases hlt : b.ins.length < limN most
    · have q0 : decide ((b.ins.length : Int) < min (max most 1) 32) = true := by unfold limN at hlt; simp only [decide_eq_true_eq]; omega
      have hld := ld_State HI.out.e4 hS.size
      have hfo := fetchL_ok HH.out root ps b.next
      obtain ⟨n, hn⟩ : ∃ n, limN most - b.ins.length = n + 1 := ⟨limN most - b.ins.length - 1, by omega⟩
      rw [hn] at HG
      simp only [goL] at HG
      have HFe := hidE (fun u (hu : Same wr0 u) => fetch_any u (HI.out.same hu).ram S root ps b.next pc hS hB.hn)
      generalize fetchL R M root ps b.next = z at *
      obtain ⟨zc, za, zi, zs, zf⟩ := z
      have HFo := hidE hfo
      clear hfo
      go_wp2_with fail
      refine (HFe.out _ (Keeps.refl _ _)).mono ?_
      rintro _ w2 ⟨uf, ut, up, rfl, hFd, hk⟩
      have HI2 := hidE (HI.out.same hk)
      have HFd := hidE hFd
      clear hk hFd
      simp only [flV]
      obtain ⟨qf, df, rfl⟩ := owns_sl HFd.out.rf
      obtain ⟨qt, dt, rfl⟩ := owns_sl HFd.out.rt
      obtain ⟨qp, dp, rfl⟩ := owns_sl HFd.out.rp
      have hs65 := st_fresh w2 zi zs (.slice qf zf.fr.length df) (.slice qt zf.tb.length dt) (.slice qp zf.pg.length dp) rfl rfl rfl
      have k3 : Same w2 ((w2.alloc (.cells (fdA zi zs (.slice qf zf.fr.length df) (.slice qt zf.tb.length dt) (.slice qp zf.pg.length dp)) 69)).alloc (.cells #[.int .i64 zc, .int .u32 (za : Nat)] 42)) := ((Keeps.refl _ _).alloc _).alloc _
      have HI3 := hidE (HI2.out.same k3)
      have d8 := cell_of HI3.out.e8
      simp only [blA] at d8
      by_cases hA : zc ≠ 0 ∧ b.ins.length = 0
      · have hz : Z = ⟨zc, za, bl0⟩ := by have h := HG.out; rw [if_pos hA] at h; exact h.symm
        have q1 : (zc != 0) = true := by simpa using hA.1
        have q2 : decide (b.ins.length = 0) = true := by simpa using hA.2
        have q3 : b.ins.length = 0 := hA.2
        clear hA
        go_wp2_with fail
        have c12 := cell_of (show ((w2.alloc (.cells (fdA zi zs (.slice qf zf.fr.length df) (.slice qt zf.tb.length dt) (.slice qp zf.pg.length dp)) 69)).alloc (.cells #[.int .i64 zc, .int .u32 (za : Nat)] 42)).heap[w2.heap.size + 1]? = _ from block_atR _ (by simp))
        refine wp_region_evp [0, 1] [2, 3] 1 (fun u => u.cell? ⟨w2.heap.size + 1, 0, none⟩ = some (.int .i64 zc) ∧ u.cell? ⟨w2.heap.size + 1, 1, none⟩ = some (.int .u32 (za : Nat))) (by kernel_rfl) (by kernel_rfl) (fun c a d v w h => by cases d <;> exact h) ⟨c12 0, c12 1⟩ ?_
        simp only [opsOf, List.filterMap_cons, List.filterMap_nil, List.getElem?_cons_zero, List.getElem?_cons_succ]
        repeat (refine stS_cons (v := ?_) rfl (fun u hu => ?_) ?_; rotate_left; · (obtain ⟨u1, u2⟩ := hu; go_simp; first | done | with_reducible rfl); (try simp only [Act.put, List.setIfInBounds_toArray, List.set_cons_zero, List.set_cons_succ]))
        refine stS_nil ?_
        have HI4 := hidE (HI3.out.same (Keeps.refl (fun _ => False) ((w2.alloc (.cells (fdA zi zs (.slice qf zf.fr.length df) (.slice qt zf.tb.length dt) (.slice qp zf.pg.length dp)) 69)).alloc (.cells #[.int .i64 zc, .int .u32 (za : Nat)] 42))).drew)
        have hst : (stRow 40 (.pointer (some ⟨w.heap.size + 1, 0, none⟩)) (.agg #[.slice none 0 0, .slice none 0 0, .int .u32 0, .int .u32 0, .int .i64 0, .slice none 0 0, .slice none 0 0])).run Tryz.prog ((w2.alloc (.cells (fdA zi zs (.slice qf zf.fr.length df) (.slice qt zf.tb.length dt) (.slice qp zf.pg.length dp)) 69)).alloc (.cells #[.int .i64 zc, .int .u32 (za : Nat)] 42)).drew = .ok .skip (((w2.alloc (.cells (fdA zi zs (.slice qf zf.fr.length df) (.slice qt zf.tb.length dt) (.slice qp zf.pg.length dp)) 69)).alloc (.cells #[.int .i64 zc, .int .u32 (za : Nat)] 42)).drew.setRow (w.heap.size + 1) #[.slice none 0 0, .slice none 0 0, .int .u32 0, .int .u32 0, .int .i64 0, .slice none 0 0, .slice none 0 0]) := st_B (b := bl0) (vi := .slice none 0 0) (va := .slice none 0 0) (vf := .slice none 0 0) (vt := .slice none 0 0) HI4.out.e6 rfl rfl rfl rfl rfl
        have hw2 := HI2.out.size
        have e1 : (((w2.alloc (.cells (fdA zi zs (.slice qf zf.fr.length df) (.slice qt zf.tb.length dt) (.slice qp zf.pg.length dp)) 69)).alloc (.cells #[.int .i64 zc, .int .u32 (za : Nat)] 42)).drew.setRow (w.heap.size + 1) #[.slice none 0 0, .slice none 0 0, .int .u32 0, .int .u32 0, .int .i64 0, .slice none 0 0, .slice none 0 0]).heap[w.heap.size + 1 + 1]? = _ := (setRow_other _ _ _ _ (by omega)).trans HI4.out.e7
        have e2 : (((w2.alloc (.cells (fdA zi zs (.slice qf zf.fr.length df) (.slice qt zf.tb.length dt) (.slice qp zf.pg.length dp)) 69)).alloc (.cells #[.int .i64 zc, .int .u32 (za : Nat)] 42)).drew.setRow (w.heap.size + 1) #[.slice none 0 0, .slice none 0 0, .int .u32 0, .int .u32 0, .int .i64 0, .slice none 0 0, .slice none 0 0]).heap[w2.heap.size + 1]? = _ := (setRow_other _ _ _ _ (by omega)).trans (show ((w2.alloc (.cells (fdA zi zs (.slice qf zf.fr.length df) (.slice qt zf.tb.length dt) (.slice qp zf.pg.length dp)) 69)).alloc (.cells #[.int .i64 zc, .int .u32 (za : Nat)] 42)).heap[w2.heap.size + 1]? = _ from block_atR _ (by simp))
        have p1 := cell_of e1
        have p3 := frozen_of e1
        have p2 := cell_of e2
        clear c12 e1 e2
        refine wpListS_cons ?_
        go_wp2
        refine Then1_mk ⟨⟨p2 0, p2 1⟩, ?_⟩
        refine wpListS_zero ?_
        go_wp2
        exact scan_fin HI4.out (b := bl0) (vi := .slice none 0 0) (va := .slice none 0 0) (vf := .slice none 0 0) (vt := .slice none 0 0) ⟨World.ownsRow_nil _ _ _ _, World.ownsRow_nil _ _ _ _, World.ownsRow_nil _ _ _ _, World.ownsRow_nil _ _ _ _, fun k e => by simp [Value.ownBlock] at e⟩ hz rfl rfl rfl
      · have HG2 : Hid ((if zc ≠ 0 ∨ 2 < (zf.pg.foldl putL pg).length then (⟨0, 0, b⟩ : Scanned) else if 3 ≤ (kindM zi.op).1 then ⟨0, 0, endB (layL b zi zs zf) zi⟩ else goL R M root ps n (layL b zi zs zf) (zf.pg.foldl putL pg)) = Z) := hidE (by have h := HG.out; rw [if_neg hA] at h; exact h)
        by_cases hc0 : zc = 0
        · subst hc0
          clear hA
          have b11 : ((w2.alloc (.cells (fdA zi zs (.slice qf zf.fr.length df) (.slice qt zf.tb.length dt) (.slice qp zf.pg.length dp)) 69)).alloc (.cells #[.int .i64 0, .int .u32 (za : Nat)] 42)).heap[w2.heap.size]? = some (.cells (fdA zi zs (.slice qf zf.fr.length df) (.slice qt zf.tb.length dt) (.slice qp zf.pg.length dp)) 69 (0, 0)) := block_old _ (block_new _ _)
          have b12 : ((w2.alloc (.cells (fdA zi zs (.slice qf zf.fr.length df) (.slice qt zf.tb.length dt) (.slice qp zf.pg.length dp)) 69)).alloc (.cells #[.int .i64 0, .int .u32 (za : Nat)] 42)).heap[w2.heap.size + 1]? = some (.cells #[.int .i64 0, .int .u32 (za : Nat)] 42 (0, 0)) := block_atR _ (by simp)
          have c11 := cell_of b11
          have c12 := cell_of b12
          simp only [fdA] at c11
          have f6 : (fdA zi zs (.slice qf zf.fr.length df) (.slice qt zf.tb.length dt) (.slice qp zf.pg.length dp))[6]? = some (.slice qp zf.pg.length dp) := rfl
          have HP := hidE (owns_stay HFd.out.rp k3 (fun _ _ => id))
          have HQ := hidE (And.intro b11 b12)
          have HK3 := hidE k3
          have hw2 := HI2.out.size
          clear b11 b12 HG k3
          go_wp2_with fail
          go_loopw [13, 51] (fun t13 t51 wr => ∃ k : Nat, k ≤ zf.pg.length ∧ t51 = .int .i64 k ∧ InRel ((w2.alloc (.cells (fdA zi zs (.slice qf zf.fr.length df) (.slice qt zf.tb.length dt) (.slice qp zf.pg.length dp)) 69)).alloc (.cells #[.int .i64 0, .int .u32 (za : Nat)] 42)) (w.heap.size + 1 + 1 + 1 + 1 + 1) u10 pg zf.pg k t13 wr) (fun _ t51 _ => zf.pg.length - (intOf t51).toNat)
          case atStart => exact ⟨0, by omega, rfl, HI3.out.rp, Keeps.refl _ _, From.refl _ _, HI3.out.hn, hpr⟩
          case round =>
            obtain ⟨k, hk, rfl, hIn⟩ := hrel
            have HIn := hidE hIn
            have hl4 := length_fold (zf.pg.take k) pg
            have hl5 := List.length_take_le k zf.pg
            have hl6 := HFo.out.f.l3
            simp only at hl6
            have e3 := wrapI ((k : Int) + 1) (by omega) (by omega)
            clear hIn
            by_cases hlk : k < zf.pg.length
            · have q7 : decide ((k : Int) < (zf.pg.length : Int)) = true := by simpa using hlk
              obtain ⟨gq, cq, hq, -, -, -, -, hcq⟩ := rowU_get (owns_stay HP.out HIn.out.same (fun _ _ => id)) hlk
              have hcq := hcq k hlk
              obtain ⟨y, hy⟩ : ∃ y, zf.pg[k]'hlk = y := ⟨_, rfl⟩
              rw [hy] at hcq
              obtain rfl : qp = some ⟨gq, 0, none⟩ := by cases hq; rfl
              clear hq
              go_wp2_with fail
              refine (cloneU _ _ _ _ HIn.out.row HIn.out.nil (by omega)).mono ?_
              rintro _ w4 ⟨v1, rfl, hr1, hk1, -⟩
              go_wp2_with fail
              refine (putU w4 _ v1 _ y hr1 HIn.out.ris (by omega) hk1.size).mono ?_
              rintro _ w5 ⟨v2, rfl, hr2, hg2⟩
              have hft := fold_take zf.pg pg k hlk
              rw [hy] at hft
              have HN := hidE (InRel.next HIn.out hft hr1 hk1 hr2 hg2 (by have h1 := HIn.out.same.size; have h2 := HI3.out.size; omega))
              clear hr1 hk1 hr2 hg2 hcq
              go_wp2
              go_roundw
              case rel => exact ⟨k + 1, by omega, by go_num, HN.out⟩
              case measure => simp only [intOf]; omega
            · have q7 : decide ((k : Int) < (zf.pg.length : Int)) = false := by simpa using hlk
              obtain rfl : zf.pg.length = k := by omega
              have hrow := HIn.out.row
              have hnil := HIn.out.nil
              have hris := HIn.out.ris
              rw [List.take_length] at hrow hnil hris hl4
              have HI5 := hidE (HI3.out.same HIn.out.same)
              obtain ⟨p5, c5, hv5⟩ := owns_sl hrow
              subst hv5
              have c12 := cell_of (HIn.out.same.get HQ.out.2 id)
              have HR := hidE (And.intro hrow (And.intro hnil hris))
              clear hrow hnil hris
              by_cases hlen : 2 < (zf.pg.foldl putL pg).length
              · have hz : Z = ⟨0, 0, b⟩ := by have h := HG2.out; rw [if_pos (.inr hlen)] at h; exact h.symm
                have q8 : decide ((2 : Int) < ((zf.pg.foldl putL pg).length : Int)) = true := by simp; omega
                obtain ⟨hld, hst, e1⟩ := scan_end HI5.out
                have p1 := cell_of e1
                have p3 := frozen_of e1
                clear e1
                go_wp2
                exact scan_fin HI5.out (HI5.out.rows.low (by omega)) hz rfl rfl rfl
              · have HG3 : Hid ((if 3 ≤ (kindM zi.op).1 then (⟨0, 0, endB (layL b zi zs zf) zi⟩ : Scanned) else goL R M root ps n (layL b zi zs zf) (zf.pg.foldl putL pg)) = Z) := hidE (by have h := HG2.out; rw [if_neg (by simp; omega)] at h; exact h)
                have q8 : decide ((2 : Int) < ((zf.pg.foldl putL pg).length : Int)) = false := by simp; omega
                have b11 := HIn.out.same.get HQ.out.1 id
                have hldB := ld_B HI5.out.e8
                have hldF := ld_Fd b11
                have hlim := limN_le most
                have HLa := hidE (sLay_any wr _ _ va vf vt _ _ (.slice qp zf.pg.length dp) b zi zs zf HI5.out.rows (owns_mono (owns_stay HFd.out.rf (HK3.out.trans HIn.out.same) (fun _ _ => id)) (Nat.zero_le _)) (owns_mono (owns_stay HFd.out.rt (HK3.out.trans HIn.out.same) (fun _ _ => id)) (Nat.zero_le _))
                  (fun k e => by
                    have h1 : wr0.heap.size ≤ k := by
                      rcases e with e | e
                      · exact (owns_lt HFd.out.rf k e).1
                      · exact (owns_lt HFd.out.rt k e).1
                    exact ⟨fun e' => by have := (owns_lt HI.out.rows.rf k e').2; omega, fun e' => by have := (owns_lt HI.out.rows.rt k e').2; omega⟩)
                  (by have h1 := HIn.out.same.size; have h2 := HI3.out.size; omega) hB.r1 hB.r2 (by omega) (by have := hB.la; omega) (by have := hB.lf; omega) (by have := hB.lt; omega) (by have := HFo.out.f.l1; simp only at this; omega) (by have := HFo.out.f.l2; simp only at this; omega) hB.hn HFo.out.s0 HFo.out.s6)
                have hBL := hidE (layL_ok hB HFo.out)
                simp only at HLa hBL
                have HM5 := hidE b11
                clear b11
                go_wp2_with fail
                refine HLa.out.mono ?_
                rintro _ w6 ⟨vi', va', vf', vt', rfl, hL⟩
                have hS6 := HI5.out.lay hL HR.out.1 (fun k e e' => by
                  rcases HIn.out.from_ k e' with e2 | e2
                  · exact HI3.out.ap k e e2
                  · have := (owns_lt HI3.out.rows.ra k e).2; omega) HR.out.2.1
                have hst6 := st_B (b := layL b zi zs zf) hS6.1 rfl (owns_one hL.rows.ri) (owns_one hL.rows.ra) (owns_one hL.rows.rf) (owns_one hL.rows.rt)
                have b11' : (w6.setRow (w.heap.size + 1 + 1 + 1) (blA (layL b zi zs zf) vi' va' vf' vt')).heap[w2.heap.size]? = some (.cells (fdA zi zs (.slice qf zf.fr.length df) (.slice qt zf.tb.length dt) (.slice qp zf.pg.length dp)) 69 (0, 0)) := (setRow_other _ _ _ _ (by omega)).trans (hL.keep.get HM5.out (fun e => by
                  rcases e with e | e | e | e
                  · exact owns_no HI5.out.rows.ri HM5.out (by decide) e
                  · exact owns_no HI5.out.rows.ra HM5.out (by decide) e
                  · exact owns_no HI5.out.rows.rf HM5.out (by decide) e
                  · exact owns_no HI5.out.rows.rt HM5.out (by decide) e))
                have c11' := cell_of b11'
                simp only [fdA] at c11'
                have HI6 := hidE hS6.2
                have HB6 := hidE b11'
                clear hL hS6 b11' hldB hldF
                go_wp2_with fail
                refine (ends_ok _ (w.heap.size + 1 + 1 + 1 + 1) zi.op HFo.out.o0 HFo.out.o1 HI6.out.tab).mono ?_
                rintro _ w7 ⟨rfl, hk7, ht7⟩
                have HI7 := hidE (HI6.out.ask hk7 ht7)
                have HB7 := hidE (hk7.get HB6.out (by omega))
                clear hk7 ht7 c11' hst6
                by_cases hends : 3 ≤ (kindM zi.op).1
                · have hz : Z = ⟨0, 0, endB (layL b zi zs zf) zi⟩ := by have h := HG3.out; rw [if_pos hends] at h; exact h.symm
                  have q9 : decide ((3 : Int) ≤ (kindM zi.op).1) = true := by simpa using hends
                  have c7 := cell_of HB7.out
                  simp only [fdA] at c7
                  have d7 := cell_of HI7.out.e8
                  have k7 := frozen_of HI7.out.e8
                  simp only [blA] at d7
                  have e5 := toN_wrap (layL b zi zs zf).next zi.imm
                  generalize him : IntKind.u32.wrap zi.imm = im at e5
                  generalize htn : toN (layL b zi zs zf).next zi.imm = tn at e5
                  have HTN := hidE htn
                  clear htn
                  by_cases o64 : zi.op = 64
                  · have f1 : (zi.op == 64) = true := by simpa using o64
                    have hz2 : Z = ⟨0, 0, ⟨(layL b zi zs zf).ins, (layL b zi zs zf).at_, (layL b zi zs zf).next, tn, 2, (layL b zi zs zf).fr, (layL b zi zs zf).tb⟩⟩ := by rw [hz]; unfold endB; rw [if_pos (.inl o64)]; unfold Bl.fin; rw [HTN.out]
                    have HI8 := hidE (HI7.out.set 4 (.int .i64 2) { layL b zi zs zf with en := 2 } rfl rfl rfl rfl rfl)
                    have HI9 := hidE (HI8.out.set 3 (.int .u32 (tn : Nat)) ⟨(layL b zi zs zf).ins, (layL b zi zs zf).at_, (layL b zi zs zf).next, tn, 2, (layL b zi zs zf).fr, (layL b zi zs zf).tb⟩ rfl rfl rfl rfl rfl)
                    obtain ⟨hld, hst, e1⟩ := scan_end HI9.out
                    have p1 := cell_of e1
                    have p3 := frozen_of e1
                    clear e1
                    go_wp2
                    exact scan_fin HI9.out (HI9.out.rows.low (by omega)) hz2 rfl rfl rfl
                  have f1 : (zi.op == 64) = false := by simpa using o64
                  by_cases o72 : zi.op = 72
                  · have f2 : (zi.op == 72) = true := by simpa using o72
                    have hz2 : Z = ⟨0, 0, ⟨(layL b zi zs zf).ins, (layL b zi zs zf).at_, (layL b zi zs zf).next, tn, 2, (layL b zi zs zf).fr, (layL b zi zs zf).tb⟩⟩ := by rw [hz]; unfold endB; rw [if_pos (.inr o72)]; unfold Bl.fin; rw [HTN.out]
                    have HI8 := hidE (HI7.out.set 4 (.int .i64 2) { layL b zi zs zf with en := 2 } rfl rfl rfl rfl rfl)
                    have HI9 := hidE (HI8.out.set 3 (.int .u32 (tn : Nat)) ⟨(layL b zi zs zf).ins, (layL b zi zs zf).at_, (layL b zi zs zf).next, tn, 2, (layL b zi zs zf).fr, (layL b zi zs zf).tb⟩ rfl rfl rfl rfl rfl)
                    obtain ⟨hld, hst, e1⟩ := scan_end HI9.out
                    have p1 := cell_of e1
                    have p3 := frozen_of e1
                    clear e1
                    go_wp2
                    exact scan_fin HI9.out (HI9.out.rows.low (by omega)) hz2 rfl rfl rfl
                  have f2 : (zi.op == 72) = false := by simpa using o72
                  by_cases ob : 65 ≤ zi.op ∧ zi.op ≤ 71
                  · have f3 : decide (65 ≤ zi.op) = true := by simpa using ob.1
                    have f4 : decide (zi.op ≤ 71) = true := by simpa using ob.2
                    have hz2 : Z = ⟨0, 0, ⟨(layL b zi zs zf).ins, (layL b zi zs zf).at_, (layL b zi zs zf).next, tn, 3, (layL b zi zs zf).fr, (layL b zi zs zf).tb⟩⟩ := by rw [hz]; unfold endB; rw [if_neg (by simp [o64, o72]), if_pos ob]; unfold Bl.fin; rw [HTN.out]
                    have HI8 := hidE (HI7.out.set 4 (.int .i64 3) { layL b zi zs zf with en := 3 } rfl rfl rfl rfl rfl)
                    have HI9 := hidE (HI8.out.set 3 (.int .u32 (tn : Nat)) ⟨(layL b zi zs zf).ins, (layL b zi zs zf).at_, (layL b zi zs zf).next, tn, 3, (layL b zi zs zf).fr, (layL b zi zs zf).tb⟩ rfl rfl rfl rfl rfl)
                    obtain ⟨hld, hst, e1⟩ := scan_end HI9.out
                    have p1 := cell_of e1
                    have p3 := frozen_of e1
                    clear e1
                    go_wp2
                    exact scan_fin HI9.out (HI9.out.rows.low (by omega)) hz2 rfl rfl rfl
                  have hz2 : Z = ⟨0, 0, { layL b zi zs zf with en := 4 }⟩ := by rw [hz]; unfold endB; rw [if_neg (by simp [o64, o72]), if_neg ob]
                  have HI8 := hidE (HI7.out.set 4 (.int .i64 4) { layL b zi zs zf with en := 4 } rfl rfl rfl rfl rfl)
                  obtain ⟨hld, hst, e1⟩ := scan_end HI8.out
                  have p1 := cell_of e1
                  have p3 := frozen_of e1
                  clear e1
                  by_cases o65 : 65 ≤ zi.op
                  · have f3 : decide (65 ≤ zi.op) = true := by simpa using o65
                    have f4 : decide (zi.op ≤ 71) = false := by simp; omega
                    go_wp2
                    exact scan_fin HI8.out (HI8.out.rows.low (by omega)) hz2 rfl rfl rfl
                  · have f3 : decide (65 ≤ zi.op) = false := by simpa using o65
                    go_wp2
                    exact scan_fin HI8.out (HI8.out.rows.low (by omega)) hz2 rfl rfl rfl
                · have hz : goL R M root ps n (layL b zi zs zf) (zf.pg.foldl putL pg) = Z := by have h := HG3.out; rw [if_neg hends] at h; exact h
                  have q9 : decide ((3 : Int) ≤ (kindM zi.op).1) = false := by simpa using hends
                  go_wp2
                  refine ⟨⟨vi', va', vf', vt', layL b zi zs zf, _, HI7.out, hBL.out, by simp only [layL, List.length_append, List.length_cons, List.length_nil]; omega, by omega, HR.out.2.2, ?_⟩, ?_⟩
                  · rw [← hz, show limN most - (layL b zi zs zf).ins.length = n by simp only [layL, List.length_append, List.length_cons, List.length_nil]; omega]
                  · rw [HI7.out.lenF, HI.out.lenF]
                    simp only [layL, List.length_append, List.length_cons, List.length_nil]
                    omega
        · have q1 : (zc != 0) = true := by simpa using hc0
          have q2 : ¬ b.ins.length = 0 := fun e => hA ⟨hc0, e⟩
          have hz : Z = ⟨0, 0, b⟩ := by have h := HG2.out; rw [if_pos (.inl hc0)] at h; exact h.symm
          clear hA
          have b11 : ((w2.alloc (.cells (fdA zi zs (.slice qf zf.fr.length df) (.slice qt zf.tb.length dt) (.slice qp zf.pg.length dp)) 69)).alloc (.cells #[.int .i64 zc, .int .u32 (za : Nat)] 42)).heap[w2.heap.size]? = some (.cells (fdA zi zs (.slice qf zf.fr.length df) (.slice qt zf.tb.length dt) (.slice qp zf.pg.length dp)) 69 (0, 0)) := block_old _ (block_new _ _)
          have b12 : ((w2.alloc (.cells (fdA zi zs (.slice qf zf.fr.length df) (.slice qt zf.tb.length dt) (.slice qp zf.pg.length dp)) 69)).alloc (.cells #[.int .i64 zc, .int .u32 (za : Nat)] 42)).heap[w2.heap.size + 1]? = some (.cells #[.int .i64 zc, .int .u32 (za : Nat)] 42 (0, 0)) := block_atR _ (by simp)
          have c11 := cell_of b11
          have c12 := cell_of b12
          simp only [fdA] at c11
          have f6 : (fdA zi zs (.slice qf zf.fr.length df) (.slice qt zf.tb.length dt) (.slice qp zf.pg.length dp))[6]? = some (.slice qp zf.pg.length dp) := rfl
          have HP := hidE (owns_stay HFd.out.rp k3 (fun _ _ => id))
          have HQ := hidE (And.intro b11 b12)
          have HK3 := hidE k3
          have hw2 := HI2.out.size
          clear b11 b12 HG k3
          go_wp2_with fail
          go_loopw [13, 51] (fun t13 t51 wr => ∃ k : Nat, k ≤ zf.pg.length ∧ t51 = .int .i64 k ∧ InRel ((w2.alloc (.cells (fdA zi zs (.slice qf zf.fr.length df) (.slice qt zf.tb.length dt) (.slice qp zf.pg.length dp)) 69)).alloc (.cells #[.int .i64 zc, .int .u32 (za : Nat)] 42)) (w.heap.size + 1 + 1 + 1 + 1 + 1) u10 pg zf.pg k t13 wr) (fun _ t51 _ => zf.pg.length - (intOf t51).toNat)
          case atStart => exact ⟨0, by omega, rfl, HI3.out.rp, Keeps.refl _ _, From.refl _ _, HI3.out.hn, hpr⟩
          case round =>
            obtain ⟨k, hk, rfl, hIn⟩ := hrel
            have HIn := hidE hIn
            have hl4 := length_fold (zf.pg.take k) pg
            have hl5 := List.length_take_le k zf.pg
            have hl6 := HFo.out.f.l3
            simp only at hl6
            have e3 := wrapI ((k : Int) + 1) (by omega) (by omega)
            clear hIn
            by_cases hlk : k < zf.pg.length
            · have q7 : decide ((k : Int) < (zf.pg.length : Int)) = true := by simpa using hlk
              obtain ⟨gq, cq, hq, -, -, -, -, hcq⟩ := rowU_get (owns_stay HP.out HIn.out.same (fun _ _ => id)) hlk
              have hcq := hcq k hlk
              obtain ⟨y, hy⟩ : ∃ y, zf.pg[k]'hlk = y := ⟨_, rfl⟩
              rw [hy] at hcq
              obtain rfl : qp = some ⟨gq, 0, none⟩ := by cases hq; rfl
              clear hq
              go_wp2_with fail
              refine (cloneU _ _ _ _ HIn.out.row HIn.out.nil (by omega)).mono ?_
              rintro _ w4 ⟨v1, rfl, hr1, hk1, -⟩
              go_wp2_with fail
              refine (putU w4 _ v1 _ y hr1 HIn.out.ris (by omega) hk1.size).mono ?_
              rintro _ w5 ⟨v2, rfl, hr2, hg2⟩
              have hft := fold_take zf.pg pg k hlk
              rw [hy] at hft
              have HN := hidE (InRel.next HIn.out hft hr1 hk1 hr2 hg2 (by have h1 := HIn.out.same.size; have h2 := HI3.out.size; omega))
              clear hr1 hk1 hr2 hg2 hcq
              go_wp2
              go_roundw
              case rel => exact ⟨k + 1, by omega, by go_num, HN.out⟩
              case measure => simp only [intOf]; omega
            · have q7 : decide ((k : Int) < (zf.pg.length : Int)) = false := by simpa using hlk
              obtain rfl : zf.pg.length = k := by omega
              have hrow := HIn.out.row
              have hnil := HIn.out.nil
              have hris := HIn.out.ris
              rw [List.take_length] at hrow hnil hris hl4
              have HI5 := hidE (HI3.out.same HIn.out.same)
              obtain ⟨p5, c5, hv5⟩ := owns_sl hrow
              subst hv5
              have c12 := cell_of (HIn.out.same.get HQ.out.2 id)
              have HR := hidE (And.intro hrow (And.intro hnil hris))
              clear hrow hnil hris
              obtain ⟨hld, hst, e1⟩ := scan_end HI5.out
              have p1 := cell_of e1
              have p3 := frozen_of e1
              clear e1
              go_wp2
              exact scan_fin HI5.out (HI5.out.rows.low (by omega)) hz rfl rfl rfl
    · have q0 : decide ((b.ins.length : Int) < min (max most 1) 32) = false := by unfold limN at hlt; simp only [decide_eq_false_iff_not]; omega
      have hz : Z = ⟨0, 0, b⟩ := by have h := HG.out; rw [show limN most - b.ins.length = 0 by omega] at h; exact h.symm
      obtain ⟨hld, hst, e1⟩ := scan_end HI.out
      have p1 := cell_of e1
      have p3 := frozen_of e1
      clear e1
      go_wp2
      exact scan_fin HI.out (HI.out.rows.low (by omega)) hz rfl rfl rfl
end Go.Proofs.YtjkjnomhggmplaaGreat
