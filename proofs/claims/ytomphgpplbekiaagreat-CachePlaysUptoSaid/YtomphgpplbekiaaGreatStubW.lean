/- The walk of the work's stub: a way out, with its rows. -/
import Derived.Test.YtomphgpplbekiaaGreatLay
import Derived.Test.YtomphgpplbekiaaGreatBlk
namespace Go.Proofs.YtomphgpplbekiaaGreat
open Go.RowKit

/-- The work's cells. -/
def wkA (bv rv : Value) (b : Bk) (nx : Int) : Array Value := #[bv, rv, .slice b.ia b.n b.cn, .slice b.aa b.m b.cm, .int .u32 b.next, .int .u32 b.to, .int .i64 b.fin, b.fr, b.tb, .int .i64 nx]
def WkSt (w : World) (W : Nat) (b : Bk) (bv rv : Value) (bs : List Int) (rs : List Rw) (nx : Int) : Prop := WrSt w W (wkA bv rv b nx) 191 bv rv bs rs
def StubPost (w : World) (W : Nat) (b : Bk) (bv rv : Value) (bs : List Int) (rs : List Rw) (nx to dn : Int) (w' : World) : Prop :=
  ∃ bv' rv', WkSt w' W b bv' rv' (bs ++ stubL dn nx) (rs ++ [⟨bs.length, to, dn, -1⟩, ⟨bs.length + 2, to, 0, nx⟩]) (nx + 1) ∧ Touch w w' W bv rv bv' rv'
theorem stubL_len (a b : Int) : (stubL a b).length = 5 := rfl
set_option maxHeartbeats 2000000 in
set_option maxRecDepth 100000 in
theorem stub_on (w : World) (W : Nat) (b : Bk) (bv rv : Value) (bs : List Int) (rs : List Rw) (nx to : Int) (h : WkSt w W b bv rv bs rs nx) (hn1 : 1 ≤ b.n) (hn : b.n ≤ 32) (hb : bs.length ≤ 5000) (hr : rs.length ≤ 5000) (x0 : 0 ≤ nx) (x1 : nx ≤ 65535) :
    Calls Tryz.prog 124 #[.pointer (some ⟨W, 0, none⟩), .iface 232 (.agg #[.int .u32 to])] w fun e w' => e = .returned (.tuple #[]) ∧ StubPost w W b bv rv bs rs nx to (((b.n : Nat) : Int)) w' := by
  obtain ⟨ab, cb, rfl⟩ := owns_slice h.rb
  have H := hidE h
  have HU := hidE (stub_yes (((b.n : Nat) : Int)) nx (by omega) (by omega) x0 x1)
  have hW := lt_of_block h.blk
  have hrl : ∀ k, some k = rv.ownBlock → k < w.heap.size := fun k e => (World.ownsRow.lt h.rr k e.symm).2
  have hbl : ∀ k, some k = (Value.slice ab bs.length cb).ownBlock → k < w.heap.size := fun k e => (World.ownsRow.lt h.rb k e.symm).2
  have cA := cell_of h.blk
  have n0 : w.heap.size ≠ W := by omega
  obtain ⟨ia, n, cn, aa, m, cm, next, bto, fin, fr, tb, X, Y⟩ := b
  simp only at hn hn1 HU
  clear h
  simp only [wkA] at cA
  have hta : ∀ w, (Instr.typeAssert (.iface 232 (.agg #[.int .u32 to])) 248 232 true).run Tryz.prog w = .ok (.tuple #[.agg #[.int .u32 to], .bool true]) w := fun _ => by kernel_rfl
  go_enter Tryz.func124, Tryz.ntmps124
  go_wp2_with (first | (go_at_call 138; go_in) | (go_at_call 139; go_in) | fail)
  refine (HU.out _).mono ?_
  rintro e w1 ⟨v, rfl, hv, hk⟩
  have hs : Same w w1 := Keeps.trans (by repeat (first | with_reducible exact Keeps.refl _ _ | with_reducible refine Keeps.alloc ?_ _)) hk
  have H1 := hidE (H.out.same hs)
  have HV := hidE hv
  have HS := hidE hs
  have hsz := hs.size
  have hW1 : W < w1.heap.size := by omega
  have nr : ¬ some W = rv.ownBlock := fun e => by have := (World.ownsRow.lt H.out.rr W e.symm).1; omega
  have c1 := cell_of H1.out.blk
  have d0 : w1.cell? ⟨W, 0, none⟩ = some (.slice ab bs.length cb) := by rw [c1]; rfl
  have d1 : w1.cell? ⟨W, 1, none⟩ = some rv := by rw [c1]; rfl
  have d9 : w1.cell? ⟨W, 9, none⟩ = some (.int .i64 nx) := by rw [c1]; rfl
  have g1 := frozen_of H1.out.blk 1
  have m1 : w1.heap.size ≠ W := by omega
  have wr2 : IntKind.i64.wrap ((bs.length : Int) + 2) = bs.length + 2 := by rw [wrapI] <;> omega
  clear hk hs hv cA n0 c1
  go_wp2_with fail
  refine wp_region_ev 19 21 2 rfl (fun u => u.cell? ⟨W, 0, none⟩ = some (.slice ab bs.length cb) ∧ u.cell? ⟨W, 1, none⟩ = some rv ∧ u.cell? ⟨W, 9, none⟩ = some (.int .i64 nx) ∧ u.frozen? ⟨W, 1, none⟩ = false) (by kernel_rfl) (by kernel_rfl) (fun c a d v w h => by cases d <;> exact h) ?_ ?_
  · (refine ⟨?_, ?_, ?_, ?_⟩ <;> (repeat (first | with_reducible assumption | with_reducible refine cellD ?_ | with_reducible refine cellA _ ?_ | with_reducible refine frozenD ?_ | with_reducible refine frozenA _ (by first | omega | (simp; omega)) ?_)))
  simp only [List.take_succ_cons, List.take_zero, List.drop_succ_cons, List.drop_zero]
  repeat (refine stS_cons (v := ?_) rfl (fun u hu => ?_) ?_; rotate_left; · (go_simp; first | done | with_reducible rfl); (try simp only [Act.put, List.setIfInBounds_toArray, List.set_cons_zero, List.set_cons_succ]))
  refine stS_nil ?_
  refine wpListS_cons ?_
  go_wp2
  refine Then1_mk ⟨?_, ?_⟩
  · (refine ⟨?_, ?_, ?_, ?_⟩ <;> (repeat (first | with_reducible assumption | with_reducible refine cellD ?_ | with_reducible refine cellA _ ?_ | with_reducible refine frozenD ?_ | with_reducible refine frozenA _ (by first | omega | (simp; omega)) ?_)))
  refine wpListS_cons ?_
  refine append_rows rfl (.tmp 52) (.tmp 65) rfl (W + 1) rv rs [⟨bs.length, to, ((n : Nat) : Int), -1⟩, ⟨bs.length + 2, to, 0, nx⟩] rfl (World.ownsRow.drew (World.ownsRow.alloc H1.out.rr _)) w1.heap.size 2 2 #[.int .i64 bs.length, .int .u32 to, .int .i64 (((n : Nat) : Int)), .int .i64 (-1), .int .i64 (bs.length + 2), .int .u32 to, .int .i64 0, .int .i64 nx] rfl rfl (block_new _ _) rfl (by decide) (by simp; omega) (by simp; omega) ?_
  intro gr cr w2 hown2 hgrow2
  have HKb : Hid (Same w1 (w1.alloc (.cells #[.int .i64 bs.length, .int .u32 to, .int .i64 (((n : Nat) : Int)), .int .i64 (-1), .int .i64 (bs.length + 2), .int .u32 to, .int .i64 0, .int .i64 nx] 49)).drew) := hidE ((Keeps.refl _ _).alloc _).drew
  have H2 := hidE ((H1.out.same HKb.out).rows hown2 hgrow2)
  have e0 := cellK hgrow2.keeps nr (cellK (F := fun _ => False) HKb.out id d0)
  have e1 := cellK hgrow2.keeps nr (cellK (F := fun _ => False) HKb.out id d1)
  have e9 := cellK hgrow2.keeps nr (cellK (F := fun _ => False) HKb.out id d9)
  have g2 := frozenK hgrow2.keeps nr (by simp; omega) (frozenK (F := fun _ => False) HKb.out id hW1 g1)
  have g2' : w2.frozen? ⟨W, 0, none⟩ = false := by
    have := frozen_of H2.out.1.blk 0
    simpa [World.frozen?_setCell] using this
  have hsz2 := hgrow2.keeps.size
  have HV2 : Hid (RowB (w2.setCell ⟨W, 1, none⟩ (.slice (some ⟨gr, 0, none⟩) (rs.length + 2) cr)) w.heap.size v (stubL (((n : Nat) : Int)) nx)) := hidE (by
    have hq : ∀ g, some g = v.ownBlock → w.heap.size ≤ g := fun g e => by have := (World.ownsRow.lt HV.out g e.symm).1; simp at this; omega
    have hks : Keeps (fun k => k = W) w2 (w2.setCell ⟨W, 1, none⟩ (.slice (some ⟨gr, 0, none⟩) (rs.length + 2) cr)) := Keeps.setCell (F := fun k => k = W) (Keeps.refl _ _) (p := ⟨W, 1, none⟩) (fun _ => rfl) _
    refine owns_apart (owns_apart (owns_apart (owns_mono HV.out (by simp; omega)) HKb.out (fun _ _ => id)) hgrow2.keeps (fun g hg hg2 => ?_)) hks (fun g hg e => ?_)
    · have := hq g hg; have := hrl g hg2; omega
    · have := hq g hg; omega)
  have hB2 : W + 1 ≤ (w2.setCell ⟨W, 1, none⟩ (.slice (some ⟨gr, 0, none⟩) (rs.length + 2) cr)).heap.size := by
    have := lt_of_block H2.out.1.blk
    omega
  have hL2 : bs.length + (stubL (((n : Nat) : Int)) nx).length ≤ 20000 := by rw [stubL_len]; omega
  clear hown2 hgrow2 d0 d1 d9 g1 m1
  refine wpList_nil (Then1_mk ⟨⟨e0, e1, e9, g2⟩, ?_⟩)
  refine wpListS_zero ?_
  go_wp2_with (at_builtin; go_loud (refine append_bytes rfl (.tmp 77) (.tmp 78) rfl (W + 1) _ bs rfl _ v (stubL (((n : Nat) : Int)) nx) rfl H2.out.1.rb HV2.out (by simp [stubL]) hL2 hB2 ?h3))
  case h3 =>
    intro gb c3 w3 hown3 hgrow3
    have H3 := hidE (H2.out.1.bytes hown3 hgrow3)
    have nb : ¬ some W = (Value.slice ab bs.length cb).ownBlock := fun e => by have := (World.ownsRow.lt H2.out.1.rb W e.symm).1; omega
    have z0 := cellK hgrow3.keeps nb (show (w2.setCell ⟨W, 1, none⟩ (.slice (some ⟨gr, 0, none⟩) (rs.length + 2) cr)).cell? ⟨W, 0, none⟩ = some (.slice ab bs.length cb) by rw [cell_of H2.out.1.blk]; rfl)
    have z9 := cellK hgrow3.keeps nb (show (w2.setCell ⟨W, 1, none⟩ (.slice (some ⟨gr, 0, none⟩) (rs.length + 2) cr)).cell? ⟨W, 9, none⟩ = some (.int .i64 nx) by rw [cell_of H2.out.1.blk]; rfl)
    have y0 := frozenK hgrow3.keeps nb (by omega) (frozen_of H2.out.1.blk 0)
    have y9 := frozenK hgrow3.keeps nb (by omega) (frozen_of H2.out.1.blk 9)
    have H4 := hidE (H3.out.1.other 9 (by omega) (.int .i64 (nx + 1)))
    clear hown3 hgrow3 e0 e1 e9 g2 g2'
    go_wp2
    go_end0
    exact ⟨rfl, _, _, H4.out.1, (((Touch.of_same HS.out _ _ _).trans ((Touch.of_same HKb.out _ _ _).trans H2.out.2)).trans H3.out.2).trans H4.out.2⟩
set_option maxHeartbeats 2000000 in
set_option maxRecDepth 100000 in
theorem stub_ask (w : World) (W : Nat) (b : Bk) (bv rv : Value) (bs : List Int) (rs : List Rw) (nx to : Int) (h : WkSt w W b bv rv bs rs nx) (hn1 : 1 ≤ b.n) (hn : b.n ≤ 32) (hb : bs.length ≤ 5000) (hr : rs.length ≤ 5000) (x0 : 0 ≤ nx) (x1 : nx ≤ 65535) :
    Calls Tryz.prog 124 #[.pointer (some ⟨W, 0, none⟩), .iface 234 (.agg #[.int .u32 to])] w fun e w' => e = .returned (.tuple #[]) ∧ StubPost w W b bv rv bs rs nx to (((b.n : Nat) : Int) - 1) w' := by
  obtain ⟨ab, cb, rfl⟩ := owns_slice h.rb
  have H := hidE h
  have HU := hidE (stub_yes (((b.n : Nat) : Int) - 1) nx (by omega) (by omega) x0 x1)
  have hW := lt_of_block h.blk
  have hrl : ∀ k, some k = rv.ownBlock → k < w.heap.size := fun k e => (World.ownsRow.lt h.rr k e.symm).2
  have hbl : ∀ k, some k = (Value.slice ab bs.length cb).ownBlock → k < w.heap.size := fun k e => (World.ownsRow.lt h.rb k e.symm).2
  have cA := cell_of h.blk
  have n0 : w.heap.size ≠ W := by omega
  obtain ⟨ia, n, cn, aa, m, cm, next, bto, fin, fr, tb, X, Y⟩ := b
  simp only at hn hn1 HU
  clear h
  simp only [wkA] at cA
  have hta : ∀ w, (Instr.typeAssert (.iface 234 (.agg #[.int .u32 to])) 248 232 true).run Tryz.prog w = .ok (.tuple #[.agg #[.int .u32 0], .bool false]) w := fun _ => by kernel_rfl
  have htb : ∀ w, (Instr.typeAssert (.iface 234 (.agg #[.int .u32 to])) 248 234 true).run Tryz.prog w = .ok (.tuple #[.agg #[.int .u32 to], .bool true]) w := fun _ => by kernel_rfl
  go_enter Tryz.func124, Tryz.ntmps124
  go_wp2_with (first | (go_at_call 138; go_in) | (go_at_call 139; go_in) | fail)
  refine (HU.out _).mono ?_
  rintro e w1 ⟨v, rfl, hv, hk⟩
  have hs : Same w w1 := Keeps.trans (by repeat (first | with_reducible exact Keeps.refl _ _ | with_reducible refine Keeps.alloc ?_ _)) hk
  have H1 := hidE (H.out.same hs)
  have HV := hidE hv
  have HS := hidE hs
  have hsz := hs.size
  have hW1 : W < w1.heap.size := by omega
  have nr : ¬ some W = rv.ownBlock := fun e => by have := (World.ownsRow.lt H.out.rr W e.symm).1; omega
  have c1 := cell_of H1.out.blk
  have d0 : w1.cell? ⟨W, 0, none⟩ = some (.slice ab bs.length cb) := by rw [c1]; rfl
  have d1 : w1.cell? ⟨W, 1, none⟩ = some rv := by rw [c1]; rfl
  have d9 : w1.cell? ⟨W, 9, none⟩ = some (.int .i64 nx) := by rw [c1]; rfl
  have g1 := frozen_of H1.out.blk 1
  have m1 : w1.heap.size ≠ W := by omega
  have wr2 : IntKind.i64.wrap ((bs.length : Int) + 2) = bs.length + 2 := by rw [wrapI] <;> omega
  clear hk hs hv cA n0 c1
  go_wp2_with fail
  refine wp_region_ev 19 21 2 rfl (fun u => u.cell? ⟨W, 0, none⟩ = some (.slice ab bs.length cb) ∧ u.cell? ⟨W, 1, none⟩ = some rv ∧ u.cell? ⟨W, 9, none⟩ = some (.int .i64 nx) ∧ u.frozen? ⟨W, 1, none⟩ = false) (by kernel_rfl) (by kernel_rfl) (fun c a d v w h => by cases d <;> exact h) ?_ ?_
  · (refine ⟨?_, ?_, ?_, ?_⟩ <;> (repeat (first | with_reducible assumption | with_reducible refine cellD ?_ | with_reducible refine cellA _ ?_ | with_reducible refine frozenD ?_ | with_reducible refine frozenA _ (by first | omega | (simp; omega)) ?_)))
  simp only [List.take_succ_cons, List.take_zero, List.drop_succ_cons, List.drop_zero]
  repeat (refine stS_cons (v := ?_) rfl (fun u hu => ?_) ?_; rotate_left; · (go_simp; first | done | with_reducible rfl); (try simp only [Act.put, List.setIfInBounds_toArray, List.set_cons_zero, List.set_cons_succ]))
  refine stS_nil ?_
  refine wpListS_cons ?_
  go_wp2
  refine Then1_mk ⟨?_, ?_⟩
  · (refine ⟨?_, ?_, ?_, ?_⟩ <;> (repeat (first | with_reducible assumption | with_reducible refine cellD ?_ | with_reducible refine cellA _ ?_ | with_reducible refine frozenD ?_ | with_reducible refine frozenA _ (by first | omega | (simp; omega)) ?_)))
  refine wpListS_cons ?_
  refine append_rows rfl (.tmp 52) (.tmp 65) rfl (W + 1) rv rs [⟨bs.length, to, ((n : Nat) : Int) - 1, -1⟩, ⟨bs.length + 2, to, 0, nx⟩] rfl (World.ownsRow.drew (World.ownsRow.alloc H1.out.rr _)) w1.heap.size 2 2 #[.int .i64 bs.length, .int .u32 to, .int .i64 (((n : Nat) : Int) - 1), .int .i64 (-1), .int .i64 (bs.length + 2), .int .u32 to, .int .i64 0, .int .i64 nx] rfl rfl (block_new _ _) rfl (by decide) (by simp; omega) (by simp; omega) ?_
  intro gr cr w2 hown2 hgrow2
  have HKb : Hid (Same w1 (w1.alloc (.cells #[.int .i64 bs.length, .int .u32 to, .int .i64 (((n : Nat) : Int) - 1), .int .i64 (-1), .int .i64 (bs.length + 2), .int .u32 to, .int .i64 0, .int .i64 nx] 49)).drew) := hidE ((Keeps.refl _ _).alloc _).drew
  have H2 := hidE ((H1.out.same HKb.out).rows hown2 hgrow2)
  have e0 := cellK hgrow2.keeps nr (cellK (F := fun _ => False) HKb.out id d0)
  have e1 := cellK hgrow2.keeps nr (cellK (F := fun _ => False) HKb.out id d1)
  have e9 := cellK hgrow2.keeps nr (cellK (F := fun _ => False) HKb.out id d9)
  have g2 := frozenK hgrow2.keeps nr (by simp; omega) (frozenK (F := fun _ => False) HKb.out id hW1 g1)
  have g2' : w2.frozen? ⟨W, 0, none⟩ = false := by
    have := frozen_of H2.out.1.blk 0
    simpa [World.frozen?_setCell] using this
  have hsz2 := hgrow2.keeps.size
  have HV2 : Hid (RowB (w2.setCell ⟨W, 1, none⟩ (.slice (some ⟨gr, 0, none⟩) (rs.length + 2) cr)) w.heap.size v (stubL (((n : Nat) : Int) - 1) nx)) := hidE (by
    have hq : ∀ g, some g = v.ownBlock → w.heap.size ≤ g := fun g e => by have := (World.ownsRow.lt HV.out g e.symm).1; simp at this; omega
    have hks : Keeps (fun k => k = W) w2 (w2.setCell ⟨W, 1, none⟩ (.slice (some ⟨gr, 0, none⟩) (rs.length + 2) cr)) := Keeps.setCell (F := fun k => k = W) (Keeps.refl _ _) (p := ⟨W, 1, none⟩) (fun _ => rfl) _
    refine owns_apart (owns_apart (owns_apart (owns_mono HV.out (by simp; omega)) HKb.out (fun _ _ => id)) hgrow2.keeps (fun g hg hg2 => ?_)) hks (fun g hg e => ?_)
    · have := hq g hg; have := hrl g hg2; omega
    · have := hq g hg; omega)
  have hB2 : W + 1 ≤ (w2.setCell ⟨W, 1, none⟩ (.slice (some ⟨gr, 0, none⟩) (rs.length + 2) cr)).heap.size := by
    have := lt_of_block H2.out.1.blk
    omega
  have hL2 : bs.length + (stubL (((n : Nat) : Int) - 1) nx).length ≤ 20000 := by rw [stubL_len]; omega
  clear hown2 hgrow2 d0 d1 d9 g1 m1
  refine wpList_nil (Then1_mk ⟨⟨e0, e1, e9, g2⟩, ?_⟩)
  refine wpListS_zero ?_
  go_wp2_with (at_builtin; go_loud (refine append_bytes rfl (.tmp 77) (.tmp 78) rfl (W + 1) _ bs rfl _ v (stubL (((n : Nat) : Int) - 1) nx) rfl H2.out.1.rb HV2.out (by simp [stubL]) hL2 hB2 ?h3))
  case h3 =>
    intro gb c3 w3 hown3 hgrow3
    have H3 := hidE (H2.out.1.bytes hown3 hgrow3)
    have nb : ¬ some W = (Value.slice ab bs.length cb).ownBlock := fun e => by have := (World.ownsRow.lt H2.out.1.rb W e.symm).1; omega
    have z0 := cellK hgrow3.keeps nb (show (w2.setCell ⟨W, 1, none⟩ (.slice (some ⟨gr, 0, none⟩) (rs.length + 2) cr)).cell? ⟨W, 0, none⟩ = some (.slice ab bs.length cb) by rw [cell_of H2.out.1.blk]; rfl)
    have z9 := cellK hgrow3.keeps nb (show (w2.setCell ⟨W, 1, none⟩ (.slice (some ⟨gr, 0, none⟩) (rs.length + 2) cr)).cell? ⟨W, 9, none⟩ = some (.int .i64 nx) by rw [cell_of H2.out.1.blk]; rfl)
    have y0 := frozenK hgrow3.keeps nb (by omega) (frozen_of H2.out.1.blk 0)
    have y9 := frozenK hgrow3.keeps nb (by omega) (frozen_of H2.out.1.blk 9)
    have H4 := hidE (H3.out.1.other 9 (by omega) (.int .i64 (nx + 1)))
    clear hown3 hgrow3 e0 e1 e9 g2 g2'
    go_wp2
    go_end0
    exact ⟨rfl, _, _, H4.out.1, (((Touch.of_same HS.out _ _ _).trans ((Touch.of_same HKb.out _ _ _).trans H2.out.2)).trans H3.out.2).trans H4.out.2⟩
end Go.Proofs.YtomphgpplbekiaaGreat
