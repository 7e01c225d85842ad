/- The walk of the writer's lay: one instruction more, with its row. -/
import Derived.Test.YtomphgpplbekiaaGreatCRow
import Derived.Test.YtomphgpplbekiaaGreatEv
import Derived.Test.YtomphgpplbekiaaGreatStubB
namespace Go.Proofs.YtomphgpplbekiaaGreat
open Go.RowKit
attribute [local go_sem ↓] Go.wp_at_zero Go.wp_at_succ

def LayPost20 (w : World) (W : Nat) (A : Array Value) (T : TypeId) (bv rv : Value) (bs : List Int) (rs : List Rw) (i : In) (pc dn : Int) (w' : World) : Prop :=
  ∃ bv' rv', WrSt w' W ((A.setIfInBounds 1 rv').setIfInBounds 0 bv') T bv' rv' (bs ++ encL i false) (rs ++ [⟨bs.length, pc, dn, -1⟩]) ∧ Touch w w' W bv rv bv' rv'
set_option maxHeartbeats 400000 in
set_option maxRecDepth 100000 in
theorem lay_any (w : World) (W : Nat) (A : Array Value) (T : TypeId) (bv rv : Value) (bs : List Int) (rs : List Rw) (h : WrSt w W A T bv rv bs rs) (i : In) (hi : i.Ok) (hm : mayB i false = true) (pc dn : Int)
    (hb : bs.length ≤ 5000) (hr : rs.length ≤ 5000) :
    Calls Tryz.prog 101 #[.pointer (some ⟨W, 0, none⟩), .agg (inA i), .int .u32 pc, .int .i64 dn] w fun e w' => e = .returned (.tuple #[]) ∧ LayPost20 w W A T bv rv bs rs i pc dn w' := by
  obtain ⟨ab, cb, rfl⟩ := owns_slice h.rb
  have H := hidE h
  have HE := hidE (encode_yes i false hi hm)
  have hW := lt_of_block h.blk
  have c0 : w.cell? ⟨W, 0, none⟩ = some (.slice ab bs.length cb) := by rw [cell_of h.blk]; exact h.a0
  have c1 : w.cell? ⟨W, 1, none⟩ = some rv := by rw [cell_of h.blk]; exact h.a1
  have f0 := frozen_of h.blk 0
  have f1 := frozen_of h.blk 1
  have n0 := World.new_ne w ⟨W, 0, none⟩ c0
  have n1 := World.new_ne w ⟨W, 1, none⟩ c1
  have nr : ¬ some W = rv.ownBlock := fun e => by have := (World.ownsRow.lt h.rr W e.symm).1; omega
  clear h hm
  obtain ⟨op, a, b, imm⟩ := i
  simp only [inA]
  go_enter Tryz.func101, Tryz.ntmps101
  go_wp2_with fail
  have n2 : w.heap.size + 1 ≠ W := by omega
  refine wp_region_ev 15 17 2 rfl (fun u => u.cell? ⟨W, 0, none⟩ = some (.slice ab bs.length cb) ∧ u.cell? ⟨W, 1, none⟩ = some rv ∧ u.frozen? ⟨W, 1, none⟩ = false) (by kernel_rfl) (by kernel_rfl) (fun c a d v w h => by cases d <;> exact h) ?_ ?_
  · (refine ⟨?_, ?_, ?_⟩ <;> (repeat (first | with_reducible assumption | with_reducible refine cellD ?_ | with_reducible refine cellA _ ?_ | with_reducible refine frozenD ?_ | with_reducible refine frozenA _ (by first | omega | (simp; omega)) ?_)))
  simp only [List.take_succ_cons, List.take_zero, List.drop_succ_cons, List.drop_zero]
  repeat (refine stS_cons (v := ?_) rfl (fun u hu => ?_) ?_; rotate_left; · (go_simp; first | done | with_reducible rfl); (try simp only [Act.put, List.setIfInBounds_toArray, List.set_cons_zero, List.set_cons_succ]))
  refine stS_nil ?_
  refine wpListS_cons ?_
  go_wp2
  refine Then1_mk ⟨?_, ?_⟩
  · (refine ⟨?_, ?_, ?_⟩ <;> (repeat (first | with_reducible assumption | with_reducible refine cellD ?_ | with_reducible refine cellA _ ?_ | with_reducible refine frozenD ?_ | with_reducible refine frozenA _ (by first | omega | (simp; omega)) ?_)))
  refine wpListS_cons ?_
  have hsz0 : w.heap.size ≤ ((w.alloc (.cells #[.int .u8 op, .int .u8 a, .int .u8 b, .int .i32 imm] 122)).alloc (.cells #[.int .i64 bs.length, .int .u32 pc, .int .i64 dn, .int .i64 (-1)] 49)).drew.heap.size := by simp; omega
  have HK0 : Hid (Same w ((w.alloc (.cells #[.int .u8 op, .int .u8 a, .int .u8 b, .int .i32 imm] 122)).alloc (.cells #[.int .i64 bs.length, .int .u32 pc, .int .i64 dn, .int .i64 (-1)] 49)).drew) := hidE (((Keeps.refl _ _).alloc _).alloc _).drew
  have HB0 : Hid (((w.alloc (.cells #[.int .u8 op, .int .u8 a, .int .u8 b, .int .i32 imm] 122)).alloc (.cells #[.int .i64 bs.length, .int .u32 pc, .int .i64 dn, .int .i64 (-1)] 49)).drew.heap[w.heap.size]? = some (.cells #[.int .u8 op, .int .u8 a, .int .u8 b, .int .i32 imm] 122 (0, 0))) := hidE (block_old _ (block_new _ _))
  refine append_rows rfl (.tmp 15) (.tmp 25) rfl (W + 1) rv rs [⟨bs.length, pc, dn, -1⟩] rfl ((World.ownsRow.alloc (World.ownsRow.alloc H.out.rr _) _).drew) (w.heap.size + 1) 1 1 #[.int .i64 bs.length, .int .u32 pc, .int .i64 dn, .int .i64 (-1)] rfl rfl (block_at _ (by simp)) rfl (by decide) (by simp; omega) (by simp; omega) ?_
  intro gr cr w1 hown1 hgrow
  generalize (w.alloc (.cells #[.int .u8 op, .int .u8 a, .int .u8 b, .int .i32 imm] 122)).alloc (.cells #[.int .i64 bs.length, .int .u32 pc, .int .i64 dn, .int .i64 (-1)] 49) = wa at *
  have hrl : ∀ k, some k = rv.ownBlock → k < w.heap.size := fun k e => (World.ownsRow.lt H.out.rr k e.symm).2
  have hbl : ∀ k, some k = (Value.slice ab bs.length cb).ownBlock → k < w.heap.size := fun k e => (World.ownsRow.lt H.out.rb k e.symm).2
  have H1 := hidE ((H.out.same HK0.out).rows hown1 hgrow)
  have HB1 := hidE (H1.out.2.keeps.get HB0.out (fun e => by
    rcases e with e | e | e
    · omega
    · have := hbl _ e; omega
    · have := hrl _ e; omega))
  have eb := cell_of (hgrow.keeps.get HB0.out (fun e => by have := hrl _ e; omega))
  have ne1 : w.heap.size ≠ W := by omega
  have ne2 : W ≠ w.heap.size := by omega
  have e0 := cellK hgrow.keeps nr (cellK (F := fun _ => False) HK0.out id c0)
  have e1 := cellK hgrow.keeps nr (cellK (F := fun _ => False) HK0.out id c1)
  have g1 := frozenK hgrow.keeps nr (by omega) (frozenK (F := fun _ => False) HK0.out id hW f1)
  clear hown1 hgrow c0 c1 f0 f1 n0 n1 n2
  refine wpList_nil (Then1_mk ⟨⟨e0, e1, g1⟩, ?_⟩)
  refine wpListS_zero ?_
  go_wp2_with fail
  refine (HE.out _).mono ?_
  rintro e w2 ⟨v, rfl, hv, hk2⟩
  have H2 := hidE (H1.out.1.same hk2)
  have HK2 := hidE hk2
  have HV := hidE hv
  have hsz2 := hk2.size
  have hW2 := lt_of_block H2.out.blk
  have c0 : w2.cell? ⟨W, 0, none⟩ = some (.slice ab bs.length cb) := by rw [cell_of H2.out.blk]; exact H2.out.a0
  have f0 := frozen_of H2.out.blk 0
  clear hk2 hv e0 e1 g1 eb
  go_wp2_with (at_builtin; go_loud (refine append_bytes rfl (.tmp 40) (.tmp 41) rfl (W + 1) _ bs rfl _ v (encL ⟨op, a, b, imm⟩ false) rfl H2.out.rb HV.out (enc_ne _ _) ?h1 ?h2 ?h3))
  case h1 => have := enc_len ⟨op, a, b, imm⟩ false; omega
  case h2 => omega
  case h3 =>
    intro g2 c2 w3 hown3 hgrow3
    have H3 := hidE (H2.out.bytes hown3 hgrow3)
    have nb : ¬ some W = (Value.slice ab bs.length cb).ownBlock := fun e => by have := (World.ownsRow.lt H2.out.rb W e.symm).1; omega
    have e0 := cellK hgrow3.keeps nb c0
    have g0 := frozenK hgrow3.keeps nb hW2 f0
    clear hown3 hgrow3
    go_wp2
    go_end0
    exact ⟨rfl, _, _, H3.out.1, ((Touch.of_same HK0.out _ _ _).trans H1.out.2).trans ((Touch.of_same HK2.out _ _ _).trans H3.out.2)⟩
end Go.Proofs.YtomphgpplbekiaaGreat
