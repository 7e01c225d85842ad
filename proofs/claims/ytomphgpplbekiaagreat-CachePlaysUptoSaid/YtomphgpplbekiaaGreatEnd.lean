/- A block's code, in plain words; the walk of the work's end. -/
import Derived.Test.YtomphgpplbekiaaGreatStubW
import Derived.StillTailTactics
namespace Go.Proofs.YtomphgpplbekiaaGreat
open Go.RowKit

abbrev Cd := List Int × List Rw
def withL (c : Cd) (i : In) (pc dn : Int) : Cd := (c.1 ++ encL i false, c.2 ++ [⟨c.1.length, pc, dn, -1⟩])
def outL (c : Cd) (dn to nx : Int) : Cd := (c.1 ++ stubL dn nx, c.2 ++ [⟨c.1.length, to, dn, -1⟩, ⟨c.1.length + 2, to, 0, nx⟩])
/-- A word as a signed number. -/
def s32 (x : Int) : Int := if 2147483648 ≤ x then x - 4294967296 else x
def lastX (b : Bk) : In := b.X (b.n - 1)
def lastY (b : Bk) : Int := b.Y (b.n - 1)
def ldiI (b : Bk) : In := ⟨32, 6, 0, s32 b.next⟩
def brI (b : Bk) : In := ⟨(lastX b).op, 0, 0, 5⟩
def endC (b : Bk) (c : Cd) (nx : Int) : Cd :=
  if b.fin = 1 then outL c b.n b.next nx
  else if b.fin = 2 then outL (if (lastX b).op = 72 then withL c (ldiI b) (lastY b) (b.n - 1 : Int) else c) b.n b.to nx
  else if b.fin = 3 then outL (outL (withL c (brI b) (lastY b) (b.n - 1 : Int)) b.n b.next nx) b.n b.to (nx + 1)
  else outL c (b.n - 1 : Int) (lastY b) nx
def bodyC (b : Bk) : Nat → Cd
  | 0 => ([], [])
  | k + 1 => withL (bodyC b k) (b.X k) (b.Y k) k
def trC (b : Bk) (first : Int) : Cd := endC b (bodyC b (if b.fin = 1 then b.n else b.n - 1)) first
theorem encL_6 (i : In) (h : Bool) : (encL i h).length ≤ 6 := by
  have hi : ∀ k, (immL i.imm k).length = k := fun k => by induction k with
    | zero => rfl
    | succ k ih => simp [immL, ih]
  have hh : (headL i (formL i.op h)).length ≤ 2 := by unfold headL; split <;> simp
  obtain ⟨hm, -⟩ := fm_facts i.op h
  unfold encL
  rw [List.length_append, hi]
  omega
theorem bodyC_len (b : Bk) : ∀ k, (bodyC b k).1.length ≤ 6 * k ∧ (bodyC b k).2.length = k
  | 0 => by simp [bodyC]
  | k + 1 => by
    have ih := bodyC_len b k
    have h6 := encL_6 (b.X k) false
    simp only [bodyC, withL, List.length_append, List.length_cons, List.length_nil]
    omega
theorem may_ldi (x : Int) : mayB ⟨32, 6, 0, x⟩ false = true := by
  simp [mayB, show formL 32 false = ⟨6, 1, 0, 4, 1⟩ from rfl, fitsB]
theorem may_br (op : Int) (h0 : 65 ≤ op) (h1 : op ≤ 71) : mayB ⟨op, 0, 0, 5⟩ false = true := by
  have : clsOf op false = 6 := by
    rcases cls_ways op false with h | h | h | h | h | h | h | h | h | h | h | h | h | h | h | h <;> omega
  simp [mayB, formL, this, fmOf, fitsB]
theorem s32_bd (x : Int) (h0 : 0 ≤ x) (h1 : x < 4294967296) : -2147483648 ≤ s32 x ∧ s32 x ≤ 2147483647 := by unfold s32; split <;> omega
def EndPost (w : World) (W : Nat) (b : Bk) (bv rv : Value) (c : Cd) (nx : Int) (w' : World) : Prop :=
  ∃ bv' rv' nx', WkSt w' W b bv' rv' (endC b c nx).1 (endC b c nx).2 nx' ∧ Touch w w' W bv rv bv' rv'
theorem wrap_u32i32 (x : Int) (h0 : 0 ≤ x) (h1 : x < 4294967296) : IntKind.i32.wrap x = s32 x := by
  have e : x % 2 ^ 32 = x := Int.emod_eq_of_lt h0 (by simpa using h1)
  unfold s32
  simp only [IntKind.wrap, IntKind.bits, IntKind.signed, e, Bool.true_and, decide_eq_true_eq]
  by_cases hx : 2147483648 ≤ x
  · rw [if_pos (by simpa using hx), if_pos hx]; rfl
  · rw [if_neg (by simpa using hx), if_neg hx]
set_option maxHeartbeats 2000000 in
set_option maxRecDepth 100000 in
theorem end_1 (w : World) (W : Nat) (b : Bk) (bv rv : Value) (c : Cd) (nx : Int) (h : WkSt w W b bv rv c.1 c.2 nx) (hb : b.Ok w) (hn1 : 1 ≤ b.n) (hn : b.n ≤ 32) (hm : b.m = b.n) (hl : c.1.length ≤ 2000) (hr : c.2.length ≤ 2000) (x0 : 0 ≤ nx) (x1 : nx ≤ 65534)
    (hf : b.fin = 1) :
    Calls Tryz.prog 102 #[.pointer (some ⟨W, 0, none⟩)] w fun e w' => e = .returned (.tuple #[]) ∧ EndPost w W b bv rv c nx w' := by
  obtain ⟨cbs, crs⟩ := c
  simp only at h hl hr
  unfold EndPost
  have hEC : endC b (cbs, crs) nx = outL (cbs, crs) b.n b.next nx := by simp [endC, hf]
  generalize endC b (cbs, crs) nx = EC at *
  have HC := hidE hEC
  clear hEC
  have H := hidE h
  have hW := lt_of_block h.blk
  have hrl : ∀ k, some k = rv.ownBlock → k < w.heap.size := fun k e => (World.ownsRow.lt h.rr k e.symm).2
  have hbl : ∀ k, some k = bv.ownBlock → k < w.heap.size := fun k e => (World.ownsRow.lt h.rb k e.symm).2
  rcases hb.ins with hI | ⟨S, o, ha, hS, hI⟩
  · omega
  rcases hb.at_ with hY | ⟨S2, o2, ha2, hS2, hY⟩
  · omega
  obtain ⟨hok, i0, i1, i2, i3⟩ := hI (b.n - 1) (by omega)
  obtain ⟨y0, y1, yc⟩ := hY (b.n - 1) (by omega)
  have HY0 := hidE (show 0 ≤ lastY b ∧ lastY b < 4294967296 from ⟨y0, y1⟩)
  have HOK := hidE (show (lastX b).Ok from hok)
  have hnx0 := hb.n0
  have hnx1 := hb.n1
  have cA := cell_of h.blk
  have hcn := hb.hcn
  have hcm := hb.hcm
  have hn' := hb.hn
  have hm' := hb.hm
  clear hI hY hb
  obtain ⟨ia, n, cn, aa, m, cm, next, bto, fin, fr, tb, X, Y⟩ := b
  simp only [lastX, lastY] at *
  subst ha ha2 hm
  simp only [wkA] at cA
  subst hf
  clear h
  obtain ⟨k, rfl⟩ : ∃ k, m = k + 1 := ⟨m - 1, by omega⟩
  simp only [Nat.add_sub_cancel] at i0 i1 i2 i3 yc y0 y1
  have c2 : w.cell? ⟨W, 2, none⟩ = some (.slice (some ⟨S, o, none⟩) (k + 1) cn) := by rw [cA]; rfl
  have c3 : w.cell? ⟨W, 3, none⟩ = some (.slice (some ⟨S2, o2, none⟩) (k + 1) cm) := by rw [cA]; rfl
  have c4 : w.cell? ⟨W, 4, none⟩ = some (.int .u32 next) := by rw [cA]; rfl
  have c5 : w.cell? ⟨W, 5, none⟩ = some (.int .u32 bto) := by rw [cA]; rfl
  have c6 : w.cell? ⟨W, 6, none⟩ = some (.int .i64 1) := by rw [cA]; rfl
  have q9 : IntKind.i64.wrap (k : Int) = k := by rw [wrapI] <;> omega
  have q8 : IntKind.i64.wrap ((k : Int) + 1 - 1) = k := by rw [wrapI] <;> omega
  have qb : (0 : Int) ≤ k := by omega
  have qb2 : (k : Int) < (k : Int) + 1 := by omega
  have n0 : w.heap.size ≠ W := by omega
  have nS : w.heap.size ≠ S := by omega
  have nS2 : w.heap.size ≠ S2 := by omega
  clear cA
  go_enter Tryz.func102, Tryz.ntmps102
  go_wp2_with fail
  refine wp_region_ev 18 20 2 rfl (fun u => u.cell? ⟨W, 2, none⟩ = some (.slice (some ⟨S, o, none⟩) (k + 1) cn) ∧ u.cell? ⟨W, 3, none⟩ = some (.slice (some ⟨S2, o2, none⟩) (k + 1) cm) ∧ u.cell? ⟨S, o + k * 4, none⟩ = some (.int .u8 (X k).op) ∧ u.cell? ⟨S, o + k * 4 + 1, none⟩ = some (.int .u8 (X k).a) ∧ u.cell? ⟨S, o + k * 4 + 2, none⟩ = some (.int .u8 (X k).b) ∧ u.cell? ⟨S, o + k * 4 + 3, none⟩ = some (.int .i32 (X k).imm) ∧ u.cell? ⟨S2, o2 + k, none⟩ = some (.int .u32 (Y k))) (by kernel_rfl) (by kernel_rfl) (fun c a d v w h => by cases d <;> exact h) ?_ ?_
  · (refine ⟨?_, ?_, ?_, ?_, ?_, ?_, ?_⟩ <;> (repeat (first | with_reducible assumption | with_reducible refine cellD ?_ | with_reducible refine cellA _ ?_ | with_reducible refine frozenD ?_ | with_reducible refine frozenA _ (by first | omega | (simp; omega)) ?_)))
  simp only [List.take_succ_cons, List.take_zero, List.drop_succ_cons, List.drop_zero]
  repeat (refine stS_cons (v := ?_) rfl (fun u hu => ?_) ?_; rotate_left; · (go_simp; first | done | with_reducible rfl); (try simp only [Act.put, List.setIfInBounds_toArray, List.set_cons_zero, List.set_cons_succ]))
  refine stS_nil ?_
  refine wpListS_cons ?_
  go_wp2
  refine Then1_mk ⟨?_, ?_⟩
  · (refine ⟨?_, ?_, ?_, ?_, ?_, ?_, ?_⟩ <;> (repeat (first | with_reducible assumption | with_reducible refine cellD ?_ | with_reducible refine cellA _ ?_ | with_reducible refine frozenD ?_ | with_reducible refine frozenA _ (by first | omega | (simp; omega)) ?_)))
  refine wpListS_cons ?_
  go_wp2
  refine Then1_mk ⟨?_, ?_⟩
  · (refine ⟨?_, ?_, ?_, ?_, ?_, ?_, ?_⟩ <;> (repeat (first | with_reducible assumption | with_reducible refine cellD ?_ | with_reducible refine cellA _ ?_ | with_reducible refine frozenD ?_ | with_reducible refine frozenA _ (by first | omega | (simp; omega)) ?_)))
  refine wpListS_zero ?_
  have HK1 : Hid (Same w (w.alloc (.cells #[.int .u8 (X k).op, .int .u8 (X k).a, .int .u8 (X k).b, .int .i32 (X k).imm] 122)).drew) := hidE ((Keeps.refl _ _).alloc _).drew
  have HB1 : Hid ((w.alloc (.cells #[.int .u8 (X k).op, .int .u8 (X k).a, .int .u8 (X k).b, .int .i32 (X k).imm] 122)).drew.heap[w.heap.size]? = some (.cells #[.int .u8 (X k).op, .int .u8 (X k).a, .int .u8 (X k).b, .int .i32 (X k).imm] 122 (0, 0))) := hidE (block_new _ _)
  have H1 := hidE (H.out.same HK1.out)
  have d4 := cellK (F := fun _ => False) HK1.out id c4
  have d5 := cellK (F := fun _ => False) HK1.out id c5
  have d6 := cellK (F := fun _ => False) HK1.out id c6
  have cB := cell_of HB1.out
  have hszk := HK1.out.size
  have q6 : IntKind.i32.wrap next = s32 next := wrap_u32i32 next hnx0 hnx1
  generalize (w.alloc (.cells #[.int .u8 (X k).op, .int .u8 (X k).a, .int .u8 (X k).b, .int .i32 (X k).imm] 122)).drew = w1 at *
  clear c2 c3 c4 c5 c6 i0 i1 i2 i3 yc
  go_wp2_with fail
  refine (stub_on _ W _ bv rv cbs crs nx next H1.out (by simp) hn (by omega) (by omega) x0 (by omega)).mono ?_
  rintro e w2 ⟨rfl, bv', rv', hw, ht⟩
  go_wp2
  go_end0
  exact ⟨rfl, bv', rv', _, by rw [HC.out]; exact hw, (Touch.of_same HK1.out _ _ _).trans ht⟩
set_option maxHeartbeats 2000000 in
set_option maxRecDepth 100000 in
theorem end_2 (w : World) (W : Nat) (b : Bk) (bv rv : Value) (c : Cd) (nx : Int) (h : WkSt w W b bv rv c.1 c.2 nx) (hb : b.Ok w) (hn1 : 1 ≤ b.n) (hn : b.n ≤ 32) (hm : b.m = b.n) (hl : c.1.length ≤ 2000) (hr : c.2.length ≤ 2000) (x0 : 0 ≤ nx) (x1 : nx ≤ 65534)
    (hf : b.fin = 2) (hop : (lastX b).op ≠ 72) :
    Calls Tryz.prog 102 #[.pointer (some ⟨W, 0, none⟩)] w fun e w' => e = .returned (.tuple #[]) ∧ EndPost w W b bv rv c nx w' := by
  obtain ⟨cbs, crs⟩ := c
  simp only at h hl hr
  unfold EndPost
  have hEC : endC b (cbs, crs) nx = outL (cbs, crs) b.n b.to nx := by simp [endC, hf, hop]
  generalize endC b (cbs, crs) nx = EC at *
  have HC := hidE hEC
  clear hEC
  have H := hidE h
  have hW := lt_of_block h.blk
  have hrl : ∀ k, some k = rv.ownBlock → k < w.heap.size := fun k e => (World.ownsRow.lt h.rr k e.symm).2
  have hbl : ∀ k, some k = bv.ownBlock → k < w.heap.size := fun k e => (World.ownsRow.lt h.rb k e.symm).2
  rcases hb.ins with hI | ⟨S, o, ha, hS, hI⟩
  · omega
  rcases hb.at_ with hY | ⟨S2, o2, ha2, hS2, hY⟩
  · omega
  obtain ⟨hok, i0, i1, i2, i3⟩ := hI (b.n - 1) (by omega)
  obtain ⟨y0, y1, yc⟩ := hY (b.n - 1) (by omega)
  have HY0 := hidE (show 0 ≤ lastY b ∧ lastY b < 4294967296 from ⟨y0, y1⟩)
  have HOK := hidE (show (lastX b).Ok from hok)
  have hnx0 := hb.n0
  have hnx1 := hb.n1
  have cA := cell_of h.blk
  have hcn := hb.hcn
  have hcm := hb.hcm
  have hn' := hb.hn
  have hm' := hb.hm
  clear hI hY hb
  obtain ⟨ia, n, cn, aa, m, cm, next, bto, fin, fr, tb, X, Y⟩ := b
  simp only [lastX, lastY] at *
  subst ha ha2 hm
  simp only [wkA] at cA
  subst hf
  have hop1 : ((X (m - 1)).op == 72) = false := by simpa using hop
  clear h
  obtain ⟨k, rfl⟩ : ∃ k, m = k + 1 := ⟨m - 1, by omega⟩
  simp only [Nat.add_sub_cancel] at hop hop1 i0 i1 i2 i3 yc y0 y1
  have c2 : w.cell? ⟨W, 2, none⟩ = some (.slice (some ⟨S, o, none⟩) (k + 1) cn) := by rw [cA]; rfl
  have c3 : w.cell? ⟨W, 3, none⟩ = some (.slice (some ⟨S2, o2, none⟩) (k + 1) cm) := by rw [cA]; rfl
  have c4 : w.cell? ⟨W, 4, none⟩ = some (.int .u32 next) := by rw [cA]; rfl
  have c5 : w.cell? ⟨W, 5, none⟩ = some (.int .u32 bto) := by rw [cA]; rfl
  have c6 : w.cell? ⟨W, 6, none⟩ = some (.int .i64 2) := by rw [cA]; rfl
  have q9 : IntKind.i64.wrap (k : Int) = k := by rw [wrapI] <;> omega
  have q8 : IntKind.i64.wrap ((k : Int) + 1 - 1) = k := by rw [wrapI] <;> omega
  have qb : (0 : Int) ≤ k := by omega
  have qb2 : (k : Int) < (k : Int) + 1 := by omega
  have n0 : w.heap.size ≠ W := by omega
  have nS : w.heap.size ≠ S := by omega
  have nS2 : w.heap.size ≠ S2 := by omega
  clear cA
  go_enter Tryz.func102, Tryz.ntmps102
  go_wp2_with fail
  refine wp_region_ev 18 20 2 rfl (fun u => u.cell? ⟨W, 2, none⟩ = some (.slice (some ⟨S, o, none⟩) (k + 1) cn) ∧ u.cell? ⟨W, 3, none⟩ = some (.slice (some ⟨S2, o2, none⟩) (k + 1) cm) ∧ u.cell? ⟨S, o + k * 4, none⟩ = some (.int .u8 (X k).op) ∧ u.cell? ⟨S, o + k * 4 + 1, none⟩ = some (.int .u8 (X k).a) ∧ u.cell? ⟨S, o + k * 4 + 2, none⟩ = some (.int .u8 (X k).b) ∧ u.cell? ⟨S, o + k * 4 + 3, none⟩ = some (.int .i32 (X k).imm) ∧ u.cell? ⟨S2, o2 + k, none⟩ = some (.int .u32 (Y k))) (by kernel_rfl) (by kernel_rfl) (fun c a d v w h => by cases d <;> exact h) ?_ ?_
  · (refine ⟨?_, ?_, ?_, ?_, ?_, ?_, ?_⟩ <;> (repeat (first | with_reducible assumption | with_reducible refine cellD ?_ | with_reducible refine cellA _ ?_ | with_reducible refine frozenD ?_ | with_reducible refine frozenA _ (by first | omega | (simp; omega)) ?_)))
  simp only [List.take_succ_cons, List.take_zero, List.drop_succ_cons, List.drop_zero]
  repeat (refine stS_cons (v := ?_) rfl (fun u hu => ?_) ?_; rotate_left; · (go_simp; first | done | with_reducible rfl); (try simp only [Act.put, List.setIfInBounds_toArray, List.set_cons_zero, List.set_cons_succ]))
  refine stS_nil ?_
  refine wpListS_cons ?_
  go_wp2
  refine Then1_mk ⟨?_, ?_⟩
  · (refine ⟨?_, ?_, ?_, ?_, ?_, ?_, ?_⟩ <;> (repeat (first | with_reducible assumption | with_reducible refine cellD ?_ | with_reducible refine cellA _ ?_ | with_reducible refine frozenD ?_ | with_reducible refine frozenA _ (by first | omega | (simp; omega)) ?_)))
  refine wpListS_cons ?_
  go_wp2
  refine Then1_mk ⟨?_, ?_⟩
  · (refine ⟨?_, ?_, ?_, ?_, ?_, ?_, ?_⟩ <;> (repeat (first | with_reducible assumption | with_reducible refine cellD ?_ | with_reducible refine cellA _ ?_ | with_reducible refine frozenD ?_ | with_reducible refine frozenA _ (by first | omega | (simp; omega)) ?_)))
  refine wpListS_zero ?_
  have HK1 : Hid (Same w (w.alloc (.cells #[.int .u8 (X k).op, .int .u8 (X k).a, .int .u8 (X k).b, .int .i32 (X k).imm] 122)).drew) := hidE ((Keeps.refl _ _).alloc _).drew
  have HB1 : Hid ((w.alloc (.cells #[.int .u8 (X k).op, .int .u8 (X k).a, .int .u8 (X k).b, .int .i32 (X k).imm] 122)).drew.heap[w.heap.size]? = some (.cells #[.int .u8 (X k).op, .int .u8 (X k).a, .int .u8 (X k).b, .int .i32 (X k).imm] 122 (0, 0))) := hidE (block_new _ _)
  have H1 := hidE (H.out.same HK1.out)
  have d4 := cellK (F := fun _ => False) HK1.out id c4
  have d5 := cellK (F := fun _ => False) HK1.out id c5
  have d6 := cellK (F := fun _ => False) HK1.out id c6
  have cB := cell_of HB1.out
  have hszk := HK1.out.size
  have q6 : IntKind.i32.wrap next = s32 next := wrap_u32i32 next hnx0 hnx1
  generalize (w.alloc (.cells #[.int .u8 (X k).op, .int .u8 (X k).a, .int .u8 (X k).b, .int .i32 (X k).imm] 122)).drew = w1 at *
  clear c2 c3 c4 c5 c6 i0 i1 i2 i3 yc
  go_wp2_with fail
  refine (stub_on _ W _ bv rv cbs crs nx bto H1.out (by simp) hn (by omega) (by omega) x0 (by omega)).mono ?_
  rintro e w2 ⟨rfl, bv', rv', hw, ht⟩
  go_wp2
  go_end0
  exact ⟨rfl, bv', rv', _, by rw [HC.out]; exact hw, (Touch.of_same HK1.out _ _ _).trans ht⟩
set_option maxHeartbeats 2000000 in
set_option maxRecDepth 100000 in
theorem end_3 (w : World) (W : Nat) (b : Bk) (bv rv : Value) (c : Cd) (nx : Int) (h : WkSt w W b bv rv c.1 c.2 nx) (hb : b.Ok w) (hn1 : 1 ≤ b.n) (hn : b.n ≤ 32) (hm : b.m = b.n) (hl : c.1.length ≤ 2000) (hr : c.2.length ≤ 2000) (x0 : 0 ≤ nx) (x1 : nx ≤ 65534)
    (hf : b.fin = 2) (hop : (lastX b).op = 72) :
    Calls Tryz.prog 102 #[.pointer (some ⟨W, 0, none⟩)] w fun e w' => e = .returned (.tuple #[]) ∧ EndPost w W b bv rv c nx w' := by
  obtain ⟨cbs, crs⟩ := c
  simp only at h hl hr
  unfold EndPost
  have hEC : endC b (cbs, crs) nx = outL (withL (cbs, crs) (ldiI b) (lastY b) (b.n - 1 : Int)) b.n b.to nx := by simp [endC, hf, hop]
  generalize endC b (cbs, crs) nx = EC at *
  have HC := hidE hEC
  clear hEC
  have H := hidE h
  have hW := lt_of_block h.blk
  have hrl : ∀ k, some k = rv.ownBlock → k < w.heap.size := fun k e => (World.ownsRow.lt h.rr k e.symm).2
  have hbl : ∀ k, some k = bv.ownBlock → k < w.heap.size := fun k e => (World.ownsRow.lt h.rb k e.symm).2
  rcases hb.ins with hI | ⟨S, o, ha, hS, hI⟩
  · omega
  rcases hb.at_ with hY | ⟨S2, o2, ha2, hS2, hY⟩
  · omega
  obtain ⟨hok, i0, i1, i2, i3⟩ := hI (b.n - 1) (by omega)
  obtain ⟨y0, y1, yc⟩ := hY (b.n - 1) (by omega)
  have HY0 := hidE (show 0 ≤ lastY b ∧ lastY b < 4294967296 from ⟨y0, y1⟩)
  have HOK := hidE (show (lastX b).Ok from hok)
  have hnx0 := hb.n0
  have hnx1 := hb.n1
  have cA := cell_of h.blk
  have hcn := hb.hcn
  have hcm := hb.hcm
  have hn' := hb.hn
  have hm' := hb.hm
  clear hI hY hb
  obtain ⟨ia, n, cn, aa, m, cm, next, bto, fin, fr, tb, X, Y⟩ := b
  simp only [lastX, lastY] at *
  subst ha ha2 hm
  simp only [wkA] at cA
  subst hf
  clear h
  obtain ⟨k, rfl⟩ : ∃ k, m = k + 1 := ⟨m - 1, by omega⟩
  simp only [Nat.add_sub_cancel] at hop i0 i1 i2 i3 yc y0 y1
  rw [hop] at i0
  have HOP := hidE hop
  have c2 : w.cell? ⟨W, 2, none⟩ = some (.slice (some ⟨S, o, none⟩) (k + 1) cn) := by rw [cA]; rfl
  have c3 : w.cell? ⟨W, 3, none⟩ = some (.slice (some ⟨S2, o2, none⟩) (k + 1) cm) := by rw [cA]; rfl
  have c4 : w.cell? ⟨W, 4, none⟩ = some (.int .u32 next) := by rw [cA]; rfl
  have c5 : w.cell? ⟨W, 5, none⟩ = some (.int .u32 bto) := by rw [cA]; rfl
  have c6 : w.cell? ⟨W, 6, none⟩ = some (.int .i64 2) := by rw [cA]; rfl
  clear hop
  have q9 : IntKind.i64.wrap (k : Int) = k := by rw [wrapI] <;> omega
  have q8 : IntKind.i64.wrap ((k : Int) + 1 - 1) = k := by rw [wrapI] <;> omega
  have qb : (0 : Int) ≤ k := by omega
  have qb2 : (k : Int) < (k : Int) + 1 := by omega
  have n0 : w.heap.size ≠ W := by omega
  have nS : w.heap.size ≠ S := by omega
  have nS2 : w.heap.size ≠ S2 := by omega
  clear cA
  go_enter Tryz.func102, Tryz.ntmps102
  go_wp2_with fail
  refine wp_region_ev 18 20 2 rfl (fun u => u.cell? ⟨W, 2, none⟩ = some (.slice (some ⟨S, o, none⟩) (k + 1) cn) ∧ u.cell? ⟨W, 3, none⟩ = some (.slice (some ⟨S2, o2, none⟩) (k + 1) cm) ∧ u.cell? ⟨S, o + k * 4, none⟩ = some (.int .u8 72) ∧ u.cell? ⟨S, o + k * 4 + 1, none⟩ = some (.int .u8 (X k).a) ∧ u.cell? ⟨S, o + k * 4 + 2, none⟩ = some (.int .u8 (X k).b) ∧ u.cell? ⟨S, o + k * 4 + 3, none⟩ = some (.int .i32 (X k).imm) ∧ u.cell? ⟨S2, o2 + k, none⟩ = some (.int .u32 (Y k))) (by kernel_rfl) (by kernel_rfl) (fun c a d v w h => by cases d <;> exact h) ?_ ?_
  · (refine ⟨?_, ?_, ?_, ?_, ?_, ?_, ?_⟩ <;> (repeat (first | with_reducible assumption | with_reducible refine cellD ?_ | with_reducible refine cellA _ ?_ | with_reducible refine frozenD ?_ | with_reducible refine frozenA _ (by first | omega | (simp; omega)) ?_)))
  simp only [List.take_succ_cons, List.take_zero, List.drop_succ_cons, List.drop_zero]
  repeat (refine stS_cons (v := ?_) rfl (fun u hu => ?_) ?_; rotate_left; · (go_simp; first | done | with_reducible rfl); (try simp only [Act.put, List.setIfInBounds_toArray, List.set_cons_zero, List.set_cons_succ]))
  refine stS_nil ?_
  refine wpListS_cons ?_
  go_wp2
  refine Then1_mk ⟨?_, ?_⟩
  · (refine ⟨?_, ?_, ?_, ?_, ?_, ?_, ?_⟩ <;> (repeat (first | with_reducible assumption | with_reducible refine cellD ?_ | with_reducible refine cellA _ ?_ | with_reducible refine frozenD ?_ | with_reducible refine frozenA _ (by first | omega | (simp; omega)) ?_)))
  refine wpListS_cons ?_
  go_wp2
  refine Then1_mk ⟨?_, ?_⟩
  · (refine ⟨?_, ?_, ?_, ?_, ?_, ?_, ?_⟩ <;> (repeat (first | with_reducible assumption | with_reducible refine cellD ?_ | with_reducible refine cellA _ ?_ | with_reducible refine frozenD ?_ | with_reducible refine frozenA _ (by first | omega | (simp; omega)) ?_)))
  refine wpListS_zero ?_
  have HK1 : Hid (Same w (w.alloc (.cells #[.int .u8 72, .int .u8 (X k).a, .int .u8 (X k).b, .int .i32 (X k).imm] 122)).drew) := hidE ((Keeps.refl _ _).alloc _).drew
  have HB1 : Hid ((w.alloc (.cells #[.int .u8 72, .int .u8 (X k).a, .int .u8 (X k).b, .int .i32 (X k).imm] 122)).drew.heap[w.heap.size]? = some (.cells #[.int .u8 72, .int .u8 (X k).a, .int .u8 (X k).b, .int .i32 (X k).imm] 122 (0, 0))) := hidE (block_new _ _)
  have H1 := hidE (H.out.same HK1.out)
  have d4 := cellK (F := fun _ => False) HK1.out id c4
  have d5 := cellK (F := fun _ => False) HK1.out id c5
  have d6 := cellK (F := fun _ => False) HK1.out id c6
  have cB := cell_of HB1.out
  have hszk := HK1.out.size
  have q6 : IntKind.i32.wrap next = s32 next := wrap_u32i32 next hnx0 hnx1
  generalize (w.alloc (.cells #[.int .u8 72, .int .u8 (X k).a, .int .u8 (X k).b, .int .i32 (X k).imm] 122)).drew = w1 at *
  clear c2 c3 c4 c5 c6 i0 i1 i2 i3 yc
  go_wp2_with fail
  go_still_tail 13, (by kernel_rfl)
  change wpList _ _ _ _ _ w1.drew
  go_wp2_with fail
  refine (lay_any _ W _ _ bv rv cbs crs (H1.out.same ((Keeps.refl _ _).drew)) (⟨32, 6, 0, s32 next⟩ : In) ⟨by simp, by simp, by simp, by simp, by simp, by simp, (s32_bd next hnx0 hnx1).1, (s32_bd next hnx0 hnx1).2⟩ (may_ldi _) (Y k) k (by omega) (by omega)).mono ?_
  rintro e w2 ⟨rfl, bv2, rv2, hw2, ht2⟩
  have hlen := encL_6 (⟨32, 6, 0, s32 next⟩ : In) false
  have H2 : Hid (WkSt w2 W (⟨some ⟨S, o, none⟩, k + 1, cn, some ⟨S2, o2, none⟩, k + 1, cm, next, bto, 2, fr, tb, X, Y⟩ : Bk) bv2 rv2 (cbs ++ encL (⟨32, 6, 0, s32 next⟩ : In) false) (crs ++ [⟨cbs.length, Y k, k, -1⟩]) nx) := hidE hw2
  have HT2 := hidE ht2
  have e4 : w2.cell? ⟨W, 4, none⟩ = some (.int .u32 next) := by rw [cell_of H2.out.blk]; rfl
  have e5 : w2.cell? ⟨W, 5, none⟩ = some (.int .u32 bto) := by rw [cell_of H2.out.blk]; rfl
  clear hw2 ht2
  go_wp2_with fail
  refine (stub_on _ W _ bv2 rv2 _ _ nx bto H2.out (by simp) hn (by simp; omega) (by simp; omega) x0 (by omega)).mono ?_
  rintro e w3 ⟨rfl, bv', rv', hw, ht⟩
  go_wp2
  go_end0
  refine ⟨rfl, bv', rv', nx + 1, ?_, ((Touch.of_same HK1.out _ _ _).trans (Touch.of_same (Keeps.refl _ _).drew _ _ _)).trans (HT2.out.trans ht)⟩
  rw [HC.out]
  simp only [outL, withL, ldiI, Nat.add_sub_cancel, show (((k + 1 : Nat) : Int) - 1) = k from by omega]
  exact hw
set_option maxHeartbeats 2000000 in
set_option maxRecDepth 100000 in
theorem end_4 (w : World) (W : Nat) (b : Bk) (bv rv : Value) (c : Cd) (nx : Int) (h : WkSt w W b bv rv c.1 c.2 nx) (hb : b.Ok w) (hn1 : 1 ≤ b.n) (hn : b.n ≤ 32) (hm : b.m = b.n) (hl : c.1.length ≤ 2000) (hr : c.2.length ≤ 2000) (x0 : 0 ≤ nx) (x1 : nx ≤ 65534)
    (hf : b.fin = 3) (ho0 : 65 ≤ (lastX b).op) (ho1 : (lastX b).op ≤ 71) :
    Calls Tryz.prog 102 #[.pointer (some ⟨W, 0, none⟩)] w fun e w' => e = .returned (.tuple #[]) ∧ EndPost w W b bv rv c nx w' := by
  obtain ⟨cbs, crs⟩ := c
  simp only at h hl hr
  unfold EndPost
  have hEC : endC b (cbs, crs) nx = outL (outL (withL (cbs, crs) (brI b) (lastY b) (b.n - 1 : Int)) b.n b.next nx) b.n b.to (nx + 1) := by simp [endC, hf]
  generalize endC b (cbs, crs) nx = EC at *
  have HC := hidE hEC
  clear hEC
  have H := hidE h
  have hW := lt_of_block h.blk
  have hrl : ∀ k, some k = rv.ownBlock → k < w.heap.size := fun k e => (World.ownsRow.lt h.rr k e.symm).2
  have hbl : ∀ k, some k = bv.ownBlock → k < w.heap.size := fun k e => (World.ownsRow.lt h.rb k e.symm).2
  rcases hb.ins with hI | ⟨S, o, ha, hS, hI⟩
  · omega
  rcases hb.at_ with hY | ⟨S2, o2, ha2, hS2, hY⟩
  · omega
  obtain ⟨hok, i0, i1, i2, i3⟩ := hI (b.n - 1) (by omega)
  obtain ⟨y0, y1, yc⟩ := hY (b.n - 1) (by omega)
  have HY0 := hidE (show 0 ≤ lastY b ∧ lastY b < 4294967296 from ⟨y0, y1⟩)
  have HOK := hidE (show (lastX b).Ok from hok)
  have hnx0 := hb.n0
  have hnx1 := hb.n1
  have cA := cell_of h.blk
  have hcn := hb.hcn
  have hcm := hb.hcm
  have hn' := hb.hn
  have hm' := hb.hm
  clear hI hY hb
  obtain ⟨ia, n, cn, aa, m, cm, next, bto, fin, fr, tb, X, Y⟩ := b
  simp only [lastX, lastY] at *
  subst ha ha2 hm
  simp only [wkA] at cA
  subst hf
  clear h
  obtain ⟨k, rfl⟩ : ∃ k, m = k + 1 := ⟨m - 1, by omega⟩
  simp only [Nat.add_sub_cancel] at ho0 ho1 i0 i1 i2 i3 yc y0 y1
  have c2 : w.cell? ⟨W, 2, none⟩ = some (.slice (some ⟨S, o, none⟩) (k + 1) cn) := by rw [cA]; rfl
  have c3 : w.cell? ⟨W, 3, none⟩ = some (.slice (some ⟨S2, o2, none⟩) (k + 1) cm) := by rw [cA]; rfl
  have c4 : w.cell? ⟨W, 4, none⟩ = some (.int .u32 next) := by rw [cA]; rfl
  have c5 : w.cell? ⟨W, 5, none⟩ = some (.int .u32 bto) := by rw [cA]; rfl
  have c6 : w.cell? ⟨W, 6, none⟩ = some (.int .i64 3) := by rw [cA]; rfl
  have q9 : IntKind.i64.wrap (k : Int) = k := by rw [wrapI] <;> omega
  have q8 : IntKind.i64.wrap ((k : Int) + 1 - 1) = k := by rw [wrapI] <;> omega
  have qb : (0 : Int) ≤ k := by omega
  have qb2 : (k : Int) < (k : Int) + 1 := by omega
  have n0 : w.heap.size ≠ W := by omega
  have nS : w.heap.size ≠ S := by omega
  have nS2 : w.heap.size ≠ S2 := by omega
  clear cA
  go_enter Tryz.func102, Tryz.ntmps102
  go_wp2_with fail
  refine wp_region_ev 18 20 2 rfl (fun u => u.cell? ⟨W, 2, none⟩ = some (.slice (some ⟨S, o, none⟩) (k + 1) cn) ∧ u.cell? ⟨W, 3, none⟩ = some (.slice (some ⟨S2, o2, none⟩) (k + 1) cm) ∧ u.cell? ⟨S, o + k * 4, none⟩ = some (.int .u8 (X k).op) ∧ u.cell? ⟨S, o + k * 4 + 1, none⟩ = some (.int .u8 (X k).a) ∧ u.cell? ⟨S, o + k * 4 + 2, none⟩ = some (.int .u8 (X k).b) ∧ u.cell? ⟨S, o + k * 4 + 3, none⟩ = some (.int .i32 (X k).imm) ∧ u.cell? ⟨S2, o2 + k, none⟩ = some (.int .u32 (Y k))) (by kernel_rfl) (by kernel_rfl) (fun c a d v w h => by cases d <;> exact h) ?_ ?_
  · (refine ⟨?_, ?_, ?_, ?_, ?_, ?_, ?_⟩ <;> (repeat (first | with_reducible assumption | with_reducible refine cellD ?_ | with_reducible refine cellA _ ?_ | with_reducible refine frozenD ?_ | with_reducible refine frozenA _ (by first | omega | (simp; omega)) ?_)))
  simp only [List.take_succ_cons, List.take_zero, List.drop_succ_cons, List.drop_zero]
  repeat (refine stS_cons (v := ?_) rfl (fun u hu => ?_) ?_; rotate_left; · (go_simp; first | done | with_reducible rfl); (try simp only [Act.put, List.setIfInBounds_toArray, List.set_cons_zero, List.set_cons_succ]))
  refine stS_nil ?_
  refine wpListS_cons ?_
  go_wp2
  refine Then1_mk ⟨?_, ?_⟩
  · (refine ⟨?_, ?_, ?_, ?_, ?_, ?_, ?_⟩ <;> (repeat (first | with_reducible assumption | with_reducible refine cellD ?_ | with_reducible refine cellA _ ?_ | with_reducible refine frozenD ?_ | with_reducible refine frozenA _ (by first | omega | (simp; omega)) ?_)))
  refine wpListS_cons ?_
  go_wp2
  refine Then1_mk ⟨?_, ?_⟩
  · (refine ⟨?_, ?_, ?_, ?_, ?_, ?_, ?_⟩ <;> (repeat (first | with_reducible assumption | with_reducible refine cellD ?_ | with_reducible refine cellA _ ?_ | with_reducible refine frozenD ?_ | with_reducible refine frozenA _ (by first | omega | (simp; omega)) ?_)))
  refine wpListS_zero ?_
  have HK1 : Hid (Same w (w.alloc (.cells #[.int .u8 (X k).op, .int .u8 (X k).a, .int .u8 (X k).b, .int .i32 (X k).imm] 122)).drew) := hidE ((Keeps.refl _ _).alloc _).drew
  have HB1 : Hid ((w.alloc (.cells #[.int .u8 (X k).op, .int .u8 (X k).a, .int .u8 (X k).b, .int .i32 (X k).imm] 122)).drew.heap[w.heap.size]? = some (.cells #[.int .u8 (X k).op, .int .u8 (X k).a, .int .u8 (X k).b, .int .i32 (X k).imm] 122 (0, 0))) := hidE (block_new _ _)
  have H1 := hidE (H.out.same HK1.out)
  have d4 := cellK (F := fun _ => False) HK1.out id c4
  have d5 := cellK (F := fun _ => False) HK1.out id c5
  have d6 := cellK (F := fun _ => False) HK1.out id c6
  have cB := cell_of HB1.out
  have hszk := HK1.out.size
  have q6 : IntKind.i32.wrap next = s32 next := wrap_u32i32 next hnx0 hnx1
  generalize (w.alloc (.cells #[.int .u8 (X k).op, .int .u8 (X k).a, .int .u8 (X k).b, .int .i32 (X k).imm] 122)).drew = w1 at *
  clear c2 c3 c4 c5 c6 i0 i1 i2 i3 yc
  go_wp2_with fail
  go_still_tail 9, (by kernel_rfl)
  change wpList _ _ _ _ _ w1.drew
  go_wp2_with fail
  refine (lay_any _ W _ _ bv rv cbs crs (H1.out.same ((Keeps.refl _ _).drew)) (⟨(X k).op, 0, 0, 5⟩ : In) ⟨by simp; omega, by simp; omega, by simp, by simp, by simp, by simp, by simp, by simp⟩ (may_br _ ho0 ho1) (Y k) k (by omega) (by omega)).mono ?_
  rintro e w2 ⟨rfl, bv2, rv2, hw2, ht2⟩
  have hlen := encL_6 (⟨(X k).op, 0, 0, 5⟩ : In) false
  have H2 : Hid (WkSt w2 W (⟨some ⟨S, o, none⟩, k + 1, cn, some ⟨S2, o2, none⟩, k + 1, cm, next, bto, 3, fr, tb, X, Y⟩ : Bk) bv2 rv2 (cbs ++ encL (⟨(X k).op, 0, 0, 5⟩ : In) false) (crs ++ [⟨cbs.length, Y k, k, -1⟩]) nx) := hidE hw2
  have HT2 := hidE ht2
  have e4 : w2.cell? ⟨W, 4, none⟩ = some (.int .u32 next) := by rw [cell_of H2.out.blk]; rfl
  have e5 : w2.cell? ⟨W, 5, none⟩ = some (.int .u32 bto) := by rw [cell_of H2.out.blk]; rfl
  clear hw2 ht2
  go_wp2_with fail
  refine (stub_on _ W _ bv2 rv2 _ _ nx next H2.out (by simp) hn (by simp; omega) (by simp; omega) x0 (by omega)).mono ?_
  rintro e w3 ⟨rfl, bv3, rv3, hw3, ht3⟩
  have H3 := hidE hw3
  have HT3 := hidE ht3
  have f5 : w3.cell? ⟨W, 5, none⟩ = some (.int .u32 bto) := by rw [cell_of H3.out.blk]; rfl
  clear hw3 ht3 e4 e5
  go_wp2_with fail
  refine (stub_on _ W _ bv3 rv3 _ _ (nx + 1) bto H3.out (by simp) hn (by simp [stubL_len]; omega) (by simp; omega) (by omega) (by omega)).mono ?_
  rintro e w4 ⟨rfl, bv', rv', hw, ht⟩
  go_wp2
  go_end0
  refine ⟨rfl, bv', rv', nx + 1 + 1, ?_, ((Touch.of_same HK1.out _ _ _).trans (Touch.of_same (Keeps.refl _ _).drew _ _ _)).trans (HT2.out.trans (HT3.out.trans ht))⟩
  rw [HC.out]
  simp only [outL, withL, brI, lastX, Nat.add_sub_cancel, show (((k + 1 : Nat) : Int) - 1) = k from by omega]
  exact hw
set_option maxHeartbeats 2000000 in
set_option maxRecDepth 100000 in
theorem end_5 (w : World) (W : Nat) (b : Bk) (bv rv : Value) (c : Cd) (nx : Int) (h : WkSt w W b bv rv c.1 c.2 nx) (hb : b.Ok w) (hn1 : 1 ≤ b.n) (hn : b.n ≤ 32) (hm : b.m = b.n) (hl : c.1.length ≤ 2000) (hr : c.2.length ≤ 2000) (x0 : 0 ≤ nx) (x1 : nx ≤ 65534)
    (hf : b.fin = 4) :
    Calls Tryz.prog 102 #[.pointer (some ⟨W, 0, none⟩)] w fun e w' => e = .returned (.tuple #[]) ∧ EndPost w W b bv rv c nx w' := by
  obtain ⟨cbs, crs⟩ := c
  simp only at h hl hr
  unfold EndPost
  have hEC : endC b (cbs, crs) nx = outL (cbs, crs) (b.n - 1 : Int) (lastY b) nx := by simp [endC, hf]
  generalize endC b (cbs, crs) nx = EC at *
  have HC := hidE hEC
  clear hEC
  have H := hidE h
  have hW := lt_of_block h.blk
  have hrl : ∀ k, some k = rv.ownBlock → k < w.heap.size := fun k e => (World.ownsRow.lt h.rr k e.symm).2
  have hbl : ∀ k, some k = bv.ownBlock → k < w.heap.size := fun k e => (World.ownsRow.lt h.rb k e.symm).2
  rcases hb.ins with hI | ⟨S, o, ha, hS, hI⟩
  · omega
  rcases hb.at_ with hY | ⟨S2, o2, ha2, hS2, hY⟩
  · omega
  obtain ⟨hok, i0, i1, i2, i3⟩ := hI (b.n - 1) (by omega)
  obtain ⟨y0, y1, yc⟩ := hY (b.n - 1) (by omega)
  have HY0 := hidE (show 0 ≤ lastY b ∧ lastY b < 4294967296 from ⟨y0, y1⟩)
  have HOK := hidE (show (lastX b).Ok from hok)
  have hnx0 := hb.n0
  have hnx1 := hb.n1
  have cA := cell_of h.blk
  have hcn := hb.hcn
  have hcm := hb.hcm
  have hn' := hb.hn
  have hm' := hb.hm
  clear hI hY hb
  obtain ⟨ia, n, cn, aa, m, cm, next, bto, fin, fr, tb, X, Y⟩ := b
  simp only [lastX, lastY] at *
  subst ha ha2 hm
  simp only [wkA] at cA
  subst hf
  clear h
  obtain ⟨k, rfl⟩ : ∃ k, m = k + 1 := ⟨m - 1, by omega⟩
  simp only [Nat.add_sub_cancel] at i0 i1 i2 i3 yc y0 y1
  have c2 : w.cell? ⟨W, 2, none⟩ = some (.slice (some ⟨S, o, none⟩) (k + 1) cn) := by rw [cA]; rfl
  have c3 : w.cell? ⟨W, 3, none⟩ = some (.slice (some ⟨S2, o2, none⟩) (k + 1) cm) := by rw [cA]; rfl
  have c4 : w.cell? ⟨W, 4, none⟩ = some (.int .u32 next) := by rw [cA]; rfl
  have c5 : w.cell? ⟨W, 5, none⟩ = some (.int .u32 bto) := by rw [cA]; rfl
  have c6 : w.cell? ⟨W, 6, none⟩ = some (.int .i64 4) := by rw [cA]; rfl
  have q9 : IntKind.i64.wrap (k : Int) = k := by rw [wrapI] <;> omega
  have q8 : IntKind.i64.wrap ((k : Int) + 1 - 1) = k := by rw [wrapI] <;> omega
  have qb : (0 : Int) ≤ k := by omega
  have qb2 : (k : Int) < (k : Int) + 1 := by omega
  have n0 : w.heap.size ≠ W := by omega
  have nS : w.heap.size ≠ S := by omega
  have nS2 : w.heap.size ≠ S2 := by omega
  clear cA
  go_enter Tryz.func102, Tryz.ntmps102
  go_wp2_with fail
  refine wp_region_ev 18 20 2 rfl (fun u => u.cell? ⟨W, 2, none⟩ = some (.slice (some ⟨S, o, none⟩) (k + 1) cn) ∧ u.cell? ⟨W, 3, none⟩ = some (.slice (some ⟨S2, o2, none⟩) (k + 1) cm) ∧ u.cell? ⟨S, o + k * 4, none⟩ = some (.int .u8 (X k).op) ∧ u.cell? ⟨S, o + k * 4 + 1, none⟩ = some (.int .u8 (X k).a) ∧ u.cell? ⟨S, o + k * 4 + 2, none⟩ = some (.int .u8 (X k).b) ∧ u.cell? ⟨S, o + k * 4 + 3, none⟩ = some (.int .i32 (X k).imm) ∧ u.cell? ⟨S2, o2 + k, none⟩ = some (.int .u32 (Y k))) (by kernel_rfl) (by kernel_rfl) (fun c a d v w h => by cases d <;> exact h) ?_ ?_
  · (refine ⟨?_, ?_, ?_, ?_, ?_, ?_, ?_⟩ <;> (repeat (first | with_reducible assumption | with_reducible refine cellD ?_ | with_reducible refine cellA _ ?_ | with_reducible refine frozenD ?_ | with_reducible refine frozenA _ (by first | omega | (simp; omega)) ?_)))
  simp only [List.take_succ_cons, List.take_zero, List.drop_succ_cons, List.drop_zero]
  repeat (refine stS_cons (v := ?_) rfl (fun u hu => ?_) ?_; rotate_left; · (go_simp; first | done | with_reducible rfl); (try simp only [Act.put, List.setIfInBounds_toArray, List.set_cons_zero, List.set_cons_succ]))
  refine stS_nil ?_
  refine wpListS_cons ?_
  go_wp2
  refine Then1_mk ⟨?_, ?_⟩
  · (refine ⟨?_, ?_, ?_, ?_, ?_, ?_, ?_⟩ <;> (repeat (first | with_reducible assumption | with_reducible refine cellD ?_ | with_reducible refine cellA _ ?_ | with_reducible refine frozenD ?_ | with_reducible refine frozenA _ (by first | omega | (simp; omega)) ?_)))
  refine wpListS_cons ?_
  go_wp2
  refine Then1_mk ⟨?_, ?_⟩
  · (refine ⟨?_, ?_, ?_, ?_, ?_, ?_, ?_⟩ <;> (repeat (first | with_reducible assumption | with_reducible refine cellD ?_ | with_reducible refine cellA _ ?_ | with_reducible refine frozenD ?_ | with_reducible refine frozenA _ (by first | omega | (simp; omega)) ?_)))
  refine wpListS_zero ?_
  have HK1 : Hid (Same w (w.alloc (.cells #[.int .u8 (X k).op, .int .u8 (X k).a, .int .u8 (X k).b, .int .i32 (X k).imm] 122)).drew) := hidE ((Keeps.refl _ _).alloc _).drew
  have HB1 : Hid ((w.alloc (.cells #[.int .u8 (X k).op, .int .u8 (X k).a, .int .u8 (X k).b, .int .i32 (X k).imm] 122)).drew.heap[w.heap.size]? = some (.cells #[.int .u8 (X k).op, .int .u8 (X k).a, .int .u8 (X k).b, .int .i32 (X k).imm] 122 (0, 0))) := hidE (block_new _ _)
  have H1 := hidE (H.out.same HK1.out)
  have d4 := cellK (F := fun _ => False) HK1.out id c4
  have d5 := cellK (F := fun _ => False) HK1.out id c5
  have d6 := cellK (F := fun _ => False) HK1.out id c6
  have cB := cell_of HB1.out
  have hszk := HK1.out.size
  have q6 : IntKind.i32.wrap next = s32 next := wrap_u32i32 next hnx0 hnx1
  generalize (w.alloc (.cells #[.int .u8 (X k).op, .int .u8 (X k).a, .int .u8 (X k).b, .int .i32 (X k).imm] 122)).drew = w1 at *
  clear c2 c3 c4 c5 c6 i0 i1 i2 i3 yc
  go_wp2_with fail
  refine (stub_ask _ W _ bv rv cbs crs nx (Y k) H1.out (by simp) hn (by omega) (by omega) x0 (by omega)).mono ?_
  rintro e w2 ⟨rfl, bv', rv', hw, ht⟩
  go_wp2
  go_end0
  refine ⟨rfl, bv', rv', nx + 1, ?_, (Touch.of_same HK1.out _ _ _).trans ht⟩
  rw [HC.out]
  simp only [outL, Nat.add_sub_cancel]
  exact hw
end Go.Proofs.YtomphgpplbekiaaGreat
