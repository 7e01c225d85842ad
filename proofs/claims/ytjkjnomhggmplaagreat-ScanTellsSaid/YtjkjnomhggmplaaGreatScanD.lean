/- Package scan: fetch. -/
import Derived.Test.YtjkjnomhggmplaaGreatScanC
import Derived.LoopTactic
namespace Go.Proofs.YtjkjnomhggmplaaGreat
open Go.RowKit
attribute [local go_sem ↓] Go.wp_at_zero Go.wp_at_succ

theorem x_ldFd (ρ : Operand → Value) (dst : Option Tmp) (x : Operand) (ty : TypeId) (pos : String) (after : Array Edge) (guard : Option (Nat × Bool)) :
    execOp ρ { dst, op := .load 69 x, type := ty, pos, after, guard } = ldRow 69 (ρ x) := rfl
theorem x_stFd (ρ : Operand → Value) (dst : Option Tmp) (x y : Operand) (ty : TypeId) (pos : String) (after : Array Edge) (guard : Option (Nat × Bool)) :
    execOp ρ { dst, op := .store 69 x y, type := ty, pos, after, guard } = stRow 69 (ρ x) (ρ y) := rfl
attribute [local go_sem ↓] x_ldFd x_stFd
theorem ld_Fd {w : World} {b : Nat} {i : In} {sz : Int} {vf vt vp : Value} (hb : w.heap[b]? = some (.cells (fdA i sz vf vt vp) 69 (0, 0))) :
    (ldRow 69 (.pointer (some ⟨b, 0, none⟩))).run Tryz.prog w = .ok (.value (.agg (fdA i sz vf vt vp))) w := by
  have h := ldRow_run (P := Tryz.prog) w 69 b 7 _ Tryz.underlying69 rfl (by kernel_rfl) (by rw [rowAt_of hb]; rfl)
  rw [rowAt_of hb] at h
  exact h
theorem oneSl {v : Value} (h : ∃ p n c, v = .slice p n c) : v.oneCell' = true := by
  obtain ⟨p, n, c, rfl⟩ := h
  rfl
theorem st_Fd {w : World} {b : Nat} {A : Array Value} {i : In} {sz : Int} {vf vt vp : Value} (hb : w.heap[b]? = some (.cells A 69 (0, 0))) (hA : A.size = 8) (h1 : vf.oneCell' = true) (h2 : vt.oneCell' = true) (h3 : vp.oneCell' = true) :
    (stRow 69 (.pointer (some ⟨b, 0, none⟩)) (.agg (fdA i sz vf vt vp))).run Tryz.prog w = .ok .skip (w.setRow b (fdA i sz vf vt vp)) :=
  stRow_run w _ _ 7 _ (by kernel_rfl) (by rw [rowAt_of hb, hA]) rfl (by simp [Ones, fdA, oc_int, h1, h2, h3])
theorem setRow_block {w : World} {b : Nat} {A : Array Value} {T : TypeId} {f : Nat × Nat} (hb : w.heap[b]? = some (.cells A T f)) (A' : Array Value) : (w.setRow b A').heap[b]? = some (.cells A' T f) := by
  simp [World.setRow, Array.getElem?_modify, hb]
theorem owns_one {w : World} {B : Nat} {e : TypeId} {s n : Nat} {v : Value} {xs : List Value} (h : w.ownsRow B e s v n xs) : v.oneCell' = true := by
  obtain ⟨p, c, rfl⟩ := owns_sl h
  rfl
def FetchPost (w : World) (Z : Fetched) (e : Ending) (w' : World) : Prop :=
  ∃ vf vt vp, e = .returned (.tuple #[.agg (fdA Z.i Z.sz vf vt vp), flV Z.c Z.a]) ∧ FdW w' w.heap.size vf vt vp Z.f ∧ Same w w'
/-- The world in which fetch calls its closure first. -/
structure F0 (w wr : World) : Prop where
  b6 : wr.heap[w.heap.size + 1 + 1 + 1]? = some (.cells (fdA in0 0 (.slice none 0 0) (.slice none 0 0) (.slice none 0 0)) 69 (0, 0))
  b7 : wr.heap[w.heap.size + 1 + 1 + 1 + 1]? = some (.cells #[.int .i64 0, .int .u32 0] 42 (0, 0))
  same : Same w wr
theorem F0.keeps {w wr w' : World} (h : F0 w wr) (k : Keeps (NxF w.heap.size) wr w') : F0 w w' :=
  ⟨k.get h.b6 (by unfold NxF; omega), k.get h.b7 (by unfold NxF; omega), same_then h.same k fun j hj => by unfold NxF at hj; omega⟩
theorem fetch_fin {w w3 : World} {A : Array Value} {i : In} {sz : Int} {vf vt vp : Value} {f : Fd} {c : Int} {x : Nat} {act : Act} {Z : Fetched} (hZ : (⟨c, x, i, sz, f⟩ : Fetched) = Z) (hA : A.size = 2) (h1 : w3.heap[w.heap.size + 1 + 1 + 1 + 1]? = some (.cells A 42 (0, 0)))
    (h2 : w3.heap[w.heap.size + 1 + 1 + 1]? = some (.cells (fdA i sz vf vt vp) 69 (0, 0))) (h3 : Same w w3) (h4 : FdW w3 (w.heap.size + 1 + 1 + 1 + 1 + 1 + 1 + 1) vf vt vp f)
    (ha : act.tmps.getD 6 undef = .pointer (some ⟨w.heap.size + 1 + 1 + 1, 0, none⟩)) (hb : act.tmps.getD 7 undef = .pointer (some ⟨w.heap.size + 1 + 1 + 1 + 1, 0, none⟩)) (hd : act.defers = []) :
    bodyPost Tryz.prog Tryz.f21 (FetchPost w Z) .ret act ((w3.setCell ⟨w.heap.size + 1 + 1 + 1 + 1, 0, none⟩ (.int .i64 c)).setCell ⟨w.heap.size + 1 + 1 + 1 + 1, 1, none⟩ (.int .u32 (x : Nat))) := by
  subst hZ
  have k : Keeps (fun k => k = w.heap.size + 1 + 1 + 1 + 1) w3 ((w3.setCell ⟨w.heap.size + 1 + 1 + 1 + 1, 0, none⟩ (.int .i64 c)).setCell ⟨w.heap.size + 1 + 1 + 1 + 1, 1, none⟩ (.int .u32 (x : Nat))) :=
    Keeps.setCell (F := fun k => k = w.heap.size + 1 + 1 + 1 + 1) (Keeps.setCell (F := fun k => k = w.heap.size + 1 + 1 + 1 + 1) (Keeps.refl _ _) (p := ⟨w.heap.size + 1 + 1 + 1 + 1, 0, none⟩) (fun _ => rfl) _) (p := ⟨w.heap.size + 1 + 1 + 1 + 1, 1, none⟩) (fun _ => rfl) _
  have e1 := block_set (block_set h1 0 (.int .i64 c)) 1 (.int .u32 (x : Nat))
  have e2 : (A.setIfInBounds 0 (.int .i64 c)).setIfInBounds 1 (.int .u32 (x : Nat)) = #[.int .i64 c, .int .u32 (x : Nat)] := by
    obtain ⟨l⟩ := A
    match l, hA with
    | [y, z], _ => rfl
  rw [e2] at e1
  have h5 := h4.keeps k (fun g hg e => by omega)
  refine bodyPost_ret (results_cc rfl ha (k.get h2 (by omega)) Tryz.underlying69 rfl (by kernel_rfl) hb e1 Tryz.underlying42 rfl (by kernel_rfl)) hd ⟨vf, vt, vp, rfl, ⟨owns_mono h5.rf (by omega), owns_mono h5.rt (by omega), owns_mono h5.rp (by omega), h5.ft⟩, same_then h3 k fun j hj => by omega⟩
def lenF (w : World) (b : Nat) : Nat := match w.cell? ⟨b, 0, none⟩ with
  | some (.slice _ n _) => n
  | _ => 0
theorem rowB_head {w : World} {B : Nat} {v : Value} {x : Int} {r : List Int} (h : RowB w B v (x :: r)) : ∃ g c, v = .slice (some ⟨g, 0, none⟩) (x :: r).length c ∧ w.cell? ⟨g, 0, none⟩ = some (.int .u8 x) := by
  obtain ⟨-, ⟨rfl, h0⟩ | ⟨g, cap, cur, rfl, hB, hg, hc1, hc2, hc3, hc4⟩⟩ := h
  · simp at h0
  · refine ⟨g, cap, rfl, ?_⟩
    rw [cell_of hg]
    have := congrArg (fun l => l[0]?) hc4
    simp only [List.getElem?_take] at this
    rw [if_pos (by simp)] at this
    simpa using this
theorem cell_same {w u : World} (h : Same w u) {a : Addr} {v : Value} (hc : w.cell? a = some v) : u.cell? a = some v := by
  have hlt : a.block < w.heap.size := by
    rcases Nat.lt_or_ge a.block w.heap.size with h | h
    · exact h
    · simp [World.cell?, Array.getElem?_eq_none h] at hc
  rw [← hc]
  unfold World.cell?
  rw [h.block a.block hlt id]
theorem NxI.lenF {N : Nat} {w w' : World} {R : RamAt} {M : List Int} {S : Array Value} {root ps pc : Nat} {i : In} {sz : Int} {vb vf vt vp : Value} {bs : List Int} {f : Fd} (h : NxI N w R M S root ps pc i sz vb vf vt vp bs f) (k : Same w w') : lenF w' (N + 1 + 1 + 1 + 1 + 1 + 1) = bs.length := by
  obtain ⟨p, c, rfl⟩ := owns_sl h.rb
  unfold Go.Proofs.YtjkjnomhggmplaaGreat.lenF
  rw [cell_of (k.get h.e9 id)]
  rfl
theorem form_n6 (op : Int) : (formL op false).n ≤ 6 := by
  obtain ⟨h1, -, h3, -, -, h6⟩ := fm_facts op false
  rw [h6]
  split
  · omega
  · rcases h1 with h | h | h | h <;> rcases h3 with h' | h' <;> omega
theorem rowB_by {w : World} {B g c : Nat} {bs : List Int} (h : RowB w B (.slice (some ⟨g, 0, none⟩) bs.length c) bs) (hb : ∀ y ∈ bs, 0 ≤ y ∧ y < 256) : BySl w (some ⟨g, 0, none⟩) bs.length (fun k => bs.getD k 0) := by
  obtain ⟨-, ⟨h1, -⟩ | ⟨g', cap, cur, h1, hB, hg, hc1, hc2, hc3, hc4⟩⟩ := h
  · cases h1
  · cases h1
    refine .inr ⟨g, 0, rfl, lt_of_block hg, fun j hj => ?_⟩
    have e : bs.getD j 0 = bs[j] := by simp [hj]
    have hm := hb bs[j] (by simp)
    simp only [e]
    refine ⟨hm.1, hm.2, ?_⟩
    rw [Nat.zero_add, cell_of hg]
    have := congrArg (fun l => l[j]?) hc4
    simp only [List.getElem?_take] at this
    rw [if_pos (by omega)] at this
    simpa [hj] using this
theorem x_ldIn (ρ : Operand → Value) (dst : Option Tmp) (x : Operand) (ty : TypeId) (pos : String) (after : Array Edge) (guard : Option (Nat × Bool)) :
    execOp ρ { dst, op := .load 67 x, type := ty, pos, after, guard } = ldRow 67 (ρ x) := rfl
theorem x_stIn (ρ : Operand → Value) (dst : Option Tmp) (x y : Operand) (ty : TypeId) (pos : String) (after : Array Edge) (guard : Option (Nat × Bool)) :
    execOp ρ { dst, op := .store 67 x y, type := ty, pos, after, guard } = stRow 67 (ρ x) (ρ y) := rfl
attribute [local go_sem ↓] x_ldIn x_stIn
theorem ins_facts {w : World} {b : Nat} {vf vt vp : Value} (hb : w.heap[b]? = some (.cells (fdA in0 0 vf vt vp) 69 (0, 0))) (op a d imm : Int) :
    (stRow 67 (.pointer (some ⟨w.heap.size, 0, none⟩)) (.agg #[.int .u8 op, .int .u8 a, .int .u8 d, .int .i32 imm])).run Tryz.prog (w.alloc (.cells #[.int .u8 0, .int .u8 0, .int .u8 0, .int .i32 0] 67)) = .ok .skip (w.alloc (.cells #[.int .u8 op, .int .u8 a, .int .u8 d, .int .i32 imm] 67)) ∧
    (ldRow 67 (.pointer (some ⟨w.heap.size, 0, none⟩))).run Tryz.prog (w.alloc (.cells #[.int .u8 op, .int .u8 a, .int .u8 d, .int .i32 imm] 67)) = .ok (.value (.agg #[.int .u8 op, .int .u8 a, .int .u8 d, .int .i32 imm])) (w.alloc (.cells #[.int .u8 op, .int .u8 a, .int .u8 d, .int .i32 imm] 67)) ∧
    ∃ W, (stRow 67 (.pointer (some ⟨b, 0, none⟩)) (.agg #[.int .u8 op, .int .u8 a, .int .u8 d, .int .i32 imm])).run Tryz.prog (w.alloc (.cells #[.int .u8 op, .int .u8 a, .int .u8 d, .int .i32 imm] 67)) = .ok .skip W ∧
      W.heap[b]? = some (.cells (fdA ⟨op, a, d, imm⟩ 0 vf vt vp) 69 (0, 0)) ∧ Keeps (fun k => k = b) w W := by
  refine ⟨?_, ?_, ?_⟩
  · have h := stRow_run (P := Tryz.prog) (w.alloc (.cells #[.int .u8 0, .int .u8 0, .int .u8 0, .int .i32 0] 67)) 67 w.heap.size 3 #[.int .u8 op, .int .u8 a, .int .u8 d, .int .i32 imm] (by kernel_rfl) (by rw [rowAt_of (block_new _ _)]; rfl) rfl (by simp [Ones, oc_int])
    rw [World.setRow_alloc_new] at h
    exact h
  · have hb2 := block_new w (.cells #[.int .u8 op, .int .u8 a, .int .u8 d, .int .i32 imm] 67)
    have h := ldRow_run (P := Tryz.prog) _ 67 w.heap.size 3 _ Tryz.underlying67 rfl (by kernel_rfl) (by rw [rowAt_of hb2]; rfl)
    rw [rowAt_of hb2] at h
    exact h
  · have hb2 := block_old (.cells #[.int .u8 op, .int .u8 a, .int .u8 d, .int .i32 imm] 67) hb
    have hst := run_storeCells_cells (P := Tryz.prog) b 0 [.int .u8 op, .int .u8 a, .int .u8 d, .int .i32 imm] 0 (w.alloc (.cells #[.int .u8 op, .int .u8 a, .int .u8 d, .int .i32 imm] 67)) (fun j hj => by rw [cell_of hb2]; simp at hj; simp [fdA]; omega) (fun j hj => frozen_of hb2 _) (by simp [oc_int])
    refine ⟨(w.alloc (.cells #[.int .u8 op, .int .u8 a, .int .u8 d, .int .i32 imm] 67)).setCells b 0 [.int .u8 op, .int .u8 a, .int .u8 d, .int .i32 imm], ?_, ?_, ?_⟩
    · simp only [Nat.add_zero] at hst
      simp [stRow, Instr.storeAt, Instr.sureAddr, storeVar, Value.cells, Tryz.sizeOf67, hst]
    · exact (block_set (block_set (block_set (block_set hb2 0 (.int .u8 op)) 1 (.int .u8 a)) 2 (.int .u8 d)) 3 (.int .i32 imm))
    · exact keeps_setCells (F := fun k => k = b) (b := b) (fun _ => rfl) [.int .u8 op, .int .u8 a, .int .u8 d, .int .i32 imm] 0 _ ((Keeps.refl _ _).alloc _)
/-- Behind so many bytes. -/
def FRel (w : World) (R : RamAt) (M : List Int) (S : Array Value) (root ps pc : Nat) (Z : Fetched) (wr : World) : Prop :=
  ∃ bs f vb vf vt vp, NxI w.heap.size wr R M S root ps pc in0 0 vb vf vt vp bs f ∧ F0 w wr ∧ 1 ≤ bs.length ∧ bs.length ≤ 6 ∧ (∀ y ∈ bs, 0 ≤ y ∧ y < 256) ∧ f.Ok bs.length ∧ restL R M root ps pc bs f = Z
def w0F (w : World) (R : RamAt) (S : Array Value) (pc : Nat) : World :=
  (((((((w.alloc (.cells #[.pointer (some ⟨R.b, 0, none⟩)] 32)).alloc (.cells S 28)).alloc (.cells #[.int .u32 (pc : Nat)] 25)).alloc (.cells #[.int .u8 0, .int .u8 0, .int .u8 0, .int .i32 0, .slice none 0 0, .slice none 0 0, .slice none 0 0, .int .i64 0] 69)).alloc (.cells #[.int .i64 0, .int .u32 0] 42)).alloc (.cells #[.int .u8 0, .int .u8 0, .int .u8 0, .int .i32 0, .slice none 0 0, .slice none 0 0, .slice none 0 0, .int .i64 0] 69)).alloc (.cells #[.slice none 0 0] 22))
theorem nxI_new {w : World} {R : RamAt} {M : List Int} (H : IsRam w R M) (S : Array Value) (root ps pc s0 : Nat) (hS : StV S root ps s0) :
    NxI w.heap.size (w0F w R S pc) R M S root ps pc in0 0 (.slice none 0 0) (.slice none 0 0) (.slice none 0 0) (.slice none 0 0) [] fd0 ∧ F0 w (w0F w R S pc) := by
  have hlS : R.S < w.heap.size := by obtain ⟨cs, h, -⟩ := H.hS; exact lt_of_block h
  have hsame : Same w (w0F w R S pc) := (((((((Keeps.refl _ _).alloc _).alloc _).alloc _).alloc _).alloc _).alloc _).alloc _
  refine ⟨⟨?_, ?_, ?_, ?_, ⟨?_, ⟨World.ownsRow_nil _ _ _ _, World.ownsRow_nil _ _ _ _, World.ownsRow_nil _ _ _ _, fun k e => by simp [Value.ownBlock] at e⟩, by omega, by simp [w0F]⟩, World.ownsRow_nil _ _ _ _, H.same hsame, lt_of_block H.hb, hlS, lt_of_block H.hA, ⟨s0, hS⟩⟩, ⟨?_, ?_, hsame⟩⟩
  all_goals (unfold w0F; repeat (first | exact block_new _ _ | (refine block_atR _ ?_; (simp; done)) | refine block_old _ ?_))
set_option maxRecDepth 100000 in
set_option maxHeartbeats 4000000 in
theorem fetch_any {R : RamAt} {M : List Int} (w : World) (H : IsRam w R M) (S : Array Value) (root ps pc s0 : Nat) (hS : StV S root ps s0) (hp : pc < 4294967296) :
    Calls Tryz.prog 21 #[.pointer (some ⟨R.b, 0, none⟩), .agg S, .int .u32 pc] w (FetchPost w (fetchL R M root ps pc)) := by
  have hlb := lt_of_block H.hb
  have hlS : R.S < w.heap.size := by obtain ⟨cs, h, -⟩ := H.hS; exact lt_of_block h
  have hlA := lt_of_block H.hA
  have HH := hidE H
  clear H
  generalize hz : fetchL R M root ps pc = Z
  unfold fetchL at hz
  have hpm : pc % 4294967296 = pc := Nat.mod_eq_of_lt hp
  rw [hpm] at hz
  have HZ := hidE hz
  clear hz
  go_enter Tryz.func21, Tryz.ntmps21
  go_wp2_with fail
  obtain ⟨hN, hF⟩ := nxI_new HH.out S root ps pc s0 hS
  unfold w0F at hN hF
  generalize (((((((w.alloc (.cells #[.pointer (some ⟨R.b, 0, none⟩)] 32)).alloc (.cells S 28)).alloc (.cells #[.int .u32 (pc : Nat)] 25)).alloc (.cells #[.int .u8 0, .int .u8 0, .int .u8 0, .int .i32 0, .slice none 0 0, .slice none 0 0, .slice none 0 0, .int .i64 0] 69)).alloc (.cells #[.int .i64 0, .int .u32 0] 42)).alloc (.cells #[.int .u8 0, .int .u8 0, .int .u8 0, .int .i32 0, .slice none 0 0, .slice none 0 0, .slice none 0 0, .int .i64 0] 69)).alloc (.cells #[.slice none 0 0] 22)) = w1 at *
  have hst := hN.st
  have HN := hidE hN
  have HF := hidE hF
  have hx := fnext_any hN (by simp) 0 fd0_ok (by omega) pc (by simp; omega)
  clear hN hF
  generalize hb : byteL R M root ps pc fd0 = Y at *
  obtain ⟨y1, f1⟩ := Y
  cases y1 with
  | none =>
    simp only at hx
    refine hx.mono ?_
    rintro _ w2 ⟨rfl, ⟨vb, vf, vt, vp, hN⟩, hk⟩
    have HN2 := hidE hN
    have HF2 := hidE (HF.out.keeps hk)
    simp only [flV]
    clear hx hN hk
    go_wp2
    have b11 := block_new w2 (.cells #[.int .i64 5, .int .u32 (pc : Nat)] 42)
    have hk2 : Same w2 (w2.alloc (.cells #[.int .i64 5, .int .u32 (pc : Nat)] 42)) := (Keeps.refl _ _).alloc _
    have c11 := cell_of b11
    refine wp_region_evp [0, 1] [2, 3] 1 (fun u => u.heap[w.heap.size + 1 + 1 + 1 + 1 + 1]? = some (.cells (fdA in0 0 vf vt vp) 69 (0, 0)) ∧ u.cell? ⟨w2.heap.size, 0, none⟩ = some (.int .i64 5) ∧ u.cell? ⟨w2.heap.size, 1, none⟩ = some (.int .u32 (pc : Nat))) (by kernel_rfl) (by kernel_rfl) (fun c a d v w h => by cases d <;> exact h) ⟨hk2.get HN2.out.fd.blk id, c11 0, c11 1⟩ ?_
    simp only [opsOf, List.filterMap_cons, List.filterMap_nil, List.getElem?_cons_zero, List.getElem?_cons_succ]
    repeat (refine stS_cons (v := ?_) rfl (fun u hu => ?_) ?_; rotate_left; · (obtain ⟨u1, u2, u3⟩ := hu; have u4 := ld_Fd u1; go_simp; first | done | with_reducible rfl); (try simp only [Act.put, List.setIfInBounds_toArray, List.set_cons_zero, List.set_cons_succ]))
    refine stS_nil ?_
    have hr := HN2.out.fd.rows
    have hst := st_Fd (i := in0) (sz := 0) (vf := vf) (vt := vt) (vp := vp) (hk2.drew.get HF2.out.b6 id) rfl (owns_one hr.rf) (owns_one hr.rt) (owns_one hr.rp)
    have hw2 := HN2.out.fd.hw
    have e1 : (((w2.alloc (.cells #[.int .i64 5, .int .u32 (pc : Nat)] 42)).drew).setRow (w.heap.size + 1 + 1 + 1) (fdA in0 0 vf vt vp)).heap[w.heap.size + 1 + 1 + 1 + 1]? = _ := (setRow_other _ _ _ _ (by omega)).trans (hk2.drew.get HF2.out.b7 id)
    have k1 : (((w2.alloc (.cells #[.int .i64 5, .int .u32 (pc : Nat)] 42)).drew).setRow (w.heap.size + 1 + 1 + 1) (fdA in0 0 vf vt vp)).heap[w.heap.size + 1 + 1 + 1 + 1 + 1]? = _ := (setRow_other _ _ _ _ (by omega)).trans (hk2.drew.get HN2.out.fd.blk id)
    have k2 : (((w2.alloc (.cells #[.int .i64 5, .int .u32 (pc : Nat)] 42)).drew).setRow (w.heap.size + 1 + 1 + 1) (fdA in0 0 vf vt vp)).heap[w2.heap.size]? = _ := (setRow_other _ _ _ _ (by omega)).trans b11
    have k3 : (((w2.alloc (.cells #[.int .i64 5, .int .u32 (pc : Nat)] 42)).drew).setRow (w.heap.size + 1 + 1 + 1) (fdA in0 0 vf vt vp)).heap[w.heap.size + 1 + 1 + 1]? = _ := setRow_block (hk2.drew.get HF2.out.b6 id) _
    have hkz : Same w (((w2.alloc (.cells #[.int .i64 5, .int .u32 (pc : Nat)] 42)).drew).setRow (w.heap.size + 1 + 1 + 1) (fdA in0 0 vf vt vp)) := (HF2.out.same.trans hk2.drew).setRow (fun h => absurd h (by omega)) _
    have hrz : FdW (((w2.alloc (.cells #[.int .i64 5, .int .u32 (pc : Nat)] 42)).drew).setRow (w.heap.size + 1 + 1 + 1) (fdA in0 0 vf vt vp)) _ vf vt vp f1 := (hr.keeps hk2.drew (fun _ _ => id)).keeps (Keeps.setRow (F := fun k => k = w.heap.size + 1 + 1 + 1) (Keeps.refl _ _) (fun _ => rfl) _) (fun g hg e => by omega)
    clear hr c11 b11
    refine wpListS_cons ?_
    go_wp2
    generalize (((w2.alloc (.cells #[.int .i64 5, .int .u32 (pc : Nat)] 42)).drew).setRow (w.heap.size + 1 + 1 + 1) (fdA in0 0 vf vt vp)) = w3 at *
    have q1 := cell_of e1
    have q2 := cell_of k2
    have q3 := frozen_of e1
    refine Then1_mk ⟨⟨k1, q2 0, q2 1⟩, ?_⟩
    refine wpListS_zero ?_
    have HE := hidE (And.intro e1 (And.intro k3 (And.intro hkz hrz)))
    clear e1 k1 k2 k3 hkz hrz
    go_wp2
    exact fetch_fin HZ.out rfl HE.out.1 HE.out.2.1 HE.out.2.2.1 HE.out.2.2.2 rfl rfl rfl
  | some x =>
    simp only at hx
    refine hx.mono ?_
    rintro _ w2 ⟨rfl, ⟨vb, vf, vt, vp, hN⟩, hk⟩
    have HN2 := hidE hN
    have HF2 := hidE (HF.out.keeps hk)
    simp only [flV]
    simp only at HZ
    have hx0 := byteL_bd HH.out (show (byteL R M root ps pc fd0).1 = some x by rw [hb])
    have hf1 : f1.Ok 1 := by have := byteL_ok (R := R) (M := M) (root := root) (ps := ps) (va := pc) fd0_ok; rw [hb] at this; exact this
    clear hx hN hk
    go_wp2_with fail
    go_loopw [12] (fun _ wr => FRel w R M S root ps pc Z wr) (fun _ wr => 7 - lenF wr (w.heap.size + 1 + 1 + 1 + 1 + 1 + 1))
    case atStart =>
      exact ⟨[x], f1, vb, vf, vt, vp, HN2.out.same ((Keeps.refl _ _).alloc _), HF2.out.keeps ((Keeps.refl (NxF w.heap.size) _).alloc _), Nat.le_refl _, by simp, fun y hy => by simp at hy; subst hy; exact hx0, hf1, HZ.out⟩
    case round =>
      clear HN2 HF2 HZ hb hx0 hf1 HN HF hst
      clear vb vf vt vp f1 x
      obtain ⟨bs, f, vb, vf, vt, vp, hN, hF, hl1, hl6, hby, hfo, hzz⟩ := hrel
      obtain ⟨x0, rs, rfl⟩ : ∃ x0 rs, bs = x0 :: rs := by cases bs with | nil => simp at hl1 | cons a r => exact ⟨a, r, rfl⟩
      obtain ⟨g, cb, rfl, hg0⟩ := rowB_head hN.rb
      have HN := hidE hN
      have HF := hidE hF
      have c9 := cell_of hN.e9
      have hxb := hby x0 (by simp)
      have HSZ := hidE (fun u => size_any x0 false hxb.1 hxb.2 u)
      clear hN hF
      go_wp2_with fail
      refine wp_region_ra [0, 1, 2, 3, 4, 5, 6] [] 0 (Same _) (by kernel_rfl) (by kernel_rfl) (fun u u' h k => Keeps.trans h k) (Keeps.refl _ _).drew ?_
      simp only [opsOf, List.filterMap_cons, List.filterMap_nil, List.getElem?_cons_zero, List.getElem?_cons_succ]
      iterate 5
        refine seqV_run (v := ?_) rfl (fun u hu => ?_) ?_
        rotate_left
        · have d9 := cell_of (hu.get HN.out.e9 id)
          have d0 := cell_same hu hg0
          clear hu
          go_simp
          first | done | with_reducible rfl
        simp only [Act.put, List.setIfInBounds_toArray, List.set_cons_zero, List.set_cons_succ]
      refine seqV_call (f := 45) (args := #[.int .u8 x0, .bool false]) (v := .int .i64 (formL x0 false).n) rfl (fun u hu => ?_) (fun u hu => HSZ.out u) ?_
      · clear hu
        go_simp
      simp only [Act.put, List.setIfInBounds_toArray, List.set_cons_zero, List.set_cons_succ]
      generalize hfn : (formL x0 false).n = fn at *
      iterate 1
        refine seqV_run (v := ?_) rfl (fun u hu => ?_) ?_
        rotate_left
        · have d9 := cell_of (hu.get HN.out.e9 id)
          have d0 := cell_same hu hg0
          clear hu
          go_simp
          first | done | with_reducible rfl
        simp only [Act.put, List.setIfInBounds_toArray, List.set_cons_zero, List.set_cons_succ]
      refine seqV_nil ?_
      refine tailR_zero fun u1 hu _ => ?_
      have HNu := hidE (HN.out.same hu)
      have HFu := hidE (HF.out.keeps (hu.mono fun _ _ h => h.elim))
      clear hu c9
      by_cases hlt : (rs.length : Int) + 1 < fn
      · have q0 : decide ((rs.length : Int) + 1 < fn) = true := by simpa using hlt
        have hzs := restL_step (R := R) (M := M) (root := root) (ps := ps) (pc := pc) (f := f) (bs := x0 :: rs) (by rw [show headX (x0 :: rs) = x0 from rfl, hfn]; simp; omega) hl1
        rw [hzz] at hzs
        have hx := fnext_any HNu.out (by omega) _ hfo (by omega) _ rfl
        generalize hva : (pc + (x0 :: rs).length) % 4294967296 = va at *
        generalize hb : byteL R M root ps va f = Y at *
        obtain ⟨y1, f1⟩ := Y
        have HZ1 := hidE hzs
        clear hzz hzs
        cases y1 with
        | none =>
          simp only at hx
          go_wp2_with fail
          refine hx.mono ?_
          rintro _ w3 ⟨rfl, ⟨vb, vf, vt, vp, hN⟩, hk⟩
          have HN3 := hidE hN
          have HF3 := hidE (HFu.out.keeps hk)
          have HZ := hidE HZ1.out.symm
          simp only [flV]
          clear hx hN hk
          go_wp2
          have b11 := block_new w3 (.cells #[.int .i64 5, .int .u32 (va : Nat)] 42)
          have hk2 : Same w3 (w3.alloc (.cells #[.int .i64 5, .int .u32 (va : Nat)] 42)) := (Keeps.refl _ _).alloc _
          have c11 := cell_of b11
          refine wp_region_evp [0, 1] [2, 3] 1 (fun u => u.heap[w.heap.size + 1 + 1 + 1 + 1 + 1]? = some (.cells (fdA in0 0 vf vt vp) 69 (0, 0)) ∧ u.cell? ⟨w3.heap.size, 0, none⟩ = some (.int .i64 5) ∧ u.cell? ⟨w3.heap.size, 1, none⟩ = some (.int .u32 (va : Nat))) (by kernel_rfl) (by kernel_rfl) (fun c a d v w h => by cases d <;> exact h) ⟨hk2.get HN3.out.fd.blk id, c11 0, c11 1⟩ ?_
          simp only [opsOf, List.filterMap_cons, List.filterMap_nil, List.getElem?_cons_zero, List.getElem?_cons_succ]
          repeat (refine stS_cons (v := ?_) rfl (fun u hu => ?_) ?_; rotate_left; · (obtain ⟨u1, u2, u3⟩ := hu; have u4 := ld_Fd u1; go_simp; first | done | with_reducible rfl); (try simp only [Act.put, List.setIfInBounds_toArray, List.set_cons_zero, List.set_cons_succ]))
          refine stS_nil ?_
          have hr := HN3.out.fd.rows
          have hst := st_Fd (i := in0) (sz := 0) (vf := vf) (vt := vt) (vp := vp) (hk2.drew.get HF3.out.b6 id) rfl (owns_one hr.rf) (owns_one hr.rt) (owns_one hr.rp)
          have hw3 := HN3.out.fd.hw
          have e1 : (((w3.alloc (.cells #[.int .i64 5, .int .u32 (va : Nat)] 42)).drew).setRow (w.heap.size + 1 + 1 + 1) (fdA in0 0 vf vt vp)).heap[w.heap.size + 1 + 1 + 1 + 1]? = _ := (setRow_other _ _ _ _ (by omega)).trans (hk2.drew.get HF3.out.b7 id)
          have k1 : (((w3.alloc (.cells #[.int .i64 5, .int .u32 (va : Nat)] 42)).drew).setRow (w.heap.size + 1 + 1 + 1) (fdA in0 0 vf vt vp)).heap[w.heap.size + 1 + 1 + 1 + 1 + 1]? = _ := (setRow_other _ _ _ _ (by omega)).trans (hk2.drew.get HN3.out.fd.blk id)
          have k2 : (((w3.alloc (.cells #[.int .i64 5, .int .u32 (va : Nat)] 42)).drew).setRow (w.heap.size + 1 + 1 + 1) (fdA in0 0 vf vt vp)).heap[w3.heap.size]? = _ := (setRow_other _ _ _ _ (by omega)).trans b11
          have k3 : (((w3.alloc (.cells #[.int .i64 5, .int .u32 (va : Nat)] 42)).drew).setRow (w.heap.size + 1 + 1 + 1) (fdA in0 0 vf vt vp)).heap[w.heap.size + 1 + 1 + 1]? = _ := setRow_block (hk2.drew.get HF3.out.b6 id) _
          have hkz : Same w (((w3.alloc (.cells #[.int .i64 5, .int .u32 (va : Nat)] 42)).drew).setRow (w.heap.size + 1 + 1 + 1) (fdA in0 0 vf vt vp)) := (HF3.out.same.trans hk2.drew).setRow (fun h => absurd h (by omega)) _
          have hrz : FdW (((w3.alloc (.cells #[.int .i64 5, .int .u32 (va : Nat)] 42)).drew).setRow (w.heap.size + 1 + 1 + 1) (fdA in0 0 vf vt vp)) _ vf vt vp f1 := (hr.keeps hk2.drew (fun _ _ => id)).keeps (Keeps.setRow (F := fun k => k = w.heap.size + 1 + 1 + 1) (Keeps.refl _ _) (fun _ => rfl) _) (fun g hg e => by omega)
          clear hr c11 b11
          refine wpListS_cons ?_
          go_wp2
          generalize (((w3.alloc (.cells #[.int .i64 5, .int .u32 (va : Nat)] 42)).drew).setRow (w.heap.size + 1 + 1 + 1) (fdA in0 0 vf vt vp)) = wz at *
          have q1 := cell_of e1
          have q2 := cell_of k2
          have q3 := frozen_of e1
          refine Then1_mk ⟨⟨k1, q2 0, q2 1⟩, ?_⟩
          refine wpListS_zero ?_
          have HE := hidE (And.intro e1 (And.intro k3 (And.intro hkz hrz)))
          clear e1 k1 k2 k3 hkz hrz
          go_wp2
          exact fetch_fin HZ.out rfl HE.out.1 HE.out.2.1 HE.out.2.2.1 HE.out.2.2.2 rfl rfl rfl
        | some y =>
          simp only at hx HZ1
          have hyb := byteL_bd HH.out (show (byteL R M root ps va f).1 = some y by rw [hb])
          have hf1 : f1.Ok ((x0 :: rs) ++ [y]).length := by
            have := byteL_ok (R := R) (M := M) (root := root) (ps := ps) (va := va) hfo
            rw [hb] at this
            simpa using this
          go_wp2_with fail
          refine hx.mono ?_
          rintro _ w3 ⟨rfl, ⟨vb, vf, vt, vp, hN⟩, hk⟩
          have HN3 := hidE hN
          have HF3 := hidE (HFu.out.keeps hk)
          simp only [flV]
          clear hx hN hk
          go_wp2
          go_roundw
          case rel => exact ⟨_, f1, vb, vf, vt, vp, HN3.out.same ((Keeps.refl _ _).alloc _), HF3.out.keeps ((Keeps.refl (NxF w.heap.size) _).alloc _), by simp, by have := form_n6 x0; rw [hfn] at this; simp at hl6 ⊢; omega, fun z hz => by
            rcases List.mem_append.1 hz with h | h
            · exact hby z h
            · simp at h; subst h; exact hyb, hf1, HZ1.out.symm⟩
          case measure =>
            have e1 := HN3.out.lenF ((Keeps.refl _ _).alloc (.cells #[.int .i64 0, .int .u32 0] 42))
            have e2 := HN.out.lenF (Keeps.refl _ _)
            rw [e1, e2]
            simp at hl6 ⊢
            omega
      · have q0 : decide ((rs.length : Int) + 1 < fn) = false := by simpa using hlt
        have hzs := restL_done (R := R) (M := M) (root := root) (ps := ps) (pc := pc) (f := f) (bs := x0 :: rs) (by rw [show headX (x0 :: rs) = x0 from rfl, hfn]; simp; omega)
        rw [hzz] at hzs
        unfold decR at hzs
        have HD := hidE (fun u (hu : Same u1 u) => decode_any (some ⟨g, 0, none⟩) (x0 :: rs).length cb false (fun k => (x0 :: rs).getD k 0) u (by omega) (rowB_by (HNu.out.same hu).rb hby))
        generalize decL (fun k => (x0 :: rs).getD k 0) (x0 :: rs).length false = D at *
        obtain ⟨⟨dop, da, db, dimm⟩, dsz, der⟩ := D
        have c9 := cell_of HNu.out.e9
        have HZ1 := hidE hzs.symm
        simp only [decV, inA] at HD
        clear hzz hzs
        go_wp2_with fail
        refine (HD.out _ (Keeps.refl _ _)).mono ?_
        rintro _ w3 ⟨rfl, hk⟩
        have HN3 := hidE (HNu.out.same hk)
        have HF3 := hidE (HFu.out.keeps (hk.mono fun _ _ h => h.elim))
        clear hk c9
        obtain ⟨h13, l13, W5, s51, hb5, hk5⟩ := ins_facts HN3.out.fd.blk dop da db dimm
        by_cases hder : der = 0
        · have HZ : Hid ((⟨0, 0, ⟨dop, da, db, dimm⟩, dsz, f⟩ : Fetched) = Z) := hidE (by have h := HZ1.out; rw [if_neg (by simpa using hder)] at h; exact h)
          subst hder
          have c5 := cell_of hb5
          have f5 := frozen_of hb5
          simp only [fdA] at c5
          have hw3 := HN3.out.fd.hw
          have b6 : (W5.setCell ⟨w.heap.size + 1 + 1 + 1 + 1 + 1, 7, none⟩ (.int .i64 dsz)).heap[w.heap.size + 1 + 1 + 1 + 1 + 1]? = some (.cells (fdA ⟨dop, da, db, dimm⟩ dsz vf vt vp) 69 (0, 0)) := block_set hb5 7 (.int .i64 dsz)
          have k6 : Keeps (fun k => k = w.heap.size + 1 + 1 + 1 + 1 + 1) w3 (W5.setCell ⟨w.heap.size + 1 + 1 + 1 + 1 + 1, 7, none⟩ (.int .i64 dsz)) := hk5.setCell (p := ⟨w.heap.size + 1 + 1 + 1 + 1 + 1, 7, none⟩) (fun _ => rfl) _
          have hld := ld_Fd b6
          have hr := HN3.out.fd.rows.keeps k6 (fun g hg e => by omega)
          have b3 := k6.get HF3.out.b6 (by omega)
          have hst := st_Fd (i := ⟨dop, da, db, dimm⟩) (sz := dsz) (vf := vf) (vt := vt) (vp := vp) b3 rfl (owns_one hr.rf) (owns_one hr.rt) (owns_one hr.rp)
          have e1 : ((W5.setCell ⟨w.heap.size + 1 + 1 + 1 + 1 + 1, 7, none⟩ (.int .i64 dsz)).setRow (w.heap.size + 1 + 1 + 1) (fdA ⟨dop, da, db, dimm⟩ dsz vf vt vp)).heap[w.heap.size + 1 + 1 + 1 + 1]? = _ := (setRow_other _ _ _ _ (by omega)).trans (k6.get HF3.out.b7 (by omega))
          have k3 : ((W5.setCell ⟨w.heap.size + 1 + 1 + 1 + 1 + 1, 7, none⟩ (.int .i64 dsz)).setRow (w.heap.size + 1 + 1 + 1) (fdA ⟨dop, da, db, dimm⟩ dsz vf vt vp)).heap[w.heap.size + 1 + 1 + 1]? = _ := setRow_block b3 _
          have hkz : Same w ((W5.setCell ⟨w.heap.size + 1 + 1 + 1 + 1 + 1, 7, none⟩ (.int .i64 dsz)).setRow (w.heap.size + 1 + 1 + 1) (fdA ⟨dop, da, db, dimm⟩ dsz vf vt vp)) := (same_then HF3.out.same k6 (fun j hj => by omega)).setRow (fun h => absurd h (by omega)) _
          have hrz : FdW ((W5.setCell ⟨w.heap.size + 1 + 1 + 1 + 1 + 1, 7, none⟩ (.int .i64 dsz)).setRow (w.heap.size + 1 + 1 + 1) (fdA ⟨dop, da, db, dimm⟩ dsz vf vt vp)) _ vf vt vp f := hr.keeps (Keeps.setRow (F := fun k => k = w.heap.size + 1 + 1 + 1) (Keeps.refl _ _) (fun _ => rfl) _) (fun g hg e => by omega)
          have p1 := cell_of e1
          have p3 := frozen_of e1
          have HE := hidE (And.intro e1 (And.intro k3 (And.intro hkz hrz)))
          clear e1 k3 hkz hrz b3 hr k6 b6 hw3 hk5 hb5
          go_wp2_with fail
          exact fetch_fin HZ.out rfl HE.out.1 HE.out.2.1 HE.out.2.2.1 HE.out.2.2.2 rfl rfl rfl
        · have q1 : (der != 0) = true := by simpa using hder
          have HZ : Hid ((⟨1, pc, in0, 0, f⟩ : Fetched) = Z) := hidE (by have h := HZ1.out; rw [if_pos (by simpa using hder)] at h; exact h)
          go_wp2_with fail
          have hk2 : Same w3 (w3.alloc (.cells #[.int .u8 dop, .int .u8 da, .int .u8 db, .int .i32 dimm] 67)) := (Keeps.refl _ _).alloc _
          have c11 := cell_of (hk2.get HN3.out.e5 id)
          refine wp_region_evp [0, 1, 2] [3, 4] 1 (fun u => u.heap[w.heap.size + 1 + 1 + 1 + 1 + 1]? = some (.cells (fdA in0 0 vf vt vp) 69 (0, 0)) ∧ u.cell? ⟨w.heap.size + 1 + 1, 0, none⟩ = some (.int .u32 (pc : Nat))) (by kernel_rfl) (by kernel_rfl) (fun c a d v w h => by cases d <;> exact h) ⟨hk2.get HN3.out.fd.blk id, c11 0⟩ ?_
          simp only [opsOf, List.filterMap_cons, List.filterMap_nil, List.getElem?_cons_zero, List.getElem?_cons_succ]
          repeat (refine stS_cons (v := ?_) rfl (fun u hu => ?_) ?_; rotate_left; · (obtain ⟨u1, u2⟩ := hu; have u4 := ld_Fd u1; go_simp; first | done | with_reducible rfl); (try simp only [Act.put, List.setIfInBounds_toArray, List.set_cons_zero, List.set_cons_succ]))
          refine stS_nil ?_
          have hr := HN3.out.fd.rows
          have hst := st_Fd (i := in0) (sz := 0) (vf := vf) (vt := vt) (vp := vp) (hk2.drew.get HF3.out.b6 id) rfl (owns_one hr.rf) (owns_one hr.rt) (owns_one hr.rp)
          have hw2 := HN3.out.fd.hw
          have e1 : (((w3.alloc (.cells #[.int .u8 dop, .int .u8 da, .int .u8 db, .int .i32 dimm] 67)).drew).setRow (w.heap.size + 1 + 1 + 1) (fdA in0 0 vf vt vp)).heap[w.heap.size + 1 + 1 + 1 + 1]? = _ := (setRow_other _ _ _ _ (by omega)).trans (hk2.drew.get HF3.out.b7 id)
          have k1 : (((w3.alloc (.cells #[.int .u8 dop, .int .u8 da, .int .u8 db, .int .i32 dimm] 67)).drew).setRow (w.heap.size + 1 + 1 + 1) (fdA in0 0 vf vt vp)).heap[w.heap.size + 1 + 1 + 1 + 1 + 1]? = _ := (setRow_other _ _ _ _ (by omega)).trans (hk2.drew.get HN3.out.fd.blk id)
          have k2 : (((w3.alloc (.cells #[.int .u8 dop, .int .u8 da, .int .u8 db, .int .i32 dimm] 67)).drew).setRow (w.heap.size + 1 + 1 + 1) (fdA in0 0 vf vt vp)).heap[w.heap.size + 1 + 1]? = _ := (setRow_other _ _ _ _ (by omega)).trans (hk2.drew.get HN3.out.e5 id)
          have k3 : (((w3.alloc (.cells #[.int .u8 dop, .int .u8 da, .int .u8 db, .int .i32 dimm] 67)).drew).setRow (w.heap.size + 1 + 1 + 1) (fdA in0 0 vf vt vp)).heap[w.heap.size + 1 + 1 + 1]? = _ := setRow_block (hk2.drew.get HF3.out.b6 id) _
          have hkz : Same w (((w3.alloc (.cells #[.int .u8 dop, .int .u8 da, .int .u8 db, .int .i32 dimm] 67)).drew).setRow (w.heap.size + 1 + 1 + 1) (fdA in0 0 vf vt vp)) := (HF3.out.same.trans hk2.drew).setRow (fun h => absurd h (by omega)) _
          have hrz : FdW (((w3.alloc (.cells #[.int .u8 dop, .int .u8 da, .int .u8 db, .int .i32 dimm] 67)).drew).setRow (w.heap.size + 1 + 1 + 1) (fdA in0 0 vf vt vp)) _ vf vt vp f := (hr.keeps hk2.drew (fun _ _ => id)).keeps (Keeps.setRow (F := fun k => k = w.heap.size + 1 + 1 + 1) (Keeps.refl _ _) (fun _ => rfl) _) (fun g hg e => by omega)
          clear hr c11
          refine wpListS_cons ?_
          go_wp2
          generalize (((w3.alloc (.cells #[.int .u8 dop, .int .u8 da, .int .u8 db, .int .i32 dimm] 67)).drew).setRow (w.heap.size + 1 + 1 + 1) (fdA in0 0 vf vt vp)) = wz at *
          have p2 := cell_of k2
          have p1 := cell_of e1
          have p3 := frozen_of e1
          refine Then1_mk ⟨⟨k1, p2 0⟩, ?_⟩
          refine wpListS_zero ?_
          have HE := hidE (And.intro e1 (And.intro k3 (And.intro hkz hrz)))
          clear e1 k1 k2 k3 hkz hrz
          go_wp2
          exact fetch_fin HZ.out rfl HE.out.1 HE.out.2.1 HE.out.2.2.1 HE.out.2.2.2 rfl rfl rfl
end Go.Proofs.YtjkjnomhggmplaaGreat
