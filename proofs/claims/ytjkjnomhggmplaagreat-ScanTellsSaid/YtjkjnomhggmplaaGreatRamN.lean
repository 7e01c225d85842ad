/- Package ram: New. -/
import Derived.Test.YtjkjnomhggmplaaGreatRamL
import Derived.Test.YtjkjnomhggmplaaGreatEv
import Derived.Deep.AppendLies
import Derived.Deep.RegionHeldLaw
import Derived.Deep.DrawnRows
namespace Go.Proofs.YtjkjnomhggmplaaGreat
open Go.RowKit

/-- What an append leaves: nothing else has turned, and where the new row lies. -/
structure GrewS (w w' : World) (v v' : Value) : Prop where
  keeps : Keeps (fun k => some k = v.ownBlock) w w'
  fresh : ∀ k, some k = v'.ownBlock → some k = v.ownBlock ∨ w.heap.size ≤ k
  lt : ∀ k, some k = v'.ownBlock → k < w'.heap.size
theorem infoS_of {P : Program} {t : TypeId} {z : Value} {s b : Nat} (hb : (P.info? t).map (fun i => (i.zero, i.size, i.bytes)) = some (some z, s, b)) : ∃ i, P.info? t = some i ∧ i.zero = some z ∧ i.size = s ∧ i.bytes = b := by
  revert hb
  cases P.info? t with
  | none => intro h; cases h
  | some i => intro h; simp only [Option.map_some, Option.some.injEq, Prod.mk.injEq] at h; exact ⟨i, rfl, h.1, h.2.1, h.2.2⟩
theorem slice_info : (Tryz.prog.info? 22).map (fun i => (i.zero, i.size, i.bytes)) = some (some (.slice none 0 0), 1, 24) := by kernel_rfl
/-- A row of slices of the call's own. -/
def RowS (w : World) (B : Nat) (v : Value) (n : Nat) (xs : List Value) : Prop := w.ownsRow B 22 1 v n xs
theorem block_atR {w : World} (o : Obj) {n : Nat} (h : w.heap.size = n) : (w.alloc o).heap[n]? = some o := by subst h; exact block_new _ _
theorem append_slice {ops : Array Oper} {rest : List Oper} {o : Oper} {a : Act} {w : World} {Q : Exit → Act → World → Prop} (hgd : o.guard = none) (s x : Operand) (ho : o.op = .call { callee := .builtin .append, args := #[s, x], argTypes := #[104, 104] })
    (B : Nat) (v : Value) (n : Nat) (xs : List Value) (hs : a.eval s = v) (hown : RowS w B v n xs) (b c : Nat) (y : Value) (hy : y.oneCell' = true) (hx : a.eval x = .slice (some ⟨b, 0, none⟩) 1 c) (hb : w.heap[b]? = some (.cells #[y] 22 (0, 0)))
    (hl : n + 1 ≤ 20000) (hB : B ≤ w.heap.size)
    (h : ∀ g cap w', RowS w' B (.slice (some ⟨g, 0, none⟩) (n + 1) cap) (n + 1) (xs ++ [y]) → GrewS w w' v (.slice (some ⟨g, 0, none⟩) (n + 1) cap) → wpList Tryz.prog ops Q rest (a.put o.dst (.slice (some ⟨g, 0, none⟩) (n + 1) cap)) w') : wpList Tryz.prog ops Q (o :: rest) a w := by
  obtain ⟨i0, hi, hz0, hz1, hz2⟩ := infoS_of slice_info
  refine wpList_append_lies w hgd s x 104 ho B 22 i0 _ 1 24 Tryz.underlying104 hi hz0 hz1 hz2 rfl (by decide) v n xs hs hown ⟨b, 0, none⟩ 1 c [y] hx rfl ?_ (by simpa using hy) (by omega) (by simp only [maxLen]; omega) (by omega) hB _ rfl ?_
  · have := World.news_of_block hb
    simpa using this
  · intro g cap w' h1 h2 h3 h4
    refine h g cap w' h1 ⟨keeps_grown h2 fun k hk => hk.symm, fun k hk => ?_, fun k hk => ?_⟩
    · simp only [Value.ownBlock, Option.some.injEq] at hk
      subst hk
      rcases h3 with h | h
      · exact .inl h.symm
      · exact .inr (by omega)
    · simp only [Value.ownBlock, Option.some.injEq] at hk; omega

theorem cellR {w : World} {b : Nat} {v : Value} {t : TypeId} {x : Obj} (h : w.heap[b]? = some (.cells #[v] t (0, 0))) : (w.alloc x).drew.cell? ⟨b, 0, none⟩ = w.cell? ⟨b, 0, none⟩ := by
  rw [cell_of h]
  exact cell_of (w := (w.alloc x).drew) (block_old _ h) 0
def frameV (A j : Nat) : Value := .slice (some ⟨A, 64 * j, none⟩) 64 64
structure NewSt (w : World) (n k : Nat) (v : Value) (wr : World) : Prop where
  same : Same w wr
  hb : wr.heap[w.heap.size]? = some (.cells #[v] 106 (0, 0))
  hA : wr.heap[w.heap.size + 1]? = some (.cells ((List.replicate (64 * n) (0 : Int)).map (Value.int .u8)).toArray 5 (0, 0))
  row : RowS wr (w.heap.size + 2) v k ((List.range k).map (frameV (w.heap.size + 1)))
theorem newSt_next {w wr w1 : World} {n k : Nat} {v : Value} {g cap : Nat} (h : NewSt w n k v wr)
    (hrow : RowS w1 (w.heap.size + 2) (.slice (some ⟨g, 0, none⟩) (k + 1) cap) (k + 1) ((List.range k).map (frameV (w.heap.size + 1)) ++ [frameV (w.heap.size + 1) k]))
    (hg : GrewS (wr.alloc (.cells #[frameV (w.heap.size + 1) k] 22)).drew w1 v (.slice (some ⟨g, 0, none⟩) (k + 1) cap)) :
    NewSt w n (k + 1) (.slice (some ⟨g, 0, none⟩) (k + 1) cap) (w1.setCell ⟨w.heap.size, 0, none⟩ (.slice (some ⟨g, 0, none⟩) (k + 1) cap)) := by
  have nn : ∀ j, some j = v.ownBlock → w.heap.size + 2 ≤ j := fun j e => (World.ownsRow.lt h.row _ e.symm).1
  have B1 := hg.keeps.get (show (wr.alloc (.cells #[frameV (w.heap.size + 1) k] 22)).drew.heap[w.heap.size]? = _ from block_old _ h.hb) (fun e => by have := nn _ e; omega)
  have A1 := hg.keeps.get (show (wr.alloc (.cells #[frameV (w.heap.size + 1) k] 22)).drew.heap[w.heap.size + 1]? = _ from block_old _ h.hA) (fun e => by have := nn _ e; omega)
  refine ⟨?_, by rw [block_set B1]; rfl, block_other _ A1 (by simp), ?_⟩
  · refine Keeps.setCell (same_then (h.same.alloc _).drew hg.keeps fun j e => by have := nn j e; omega) (fun e => ?_) _
    simp at e
  · rw [List.range_succ, List.map_append]
    exact owns_keeps hrow (Keeps.setCell (F := fun j => j = w.heap.size) (Keeps.refl _ _) (fun _ => rfl) _) (fun j hj e => by omega)
def NewRel (w : World) (n : Nat) (t20 : Value) (wr : World) : Prop := ∃ k v, k ≤ n ∧ t20 = .int .i64 (k : Nat) ∧ NewSt w n k v wr
def zeros (n : Nat) : Array Value := ((List.replicate n (0 : Int)).map (Value.int .u8)).toArray
theorem byteS_info : (Tryz.prog.info? 5).map (fun i => (i.zero, i.size, i.bytes)) = some (some (.int .u8 0), 1, 1) := by kernel_rfl
theorem run_zeros (n : Nat) (hn : n ≤ 16777216) (u : World) : (Instr.makeSlice 22 (.int .i64 (n : Int)) (.int .i64 (n : Int))).run Tryz.prog u = .ok (.slice (some ⟨u.heap.size, 0, none⟩) n n) (u.alloc (.cells (zeros n) 5)) := by
  obtain ⟨i, hi, hz, hs, hb⟩ := infoS_of byteS_info
  have h := run_makeSlice (P := Tryz.prog) (w := u) 22 5 i _ Tryz.underlying22 hi hz .i64 .i64 n n (by omega) (by omega) (by rw [hs]; simpa using hn) (by rw [hb]; omega) (by omega)
  rw [h, hs]
  simp only [Int.toNat_natCast, Nat.mul_one]
  have e : madeCells (Value.cells (.int .u8 0)) n = zeros n := by
    apply Array.ext'
    unfold zeros
    simp [madeCells, Value.cells, Nat.mod_one]
    exact (List.map_const' ..).trans (by simp)
  rw [e]
set_option maxRecDepth 100000 in
set_option maxHeartbeats 1000000 in
theorem new_ram (w : World) (n : Nat) (h1 : 1 ≤ n) (h2 : n ≤ 512) :
    Calls Tryz.prog 18 #[.int .i64 n] w fun e w' => ∃ R : RamAt, e = .returned (.tuple #[.pointer (some ⟨R.b, 0, none⟩), .int .i64 0]) ∧ R.n = n ∧ R.F = id ∧ IsRam w' R (List.replicate (64 * n) 0) ∧ Same w w' ∧ w.heap.size ≤ R.b ∧ w.heap.size ≤ R.S ∧ w.heap.size ≤ R.A := by
  have q0 : decide ((n : Int) < 1) = false := by simp; omega
  have q1 : decide ((512 : Int) < n) = false := by simp; omega
  have e1 := wrapI ((n : Int) * 64) (by omega) (by omega)
  have hmk : Hid (∀ u : World, _) := hidE (run_zeros (64 * n) (by omega))
  rw [show ((64 * n : Nat) : Int) = (n : Int) * 64 from by omega] at hmk
  have hmk := hmk.out
  obtain ⟨Z, hZ⟩ : ∃ Z, Z = zeros (64 * n) := ⟨_, rfl⟩
  rw [← hZ] at hmk
  go_enter Tryz.func18, Tryz.ntmps18
  have HZ := hidE hZ
  clear hZ
  go_wp2_with fail
  go_loopw [20] (fun t20 wr => NewRel w n t20 wr) (fun t20 _ => n - (intOf t20).toNat)
  case atStart =>
    refine ⟨0, .slice none 0 0, by omega, rfl, ((Keeps.refl _ _).alloc _).alloc _, block_old _ (block_new _ _), ?_, World.ownsRow_nil _ _ _ _⟩
    rw [HZ.out]; exact block_atR _ (by simp)
  case round =>
    obtain ⟨k, v, hk, rfl, HS⟩ := hrel
    have hb := HS.hb
    have cb := cell_of hb
    have fb := frozen_of hb
    have hlb := lt_of_block hb
    have HH := hidE HS
    clear HS
    by_cases hlt : k < n
    · have e2 := wrapI ((k : Int) * 64) (by omega) (by omega)
      have e3 := wrapI ((k : Int) * 64 + 64) (by omega) (by omega)
      have q2 : decide ((k : Int) < n) = true := by simp; omega
      go_wp2_with fail
      have hkn : (k : Int) * 64 + 64 ≤ ((64 * n : Nat) : Int) := by omega
      have hk0 : (0 : Int) ≤ (k : Int) * 64 := by omega
      have hk6 : ((k : Int) * 64).toNat = 64 * k := by omega
      have hk7 : ((k : Int) * 64 + 64).toNat = 64 * k + 64 := by omega
      refine wp_region_ev 12 14 2 rfl (fun u => u.cell? ⟨w.heap.size, 0, none⟩ = some v) (by kernel_rfl) (by kernel_rfl) (fun c a d v w h => by cases d <;> exact h) ?_ ?_
      · exact cb 0
      simp only [List.take_succ_cons, List.take_zero, List.drop_succ_cons, List.drop_zero]
      repeat (refine stS_cons (v := ?_) rfl (fun u hu => ?_) ?_; rotate_left; · (go_simp; first | done | with_reducible rfl); (try simp only [Act.put, List.setIfInBounds_toArray, List.set_cons_zero, List.set_cons_succ]))
      refine stS_cons (v := ?_) rfl (fun u hu => ?_) ?_
      rotate_left
      · go_simp
        rw [if_pos ⟨by omega, by omega⟩, if_pos ⟨by omega, by omega⟩, if_pos (by omega)]
      refine stS_nil ?_
      refine wpListS_cons ?_
      go_wp2
      have hc1 : (wr.alloc (.cells #[frameV (w.heap.size + 1) k] 22)).drew.cell? ⟨w.heap.size, 0, none⟩ = some v := by
        rw [cellR HH.out.hb, cb 0]; rfl
      refine Then1_mk ⟨hc1, ?_⟩
      refine wpListS_cons ?_
      refine append_slice rfl (.tmp 29) (.tmp 37) rfl (w.heap.size + 2) v k ((List.range k).map (frameV (w.heap.size + 1))) rfl (World.ownsRow.alloc HH.out.row _).drew wr.heap.size 1 (frameV (w.heap.size + 1) k) rfl rfl (block_new wr _) (by omega) (by have := HH.out.same.size; have := lt_of_block HH.out.hA; simp; omega) ?_
      intro g cap w1 hrow hgrow
      have nb : ¬ some w.heap.size = v.ownBlock := fun e => by have := (World.ownsRow.lt HH.out.row _ e.symm).1; omega
      have nA : ¬ some (w.heap.size + 1) = v.ownBlock := fun e => by have := (World.ownsRow.lt HH.out.row _ e.symm).1; omega
      have hN : Hid (NewSt w n (k + 1) (.slice (some ⟨g, 0, none⟩) (k + 1) cap) (w1.setCell ⟨w.heap.size, 0, none⟩ (.slice (some ⟨g, 0, none⟩) (k + 1) cap))) := hidE (newSt_next HH.out hrow hgrow)
      have B1 := hgrow.keeps.get (show (wr.alloc (.cells #[frameV (w.heap.size + 1) k] 22)).drew.heap[w.heap.size]? = _ from block_old _ hb) nb
      have c1 := cell_of B1
      have f1 := frozen_of B1
      clear hrow hgrow cb fb hc1
      refine wpList_nil (Then1_mk ⟨by rw [c1]; rfl, ?_⟩)
      refine wpListS_zero ?_
      have c1 := c1 0
      have f1 := f1 0
      go_wp2
      exact ⟨⟨k + 1, _, by omega, by simp, hN.out⟩, by simp only [intOf]; omega⟩
    · obtain rfl : k = n := by omega
      go_wp2
      go_ret2
      have HR := HH.out.row
      obtain ⟨hl, hr⟩ := HR
      rcases hr with ⟨-, h0⟩ | ⟨g, cap, cur, rfl, hg, hgh, hc1, hc2, hc3, hc4⟩
      · omega
      have g0 : w.heap.size ≠ g := by omega
      have g1 : w.heap.size ≠ w.heap.size + 1 := by omega
      have g2 : g ≠ w.heap.size + 1 := by omega
      have g3 : w.heap.size ≤ g := by omega
      have g4 : w.heap.size ≤ w.heap.size + 1 := by omega
      have hfit : ∀ j, j < k → 64 * j + 64 ≤ (List.replicate (64 * k) (0 : Int)).length := fun j hj => by simp; omega
      refine ⟨⟨w.heap.size, g, k, cap, w.heap.size + 1, id⟩, rfl, rfl, rfl, ⟨hb, ⟨cur, hgh, fun j (hj : j < k) => ?_⟩, HH.out.hA, hfit, fun i j _ _ h => h, h1, h2, hc1, fun x hx => ?_, g0, g1, g2⟩, HH.out.same, Nat.le_refl _, g3, g4⟩
      · have e : cur.toList[j]? = ((List.range k).map (frameV (w.heap.size + 1)))[j]? := by
          rw [← hc4, List.getElem?_take, if_pos (by omega)]
        rw [Array.getElem?_toList] at e
        rw [e]
        simp [frameV, hj]
      · simp at hx
        obtain ⟨_, rfl⟩ := hx
        omega

set_option maxRecDepth 100000 in
set_option maxHeartbeats 1000000 in
theorem new_ram_no (x : Int) (w : World) (h : x < 1 ∨ 512 < x) :
    Calls Tryz.prog 18 #[.int .i64 x] w fun e w' => e = .returned (.tuple #[.pointer none, .int .i64 2]) ∧ w = w' := by
  rcases h with h | h
  · go_enter Tryz.func18, Tryz.ntmps18
    go_wp2
    go_ret2
    exact ⟨rfl, rfl⟩
  · have h1 : ¬ x < 1 := by omega
    go_enter Tryz.func18, Tryz.ntmps18
    go_wp2
    go_ret2
    exact ⟨rfl, rfl⟩
end Go.Proofs.YtjkjnomhggmplaaGreat
