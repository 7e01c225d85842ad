/- slices.Sort and slices.Compact at ints: laid by the kit's own tool (lay-shelf, lay-plain) at this seat's dump. A cache's frames: those of the live blocks, joined, sorted, each once. -/
import Derived.Shelf.Sort.Plain
import Derived.Ground.Names2Prog
import Derived.Shelf.Slices.CompactI
import Derived.Test.YtomphgpplbekiaaGreatProg
import Derived.Test.YtomphgpplbekiaaGreatCnK
import Derived.Sort.OwnSortedInts
import Derived.Lib.RowBridge
namespace Go.Proofs
open Go.Shelf
def Tryz.lays189_ren : Go.Shelf.Ren := ⟨fun | 189 => 69 | 125 => 96 | 257 => 95 | 128 => 121 | 129 => 122 | 294 => 112 | 295 => 113 | 296 => 114 | 297 => 115 | 298 => 116 | 299 => 117 | 216 => 118 | 300 => 119 | 301 => 120 | 328 => 130 | 329 => 131 | 330 => 132 | 331 => 133 | 332 => 134 | 215 => 135 | 343 => 141 | n => n, fun | 28 => 34 | 3 => 3 | 46 => 159 | 0 => 0 | 51 => 29 | 53 => 213 | 4 => 4 | 183 => 205 | 182 => 204 | 131 => 63 | 5 => 5 | 9 => 9 | 218 => 240 | 222 => 244 | 228 => 249 | 229 => 87 | n => n, fun | n => n⟩
theorem Tryz.lays189 : Go.Proofs.Lays.n189 Tryz.prog Tryz.lays189_ren := {
  mixed := by kernel_rfl
  f125 := Tryz.func96.trans (congrArg some (by kernel_rfl))
  f128 := Tryz.func121.trans (congrArg some (by kernel_rfl))
  f129 := Tryz.func122.trans (congrArg some (by kernel_rfl))
  f189 := Tryz.func69.trans (congrArg some (by kernel_rfl))
  f215 := Tryz.func135.trans (congrArg some (by kernel_rfl))
  f216 := Tryz.func118.trans (congrArg some (by kernel_rfl))
  f257 := Tryz.func95.trans (congrArg some (by kernel_rfl))
  f294 := Tryz.func112.trans (congrArg some (by kernel_rfl))
  f295 := Tryz.func113.trans (congrArg some (by kernel_rfl))
  f296 := Tryz.func114.trans (congrArg some (by kernel_rfl))
  f297 := Tryz.func115.trans (congrArg some (by kernel_rfl))
  f298 := Tryz.func116.trans (congrArg some (by kernel_rfl))
  f299 := Tryz.func117.trans (congrArg some (by kernel_rfl))
  f300 := Tryz.func119.trans (congrArg some (by kernel_rfl))
  f301 := Tryz.func120.trans (congrArg some (by kernel_rfl))
  f328 := Tryz.func130.trans (congrArg some (by kernel_rfl))
  f329 := Tryz.func131.trans (congrArg some (by kernel_rfl))
  f330 := Tryz.func132.trans (congrArg some (by kernel_rfl))
  f331 := Tryz.func133.trans (congrArg some (by kernel_rfl))
  f332 := Tryz.func134.trans (congrArg some (by kernel_rfl))
  f343 := Tryz.func141.trans (congrArg some (by kernel_rfl))
  t0 := Tryz.underlying0
  a0 := Tryz.isAgg0
  z0 := Tryz.sizeOf0
  v0 := Tryz.zeroValue0
  t3 := Tryz.underlying3
  a3 := Tryz.isAgg3
  z3 := Tryz.sizeOf3
  v3 := Tryz.zeroValue3
  t4 := Tryz.underlying4
  a4 := Tryz.isAgg4
  z4 := Tryz.sizeOf4
  v4 := Tryz.zeroValue4
  t5 := Tryz.underlying5
  a5 := Tryz.isAgg5
  z5 := Tryz.sizeOf5
  v5 := Tryz.zeroValue5
  t9 := Tryz.underlying9
  a9 := Tryz.isAgg9
  z9 := Tryz.sizeOf9
  v9 := Tryz.zeroValue9
  t28 := Tryz.underlying34
  a28 := Tryz.isAgg34
  z28 := Tryz.sizeOf34
  v28 := Tryz.zeroValue34
  t46 := Tryz.underlying159
  a46 := Tryz.isAgg159
  z46 := Tryz.sizeOf159
  v46 := Tryz.zeroValue159
  t51 := Tryz.underlying29
  a51 := Tryz.isAgg29
  z51 := Tryz.sizeOf29
  v51 := Tryz.zeroValue29
  t53 := Tryz.underlying213
  a53 := Tryz.isAgg213
  z53 := Tryz.sizeOf213
  v53 := Tryz.zeroValue213
  t131 := Tryz.underlying63
  a131 := Tryz.isAgg63
  z131 := Tryz.sizeOf63
  v131 := Tryz.zeroValue63
  t182 := Tryz.underlying204
  a182 := Tryz.isAgg204
  z182 := Tryz.sizeOf204
  v182 := Tryz.zeroValue204
  t183 := Tryz.underlying205
  a183 := Tryz.isAgg205
  z183 := Tryz.sizeOf205
  v183 := Tryz.zeroValue205
  t218 := Tryz.underlying240
  a218 := Tryz.isAgg240
  z218 := Tryz.sizeOf240
  v218 := Tryz.zeroValue240
  t222 := Tryz.underlying244
  a222 := Tryz.isAgg244
  z222 := Tryz.sizeOf244
  v222 := Tryz.zeroValue244
  t228 := Tryz.underlying249
  a228 := Tryz.isAgg249
  z228 := Tryz.sizeOf249
  v228 := Tryz.zeroValue249
  t229 := Tryz.underlying87
  a229 := Tryz.isAgg87
  z229 := Tryz.sizeOf87
  v229 := Tryz.zeroValue87 }
open Go.Sort Go.RowKit in
theorem Tryz.slices_Sort_int (blk off cap : Nat) (zs : List Int) (w : World) (hH : Holds (Value.int .i64) w blk off zs.toArray) (hblk : blk < w.heap.size) (hsz : zs.length < 4611686018427387904) :
    Calls Tryz.prog 69 #[.slice (some ⟨blk, off, none⟩) zs.length cap] w fun e w' =>
      e = .returned (.tuple #[]) ∧ ∃ n os, w' = grow (putRow (Value.int .i64) (Sort.ahead w n) blk off (zs.mergeSort fun x y => decide (x ≤ y)).toArray) os := Any.slices_Sort_int Tryz.lays189 blk off cap zs w hH hblk hsz
def Tryz.laysNm220_ren : Go.Shelf.Ren := ⟨fun | 20 => 70 | n => n, fun | 22 => 34 | 3 => 3 | 4 => 4 | 0 => 0 | n => n, fun | n => n⟩
theorem Tryz.laysNm220 : Go.Proofs.Lays2.n20 Tryz.prog Tryz.laysNm220_ren := {
  mixed := by kernel_rfl
  f20 := Tryz.func70.trans (congrArg some (by kernel_rfl))
  t0 := Tryz.underlying0
  a0 := Tryz.isAgg0
  z0 := Tryz.sizeOf0
  v0 := Tryz.zeroValue0
  t3 := Tryz.underlying3
  a3 := Tryz.isAgg3
  z3 := Tryz.sizeOf3
  v3 := Tryz.zeroValue3
  t4 := Tryz.underlying4
  a4 := Tryz.isAgg4
  z4 := Tryz.sizeOf4
  v4 := Tryz.zeroValue4
  t22 := Tryz.underlying34
  a22 := Tryz.isAgg34
  z22 := Tryz.sizeOf34
  v22 := Tryz.zeroValue34
  i3 := by kernel_rfl }
open Go.RowKit Go.Lib Go.Sort in
/-- slices.Compact at []int: "Compact replaces consecutive runs of equal elements with a single copy. This is like the uniq command found on Unix. Compact modifies the contents of the slice s and returns the modified slice, which may have a smaller length. Compact zeroes the elements between the new length and the original length. The result preserves the nilness of s.": IT RETURNS THE SLICE CUT TO 'Lib.compact zs'; ITS CELLS HOLD 'Lib.compact zs', THEN ZERO VALUES up to the old length; all else is as it was, but for the count of draws. IN THE WORDS OF slices.Sort's CONTRACT ('Holds', 'putRow'): so the everyday 'slices.Sort(xs); xs = slices.Compact(xs)' goes from the one contract to the other. It asks 'zs.length ≤ cap' (every slice's: the reslicing 's[:k]' looks at it). Length 0, nil: '.._empty'. (LAID: no walk: one application.) -/
theorem Tryz.slices_Compact_int (blk off cap : Nat) (zs : List Int) (w : World) (hH : Holds (Value.int .i64) w blk off zs.toArray) (hsz : zs.length ≤ 9223372036854775807) (hcap : zs.length ≤ cap) :
    Calls Tryz.prog 70 #[.slice (some ⟨blk, off, none⟩) zs.length cap] w fun e w' => e = .returned (.slice (some ⟨blk, off, none⟩) (Lib.compact zs).length cap) ∧ ∃ q, w' = putRow (Value.int .i64) (Sort.ahead w q) blk off (Lib.compact zs ++ List.replicate (zs.length - (Lib.compact zs).length) 0).toArray := Any.slices_Compact_int Tryz.laysNm220 blk off cap zs w hH hsz hcap
open Go.RowKit Go.Lib Go.Sort in
/-- The same at a slice of length 0, a nil one too: it comes back as it is. (LAID: no walk: one application.) -/
theorem Tryz.slices_Compact_int_empty (a : Option Addr) (cap : Nat) (w : World) :
    Calls Tryz.prog 70 #[.slice a 0 cap] w fun e w' => e = .returned (.slice a 0 cap) ∧ w' = w := Any.slices_Compact_int_empty Tryz.laysNm220 a cap w
end Go.Proofs
namespace Go.Proofs.YtomphgpplbekiaaGreat
open Go.RowKit Go.Sort Go.Shelf
attribute [local go_sem ↓] Go.wp_at_zero Go.wp_at_succ
attribute [local go_sem] Oper.semAt_some

def sortedL (zs : List Int) : List Int := zs.mergeSort fun x y => decide (x ≤ y)
theorem sortedL_len (zs : List Int) : (sortedL zs).length = zs.length := List.length_mergeSort zs
theorem sortedL_mem (zs : List Int) (x : Int) : x ∈ sortedL zs ↔ x ∈ zs := List.mem_mergeSort
theorem sort_row (w : World) (B : Nat) (v : Value) (zs : List Int) (h : RowI w B v zs) (hsz : zs.length ≤ 1000000000) :
    Calls Tryz.prog 69 #[v] w fun e w' => e = .returned (.tuple #[]) ∧ RowI w' B v (sortedL zs) ∧ Keeps (fun k => some k = v.ownBlock) w w' := by
  have h' := h
  obtain ⟨h1, ⟨rfl, h0⟩ | ⟨g, cap, cur, rfl, hB, hg, hc1, hc2, hc3, hc4⟩⟩ := h
  · obtain rfl : zs = [] := by simpa using h0
    refine (sort_0 w none 0).mono ?_
    rintro _ w1 ⟨rfl, rfl⟩
    exact ⟨rfl, by simpa [sortedL] using h', Keeps.refl _ _⟩
  · refine (Tryz.slices_Sort_int g 0 cap zs w (holds_of_blockI hg (by simpa using hc4)) (lt_of_block hg) (by omega)).mono ?_
    rintro _ w1 ⟨rfl, n, os, rfl⟩
    refine ⟨rfl, ?_, keeps_grown (grownBy_sortedI _) fun k e => by rw [show k = g from by simpa using e.symm]; rfl⟩
    have := ownsRow_sortedI (w := w) (n := n) (os := os) (ss := zs) (ts := sortedL zs) (cap := cap) (sortedL_len zs) hB hg hc1 hc2 (by simpa using hc3)
    unfold RowI
    rw [sortedL_len]
    exact this
theorem compact_row (w : World) (B : Nat) (v : Value) (zs : List Int) (h : RowI w B v zs) (hsz : zs.length ≤ 1000000000) :
    Calls Tryz.prog 70 #[v] w fun e w' => ∃ v', e = .returned v' ∧ IntSl w' v' (Lib.compact zs) ∧ Keeps (fun k => some k = v.ownBlock) w w' ∧ (∀ g, some g = v'.ownBlock → some g = v.ownBlock) := by
  obtain ⟨h1, ⟨rfl, h0⟩ | ⟨g, cap, cur, rfl, hB, hg, hc1, hc2, hc3, hc4⟩⟩ := h
  · obtain rfl : zs = [] := by simpa using h0
    refine (Tryz.slices_Compact_int_empty none 0 w).mono ?_
    rintro _ w1 ⟨rfl, rfl⟩
    exact ⟨_, rfl, ⟨none, 0, by simp [Lib.compact, Lib.compactUpTo], by simp [Lib.compact, Lib.compactUpTo], by simp, .inl (by simp [Lib.compact, Lib.compactUpTo])⟩, Keeps.refl _ _, fun _ h => h⟩
  · refine (Tryz.slices_Compact_int g 0 cap zs w (holds_of_blockI hg (by simpa using hc4)) (by omega) hc1).mono ?_
    rintro _ w1 ⟨rfl, q, rfl⟩
    have hl := Lib.compact_length_le zs
    obtain ⟨T, hT⟩ : ∃ T, Lib.compact zs ++ List.replicate (zs.length - (Lib.compact zs).length) 0 = T := ⟨_, rfl⟩
    have hlen : T.length = zs.length := by rw [← hT]; simp; omega
    have hrow := ownsRow_sortedI (w := w) (n := q) (os := #[]) (ss := zs) (ts := T) (cap := cap) hlen hB hg hc1 hc2 (by simpa using hc3)
    have hk := grownBy_sortedI (w := w) (g := g) (n := q) (os := #[]) T.toArray
    rw [grow_empty] at hrow hk
    rw [hT]
    have hlt : g < (putRow (Value.int .i64) (Sort.ahead w q) g 0 T.toArray).heap.size := by simpa [Sort.ahead] using lt_of_block hg
    generalize putRow (Value.int .i64) (Sort.ahead w q) g 0 T.toArray = W' at *
    refine ⟨_, rfl, ⟨some ⟨g, 0, none⟩, cap, rfl, by omega, hc2, ?_⟩, keeps_grown hk fun k e => by rw [show k = g from by simpa using e.symm]; rfl, fun _ h => h⟩
    refine .inr ⟨g, 0, rfl, hlt, fun j x hj => ?_⟩
    have hjl := (List.getElem?_eq_some_iff.1 hj).1
    have hrow' : RowI W' B (.slice (some ⟨g, 0, none⟩) T.length cap) T := by
      unfold RowI
      rw [hlen]
      exact hrow
    obtain ⟨g', cap', e, -, -, hcell⟩ := rowI_at hrow' (j := j) (x := x) (by rw [← hT, List.getElem?_append_left hjl]; exact hj)
    simp only [Value.slice.injEq, Option.some.injEq, Addr.mk.injEq] at e
    obtain ⟨⟨rfl, -, -⟩, -, -⟩ := e
    rw [Nat.zero_add]
    exact hcell
theorem compact_sub {zs : List Int} {x : Int} (h : x ∈ Lib.compact zs) : x ∈ zs := by
  unfold Lib.compact Lib.compactUpTo at h
  obtain ⟨j, hj, rfl⟩ := List.mem_map.1 h
  have hjl : j < zs.length := by simpa using (List.mem_filter.1 hj).1
  simp [hjl]
theorem rowI_join {u : World} {B : Nat} {v v2 : Value} {xs ys : List Int} (h : RowI u B v xs) (h2 : IntSl u v2 ys) (hl : (xs.length + ys.length) * 8 ≤ 140737488355328) (hB : B ≤ u.heap.size) :
    ∃ v' u', (Builtin.append_ #[34, 34] 34 #[v, v2]).run Tryz.prog u = .ok v' u' ∧ RowI u' B v' (xs ++ ys) ∧ Keeps (fun k => some k = v.ownBlock) u u' := by
  obtain ⟨i0, hi, hz0, hz1, hz2⟩ := info_of info_int
  obtain ⟨a, c, rfl, h1, hc, h3⟩ := h2
  by_cases hy : ys = []
  · subst hy
    refine ⟨v, u, ?_, by simpa using h, Keeps.refl _ _⟩
    simp only [List.length_nil]
    obtain ⟨-, ⟨rfl, h0⟩ | ⟨g, cap, cur, rfl, hB', hg, hc1, -⟩⟩ := h
    · cases a <;> go_simp
    · cases a <;> go_simp
  · rcases h3 with h3 | ⟨S, o, rfl, hS, h3⟩
    · exact absurd h3 hy
    · have hpos : 0 < ys.length := List.length_pos_iff.2 hy
      obtain ⟨g', cap, u', hap, h5, h6, h7, h8⟩ := run_append_lies (P := Tryz.prog) (w := u) 34 34 B 3 i0 _ 1 8 Tryz.underlying34 hi hz0 hz1 hz2 rfl (by decide) v xs.length (xs.map (Value.int .i64)) h
        ⟨S, o, none⟩ ys.length c (ys.map (Value.int .i64)) (by simp) (fun j z hz => by
          rw [List.getElem?_map] at hz
          obtain ⟨x, hx, rfl⟩ := Option.map_eq_some_iff.1 hz
          rw [Addr.add_lit]
          exact h3 j x hx) (by simp [Value.oneCell']) hpos (by simp [maxLen]; omega) hl hB _ rfl
      exact ⟨_, u', hap, by simpa [RowI] using h5, keeps_grown h6 fun k e => e.symm⟩
theorem rowI_apart {A : World} {B r : Nat} {v : Value} {xs : List Int} (h : RowI A B v xs) (hr : ∃ o : Obj, A.heap[r]? = some o ∧ o.isCells = false) : ∀ g, some g = v.ownBlock → ¬ g = r := fun g hg e => by
  subst e
  obtain ⟨o, ho, hc⟩ := hr
  obtain ⟨-, ⟨rfl, -⟩ | ⟨g', cap, cur, rfl, -, hg', -⟩⟩ := h
  · cases hg
  · obtain rfl : g = g' := Option.some.inj hg
    rw [ho] at hg'
    cases hg'
    cases hc
theorem rowI_cells {A : World} {B : Nat} {v : Value} {xs : List Int} (h : RowI A B v xs) : ∀ g, some g = v.ownBlock → ∃ C t f, A.heap[g]? = some (.cells C t f) := fun g hg => by
  obtain ⟨-, ⟨rfl, -⟩ | ⟨g', cap, cur, rfl, -, hg', -⟩⟩ := h
  · cases hg
  · obtain rfl : g = g' := Option.some.inj hg
    exact ⟨_, _, _, hg'⟩
/-- The frames of the blocks of some numbers, one behind the other. -/
def frsAt (l : List Fb) (j : Nat) : List Int := ((l[j]?).map (·.1.frs)).getD []
def frsL (l : List Fb) (pre : List Nat) : List Int := pre.flatMap (frsAt l)
theorem frsL_snoc (l : List Fb) (pre : List Nat) (x : Nat) : frsL l (pre ++ [x]) = frsL l pre ++ frsAt l x := by simp [frsL]
theorem frsL_len (l : List Fb) (b : Nat) (hb : ∀ x ∈ l, x.1.frs.length ≤ b) (pre : List Nat) : (frsL l pre).length ≤ pre.length * b := by
  induction pre with
  | nil => simp [frsL]
  | cons a pre ih =>
    have h1 : (frsAt l a).length ≤ b := by
      unfold frsAt
      cases hx : l[a]? with
      | none => simp
      | some x => exact hb x (List.mem_of_getElem? hx)
    simp only [frsL, List.flatMap_cons, List.length_append, List.length_cons] at ih ⊢
    rw [Nat.add_mul]
    omega
section
variable {w w' : World} {N cb : Nat} {R : RamAt} {M : List Int} {V : CV} {l : List Fb} {hi mi : Int}
attribute [local go_sem ↓] x_stKy x_stRw x_stLd x_stOu x_stRb x_stCd x_stBk x_stLk
attribute [local go_sem] st_Ky st_Rw st_Ld st_Ou st_Rb st_Cd st_Bk st_Lk ne_s1 en_s1 ne_s2 en_s2 ne_s3 en_s3 ne_s4 en_s4 ne_s5 en_s5 ne_s6 en_s6 ne_s7 en_s7 ne_s8 en_s8 lt_s2 lt_s3 lt_s4 lt_s5 lt_s6 lt_s7 lt_s8 rowAt_at rowAt_old rowAt_drew rowAt_drewN setRow_drew setRow_at setRow_old setRow_setRow rowAt_setRow_eq rowAt_setRow_ne cell_setRow_eq cell_setRow_ne frozen_setRow_eq frozen_setRow_ne ones_lit oc_int oc_bool oc_str oc_ptr oc_sl oc_map oc_fn oc_nf oc_ni oc_if
def framesV (l : List Fb) : List Int := Lib.compact (sortedL (frsL l (liveIdx l l.length)))
set_option maxRecDepth 100000 in
set_option maxHeartbeats 4000000 in
theorem cs_frames (h : IsCache w N cb R M V l hi mi) (hll : l.length ≤ 100) (hfr : ∀ x ∈ l, x.1.frs.length ≤ 1048576) :
    Calls Tryz.prog 34 #[.pointer (some ⟨cb, 0, none⟩)] w fun e w' => ∃ v, e = .returned v ∧ IntSl w' v (framesV l) ∧ Same w w' := by
  obtain ⟨p, cap, g, ebl, hp, hK0⟩ := h.rowsAt
  refine (callsIn_wide (n := 6)).1 ?_
  refine callsIn_of_wp_marks Tryz.func34 rfl trivial ?_ rfl
  simp only [Tryz.ntmps34, List.size_toArray, List.length_cons, List.length_nil, Nat.reduceAdd, Nat.reduceSub, Array.replicate_succ, Array.replicate_zero, List.push_toArray, List.append_toArray, List.nil_append, List.cons_append]
  have hfn : Fence.wide.fn 46 := trivial
  gi_wp2_with (gi_at_call 46; refine (callsIn_wide.2 (each_any _ _)).mono ?_; rintro e w' ⟨rfl, rfl⟩)
  have hb := block_old (.cells #[.pointer (some ⟨cb, 0, none⟩)] 23) (block_new w (.cells #[.slice none 0 0] 34))
  have hk := ((Keeps.refl (fun _ => False) w).alloc (.cells #[.slice none 0 0] 34)).alloc (.cells #[.pointer (some ⟨cb, 0, none⟩)] 23)
  have hc := (cell_of (block_atR (.cells #[.pointer (some ⟨cb, 0, none⟩)] 23) (by simp : (w.alloc (.cells #[.slice none 0 0] 34)).heap.size = w.heap.size + 1))) 0
  have HH := hidE h
  refine wpIn_range_rows rfl (by omega) (gf := 79) (lb := #[.pointer (some ⟨w.heap.size + 1, 0, none⟩)]) rfl trivial (enters_of Tryz.func79 (by kernel_rfl) rfl)
    (each1_any 5 (by omega) (w.heap.size + 1) _ (by simp) hc (h.same hk) g p cap ebl hp (by omega) (h.same hk).fb) (fun x => rfl)
    (fun pre W => ∃ v, W.heap[w.heap.size]? = some (.cells #[v] 34 (0, 0)) ∧ RowI W w.heap.size v (frsL l pre) ∧ v.oneCell' = true ∧ Same w W ∧ w.heap.size + 2 ≤ W.heap.size ∧ UpTo pre)
    (own_of (fun s A B r h1 h2 h3 h4 => by
      obtain ⟨v, a1, a2, a3, a4, a5, a6⟩ := h1
      exact ⟨v, h4.get a1 (not_cells a1 h3), owns_apart a2 h4 (rowI_apart a2 h3), a3, same_new a4 h4 (fun k e => by subst e; simp at h2; omega), Nat.le_trans a5 h4.size, a6⟩) (fun s A B h1 h2 => by
      obtain ⟨v, a1, a2, a3, a4, a5, a6⟩ := h1
      exact ⟨v, h2.get a1 id, owns_apart a2 h2 (fun _ _ => id), a3, a4.trans h2, Nat.le_trans a5 h2.size, a6⟩))
    ⟨_, hb, World.ownsRow_nil _ _ _ _, rfl, hk, by simp, UpTo.nil⟩
    (fun pre W ⟨v, a1, a2, a3, a4, hge, hpl⟩ j x hj _ i u hu => cell_same1 a4 (hK0 j x hj (fun m hm => by cases hm) i u hu))
    (fun x a' W => ∃ b y, l[x]? = some y ∧ w.heap.size + 2 ≤ b ∧ W.heap[b]? = some (.cells #[.int .u32 y.1.k1, .int .u32 y.1.k2, .int .i64 y.1.pos, y.2.bv, y.2.rv, .int .i64 y.1.fin, y.2.fv, .bool false] 112 (0, 0)) ∧ a' = { tmps := #[.pointer (some ⟨cb, 0, none⟩), undef, .slice none 0 0, .pointer (some ⟨w.heap.size, 0, none⟩), undef, .pointer (some ⟨b, 0, none⟩), .pointer (some ⟨cb, 0, none⟩), .func (.func 79) #[] #[.pointer (some ⟨w.heap.size + 1, 0, none⟩)], .int .i64 (x : Int), .agg #[.int .u32 y.1.k1, .int .u32 y.1.k2, .int .i64 y.1.pos, y.2.bv, y.2.rv, .int .i64 y.1.fin, y.2.fv, .bool false], undef, undef, undef, undef, undef, undef, undef, undef], defers := [] })
    (fun x a' => own_ofB (fun _ A B r h1 h2 h3 h4 => by
      obtain ⟨b, y, hy, hb, hB, e⟩ := h1
      exact ⟨b, y, hy, hb, h4.get hB (not_cells hB h3), e⟩) (fun _ A B h1 h2 => by
      obtain ⟨b, y, hy, hb, hB, e⟩ := h1
      exact ⟨b, y, hy, hb, h2.get hB id, e⟩)) ?assign ?body ?done
  case assign =>
    rintro li pre x W K ⟨v, a1, a2, a3, a4, hge, hpl⟩ ⟨⟨y, hy, hlv⟩, hlt⟩ hK
    obtain ⟨o1, o2, o3⟩ := (h.fb y (List.mem_of_getElem? hy)).ones
    simp only [encI, laidAt, hy, Option.map_some, Option.getD_some, laidV, hlv, Bool.not_true] at hK ⊢
    have hz := a4.size
    have k1 := (Keeps.refl (fun _ => False) W).alloc (.cells #[.int .u32 y.1.k1, .int .u32 y.1.k2, .int .i64 y.1.pos, y.2.bv, y.2.rv, .int .i64 y.1.fin, y.2.fv, .bool false] 112)
    have hzz : w.heap.size + 2 ≤ W.heap.size := hge
    clear h HH
    gi_wp2
    exact hK _ _ (keepsFrom_of k1 (fun _ h => h.elim)) ⟨v, k1.get a1 id, owns_apart a2 k1 (fun _ _ => id), a3, a4.trans k1, Nat.le_trans hge k1.size, hpl⟩ ⟨W.heap.size, y, (by first | exact hy | rfl), hzz, block_new _ _, rfl⟩
  case body =>
    rintro li pre x a' W ⟨v, a1, a2, a3, a4, hge, hpl⟩ ⟨_, hlt⟩ ⟨b, y, hy, hb, hB, rfl⟩
    have c1 := cell_of a1
    have f1 := frozen_of a1
    have cB := cell_of hB
    have hz := a4.size
    have hxl : x < l.length := (List.getElem?_eq_some_iff.1 hy).1
    have hlen : pre.length ≤ x := hpl x hlt
    have hym := List.mem_of_getElem? hy
    have hfx : frsAt l x = y.1.frs := by unfold frsAt; rw [hy]; rfl
    have hflen := frsL_len l 1048576 hfr pre
    have hfl2 := hfr y hym
    have hfm : pre.length * 1048576 ≤ 100 * 1048576 := Nat.mul_le_mul_right _ (by omega)
    obtain ⟨v', w2, hr2, h3, h4⟩ := rowI_join a2 ((h.fb y hym).f.keeps a4 (fun _ _ => id)) (by omega) (by omega)
    obtain ⟨pv, cv, ev⟩ := rowI_sl a2
    obtain ⟨p2, c2, ev2⟩ := rowI_sl h3
    subst ev
    subst ev2
    obtain ⟨fa, fc, efv, -⟩ := (h.fb y hym).f
    rw [efv] at hr2 cB
    have H3 := hidE h3
    have H4 := hidE h4
    have A2 := hidE a2
    have A1 := hidE a1
    have b3 := h4.get a1 (fun e => ne_tg (tg_own a2 _ e) (tg_cells a1) (by decide) rfl)
    have B3 := hidE b3
    have c3 := cell_of b3
    have f3 := frozen_of b3
    clear h3 h4 h HH b3 a1 a2
    gi_wp2_with (gi_at_builtin; go_loud (refine wpListIn_app rfl (.tmp 10) (.tmp 12) 34 rfl rfl rfl hr2 ?_; clear hr2))
    have kall := (H4.out.mono (G := fun k => some k = (Value.slice pv (frsL l pre).length cv).ownBlock ∨ k = w.heap.size) (fun _ _ h => .inl h)).setCell (p := ⟨w.heap.size, 0, none⟩) (fun _ => .inr rfl) (.slice p2 ((frsL l pre).length + y.1.frs.length) c2)
    refine ⟨keepsFrom_of kall (fun b e hb => ?_), .slice p2 ((frsL l pre).length + y.1.frs.length) c2, block_set B3.out 0 _, ?_, rfl, same_then a4 kall (fun k e => ?_), Nat.le_trans hge (by simpa using kall.size), hpl.snoc hlt⟩
    · rcases e with e | e
      · exact rowI_cells A2.out b e
      · omega
    · have H3 := H3.out
      rw [List.length_append] at H3
      have h9 := owns_apart H3 ((Keeps.refl (fun k => k = w.heap.size) w2).setCell (p := ⟨w.heap.size, 0, none⟩) (fun _ => rfl) (.slice p2 ((frsL l pre).length + y.1.frs.length) c2)) (fun g hg => ne_tg (tg_own H3 g hg) (tg_cells B3.out) (by decide))
      rw [frsL_snoc, hfx]
      unfold RowI
      exact h9
    · rcases e with e | e
      · exact (rowI_lt A2.out k e).1
      · omega
  case done =>
    rintro D xs W hD rfl ⟨v, a1, a2, a3, a4, hge, hpl⟩ hK
    have c1 := cell_of a1
    have hf1 : Fence.wide.fn 69 := trivial
    have hf2 : Fence.wide.fn 70 := trivial
    have hli := liveIdx_le l l.length
    have hlb : (frsL l (liveIdx l l.length)).length ≤ 1000000000 := by
      have h1 := frsL_len l 1048576 hfr (liveIdx l l.length)
      have h2 : (liveIdx l l.length).length * 1048576 ≤ 100 * 1048576 := Nat.mul_le_mul_right _ (by omega)
      omega
    have hDs : D ≠ w.heap.size := by simp at hD; omega
    gi_wp2_with (first | (gi_at_call 69; refine (callsIn_wide.2 (sort_row _ w.heap.size _ _ a2 hlb)).mono ?_; rintro _ w1 ⟨rfl, hs1, hks⟩; have b1 := hks.get a1 (fun e => ne_tg (tg_own a2 _ e) (tg_cells a1) (by decide) rfl); have c2 := cell_of b1; have hK1 := hks.get hK (fun e => rowI_apart a2 ⟨_, hK, rfl⟩ D e rfl)) | (gi_at_call 70; refine (callsIn_wide.2 (compact_row _ w.heap.size _ _ hs1 (by rw [sortedL_len]; exact hlb))).mono ?_; rintro _ w2 ⟨v', rfl, h9, hk9, ho9⟩))
    have hK2 := hk9.get hK1 (fun e => rowI_apart hs1 ⟨_, hK1, rfl⟩ D e rfl)
    have hS : Same w w2 := same_then (same_then a4 hks (fun k e => (rowI_lt a2 k e).1)) hk9 (fun k e => (rowI_lt hs1 k e).1)
    refine ⟨by simp, .inl ⟨_, _, rfl, run_takeDeferred hK2, ?_⟩⟩
    refine ⟨_, results_tmp rfl _ _ _, _, rfl, ?_, ?_⟩
    · exact h9.keeps (keeps_grown (F := fun k => k = D) (grownBy_putObj' w2 D _) fun k e => by cases e; rfl) (fun g hg e => rowI_apart hs1 ⟨_, hK1, rfl⟩ g (ho9 g hg) e)
    · exact same_put hS (by simp at hD; omega) hK2
end
end Go.Proofs.YtomphgpplbekiaaGreat
