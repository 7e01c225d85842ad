/- sort.Search; rows.Last, Find, Exits. rows.Exits; rows.Find; slices.Clone and Contains of ints; an element behind a row, as a run. -/
import Derived.Test.YtomphgpplbekiaaGreatRowX
import Derived.Test.YtomphgpplbekiaaGreatRamL
import Derived.LoopTactic
import Derived.Shelf.Abstract
import Derived.Test.YtomphgpplbekiaaGreatCm
namespace Go.Proofs.YtomphgpplbekiaaGreat
open Go.RowKit Go.Shelf
attribute [local go_sem ↓] Go.wp_at_zero Go.wp_at_succ

set_option maxRecDepth 100000 in
set_option maxHeartbeats 2000000 in
/-- sort.Search over a question that turns to yes and stays so. -/
theorem search_any (f : Nat) (cap : Array Value) (eg : ∀ args w, (callFunc f args).run Tryz.prog w = .ok (.enter f args) w) (w : World) (n : Nat) (hn : n ≤ 1000000) (p : Nat → Bool) (hp : ∀ i j, i ≤ j → j < n → p i = true → p j = true)
    (hf : ∀ u, Same w u → ∀ k : Nat, k < n → Calls Tryz.prog f (#[.int .i64 (k : Int)] ++ cap) u fun e u' => e = .returned (.bool (p k)) ∧ Same u u') :
    Calls Tryz.prog 52 #[.int .i64 (n : Int), .func (.func f) #[] cap] w fun e w' => ∃ r : Nat, r ≤ n ∧ e = .returned (.int .i64 (r : Int)) ∧ (∀ k, k < r → p k = false) ∧ (∀ k, r ≤ k → k < n → p k = true) ∧ Same w w' := by
  have HF := hidE hf
  have HP := hidE hp
  clear hf hp
  go_enter Tryz.func52, Tryz.ntmps52
  go_wp2_with fail
  go_loopw [5, 6] (fun t5 t6 wr => ∃ i j : Nat, i ≤ j ∧ j ≤ n ∧ t5 = .int .i64 (i : Int) ∧ t6 = .int .i64 (j : Int) ∧ (∀ k, k < i → p k = false) ∧ (∀ k, j ≤ k → k < n → p k = true) ∧ Same w wr) (fun t5 t6 _ => (intOf t6).toNat - (intOf t5).toNat)
  case atStart => exact ⟨0, n, by omega, by omega, rfl, rfl, fun k hk => by omega, fun k h1 h2 => by omega, Keeps.refl _ _⟩
  case round =>
    obtain ⟨i, j, hij, hjn, rfl, rfl, h1, h2, h3⟩ := hrel
    have H1 := hidE h1
    have H2 := hidE h2
    have H3 := hidE h3
    clear h1 h2 h3
    by_cases hlt : i < j
    · have q0 : decide ((i : Int) < (j : Int)) = true := by simp; omega
      obtain ⟨m, hm⟩ : ∃ m : Nat, m = (i + j) / 2 := ⟨_, rfl⟩
      have e1 : ((i : Int) + j) / 2 = (m : Nat) := by omega
      have e0 := wrapI ((i : Int) + j) (by omega) (by omega)
      have e2 : IntKind.u64.wrap ((i : Int) + j) = (i : Int) + j := by simp [IntKind.wrap, IntKind.bits, IntKind.signed]; omega
      have e3 := wrapI (m : Int) (by omega) (by omega)
      have hmn : m < n := by omega
      have e4 := wrapI ((m : Int) + 1) (by omega) (by omega)
      have HM := hidE hm
      clear hm
      go_wp2_with fail
      refine (HF.out _ H3.out m hmn).mono ?_
      rintro _ w1 ⟨rfl, hk⟩
      have HK := hidE (H3.out.trans hk)
      clear hk
      cases hpm : p m
      · go_wp2
        refine ⟨⟨m + 1, j, by have := HM.out; omega, hjn, by go_num, rfl, fun k hk => ?_, H2.out, HK.out⟩, by have := HM.out; simp only [intOf]; omega⟩
        cases hpk : p k
        · rfl
        · rw [← hpm]
          exact (HP.out k m (by omega) hmn hpk).symm
      · go_wp2
        refine ⟨⟨i, m, by have := HM.out; omega, by omega, rfl, rfl, H1.out, fun k hk hkn => HP.out m k hk hkn hpm, HK.out⟩, by have := HM.out; simp only [intOf]; omega⟩
    · obtain rfl : i = j := by omega
      have q0 : decide ((i : Int) < (i : Int)) = false := by simp
      go_wp2
      go_ret
      exact ⟨i, hjn, rfl, H1.out, H2.out, H3.out⟩
def rowV (r : Rw) : Value := .agg #[.int .i64 r.off, .int .u32 r.pc, .int .i64 r.dn, .int .i64 r.ex]
def row0 : Rw := ⟨0, 0, 0, 0⟩
def RiseR (rs : List Rw) : Prop := rs.Pairwise (fun a b => a.off < b.off)
theorem riseR_at {rs : List Rw} (h : RiseR rs) {i j : Nat} {a b : Rw} (hi : rs[i]? = some a) (hj : rs[j]? = some b) (hlt : i < j) : a.off < b.off := by
  have h1 := (List.getElem?_eq_some_iff.1 hi).1
  have h2 := (List.getElem?_eq_some_iff.1 hj).1
  have h3 := List.pairwise_iff_getElem.1 h i j h1 h2 hlt
  rw [(List.getElem?_eq_some_iff.1 hi).2, (List.getElem?_eq_some_iff.1 hj).2] at h3
  exact h3
theorem rowsR_cells {w : World} {B : Nat} {v : Value} {rs : List Rw} (h : RowR w B v rs) {k : Nat} {r : Rw} (hk : rs[k]? = some r) : ∃ g c, v = .slice (some ⟨g, 0, none⟩) rs.length c ∧ rs.length ≤ c ∧ ∀ i x, (rwC r)[i]? = some x → w.cell? ⟨g, k * 4 + i, none⟩ = some x := by
  have hX : RowX w B 49 4 v (rs.map rwC) := ⟨by simpa [RowR, rwsC, List.flatMap] using h, by simp [rwC]⟩
  obtain ⟨g, cap, e, h1, -, -, -, h2, -⟩ := hX.at_ (j := k) (c := rwC r) (by simp [hk])
  exact ⟨g, cap, by simpa using e, by simpa using h1, h2⟩
set_option maxRecDepth 100000 in
theorem behind1_any (w : World) (B : Nat) (v : Value) (rs : List Rw) (h : RowR w B v rs) (off : Int) (b1 b2 : Nat) (h1 : w.heap[b1]? = some (.cells #[v] 58 (0, 0))) (h2 : w.heap[b2]? = some (.cells #[.int .i64 off] 3 (0, 0))) (k : Nat) (r : Rw) (hk : rs[k]? = some r) :
    Calls Tryz.prog 129 #[.int .i64 (k : Int), .pointer (some ⟨b1, 0, none⟩), .pointer (some ⟨b2, 0, none⟩)] w fun e w' => e = .returned (.bool (decide (off < r.off))) ∧ Same w w' := by
  obtain ⟨g, c, rfl, hc, hcell⟩ := rowsR_cells h hk
  have hlt : k < rs.length := (List.getElem?_eq_some_iff.1 hk).1
  have c0 := hcell 0 _ rfl
  have d1 := cell_of h1
  have d2 := cell_of h2
  simp only [Nat.add_zero] at c0
  have n0 : (k : Int) < (rs.length : Int) := by omega
  go_enter Tryz.func129, Tryz.ntmps129
  go_wp2_with fail
  go_quiet (fail)
  go_wp2
  go_ret
  exact ⟨rfl, (Keeps.refl _ _).drewN _⟩
set_option maxRecDepth 100000 in
theorem behind_any (w : World) (B : Nat) (v : Value) (rs : List Rw) (h : RowR w B v rs) (hr : RiseR rs) (hl : rs.length ≤ 100000) (off : Int) :
    Calls Tryz.prog 108 #[v, .int .i64 off] w fun e w' => ∃ n : Nat, n ≤ rs.length ∧ e = .returned (.int .i64 (n : Int)) ∧ (∀ k r, rs[k]? = some r → k < n → r.off ≤ off) ∧ (∀ k r, rs[k]? = some r → n ≤ k → off < r.off) ∧ Same w w' := by
  obtain ⟨p, c, rfl⟩ := owns_slice h
  have k0 := ((Keeps.refl (fun _ => False) w).alloc (.cells #[.slice p rs.length c] 58)).alloc (.cells #[.int .i64 off] 3)
  have b1 := block_old (.cells #[.int .i64 off] 3) (block_new w (.cells #[.slice p rs.length c] 58))
  have b2 := block_atR (.cells #[.int .i64 off] 3) (by simp : (w.alloc (.cells #[.slice p rs.length c] 58)).heap.size = w.heap.size + 1)
  have HS := hidE (search_any 129 #[.pointer (some ⟨w.heap.size, 0, none⟩), .pointer (some ⟨w.heap.size + 1, 0, none⟩)] (enters_of Tryz.func129 (by kernel_rfl) rfl) _ rs.length (by omega) (fun k => decide (off < (rs.getD k row0).off)) (fun i j hij hj hp => by
      simp only [decide_eq_true_eq] at hp ⊢
      rcases Nat.lt_or_eq_of_le hij with h1 | h1
      · have := riseR_at hr (List.getElem?_eq_getElem (show i < rs.length by omega)) (List.getElem?_eq_getElem hj) h1
        simp only [List.getD_eq_getElem?_getD, List.getElem?_eq_getElem hj, List.getElem?_eq_getElem (show i < rs.length by omega), Option.getD_some] at hp ⊢
        omega
      · subst h1; exact hp)
    (fun u hu k hk => by
      have := behind1_any u B _ rs (owns_apart h (k0.trans hu) (fun _ _ => id)) off w.heap.size (w.heap.size + 1) (hu.get b1 id) (hu.get b2 id) k rs[k] (List.getElem?_eq_getElem hk)
      have e : rs.getD k row0 = rs[k] := by simp [hk]
      simp only [e]
      exact this))
  have c1 := cell_of b1
  have HK := hidE k0
  clear b1 b2 k0 h hr
  go_enter Tryz.func108, Tryz.ntmps108
  go_wp2_with fail
  refine HS.out.mono ?_
  rintro _ w1 ⟨n, hn, rfl, h1, h2, hk⟩
  have HK1 := hidE (HK.out.trans hk)
  clear hk
  have H1 := hidE h1
  have H2 := hidE h2
  clear h1 h2
  go_wp2
  go_ret
  refine ⟨n, hn, rfl, fun k r hk hkn => ?_, fun k r hk hkn => ?_, HK1.out⟩
  · have := H1.out k hkn
    simp only [List.getD_eq_getElem?_getD, hk, Option.getD_some, decide_eq_false_iff_not] at this
    omega
  · have := H2.out k hkn (List.getElem?_eq_some_iff.1 hk).1
    simpa only [List.getD_eq_getElem?_getD, hk, Option.getD_some, decide_eq_true_eq] using this
end Go.Proofs.YtomphgpplbekiaaGreat
namespace Go.Proofs.YtomphgpplbekiaaGreat
open Go.RowKit
attribute [local go_sem ↓] Go.wp_at_zero Go.wp_at_succ

theorem rowX_of {w : World} {B : Nat} {v : Value} {rs : List Rw} (h : RowR w B v rs) : RowX w B 49 4 v (rs.map rwC) := ⟨by simpa [RowR, rwsC, List.flatMap] using h, by simp [rwC]⟩
theorem rowX_to {w : World} {B : Nat} {v : Value} {rs : List Rw} (h : RowX w B 49 4 v (rs.map rwC)) : RowR w B v rs := by simpa [RowR, rwsC, List.flatMap] using h.own
theorem rowR_push {w : World} {B : Nat} {v : Value} {rs : List Rw} (h : RowR w B v rs) (r : Rw) (hl : rs.length ≤ 10000) (hB : B ≤ w.heap.size) :
    ∃ g cap w', (Builtin.append_ #[58, 58] 58 #[v, .slice (some ⟨w.heap.size, 0, none⟩) 1 1]).run Tryz.prog (w.alloc (.cells #[.int .i64 r.off, .int .u32 r.pc, .int .i64 r.dn, .int .i64 r.ex] 49)) = .ok (.slice (some ⟨g, 0, none⟩) (rs.length + 1) cap) w' ∧
      RowR w' B (.slice (some ⟨g, 0, none⟩) (rs.length + 1) cap) (rs ++ [r]) ∧ Keeps (fun k => some k = v.ownBlock) w w' := by
  have hX := (rowX_of h).keeps ((Keeps.refl (fun _ => False) w).alloc (.cells #[.int .i64 r.off, .int .u32 r.pc, .int .i64 r.dn, .int .i64 r.ex] 49)) (fun _ _ => id)
  obtain ⟨g, cap, w', hr, h2, h3⟩ := hX.push (P := Tryz.prog) 58 _ 32 Tryz.underlying58 row_info (by rfl) (by decide) (by decide) (rwC r) rfl (by simp [rwC, Value.oneCell']) w.heap.size 1 (block_new _ _) rfl (by simp; omega) (by simp; omega)
  simp only [List.length_map] at hr h2 h3
  refine ⟨g, cap, w', hr, rowX_to (by simpa using h2), ?_⟩
  exact (((Keeps.refl (fun _ => False) w).alloc _).mono fun _ _ h => h.elim).trans h3.keeps
theorem exits1_any (w : World) (r : Rw) : Calls Tryz.prog 81 #[.agg #[.int .i64 r.off, .int .u32 r.pc, .int .i64 r.dn, .int .i64 r.ex]] w fun e w' => e = .returned (.bool (decide (0 ≤ r.ex))) ∧ Same w w' := by
  go_enter Tryz.func81, Tryz.ntmps81
  go_wp2_with fail
  go_ret
  exact ⟨rfl, (Keeps.refl _ _).alloc _⟩
theorem exL_snoc (rs : List Rw) (r : Rw) : exL (rs ++ [r]) = exL rs ++ (if 0 ≤ r.ex then [r] else []) := by
  unfold exL
  rw [List.filter_append]
  by_cases h : 0 ≤ r.ex
  · rw [if_pos h]; simp [h]
  · rw [if_neg h]; simp [h]
theorem exL_le (rs : List Rw) : (exL rs).length ≤ rs.length := List.length_filter_le _ _
set_option maxRecDepth 100000 in
set_option maxHeartbeats 1000000 in
theorem kept_any (w : World) (B : Nat) (v : Value) (rs : List Rw) (h : RowR w B v rs) (hl : rs.length ≤ 5000) :
    Calls Tryz.prog 80 #[v, .func (.func 81) #[] #[]] w fun e w' => ∃ v', e = .returned v' ∧ RowR w' w.heap.size v' (exL rs) ∧ Same w w' := by
  obtain ⟨p, c, rfl⟩ := owns_slice h
  have HR := hidE h
  clear h
  go_enter Tryz.func80, Tryz.ntmps80
  go_wp2_with fail
  go_loopw [5, 10] (fun t5 t10 wr => ∃ (k : Nat) (v' : Value), k ≤ rs.length ∧ t10 = .int .i64 (k : Int) ∧ t5 = v' ∧ RowR wr w.heap.size v' (exL (rs.take k)) ∧ Same w wr) (fun _ t10 _ => (rs.length - intOf t10).toNat)
  case atStart => exact ⟨0, _, by omega, rfl, rfl, World.ownsRow_nil _ _ _ _, Keeps.refl _ _⟩
  case round =>
    obtain ⟨k, v', hk, rfl, rfl, h1, h2⟩ := hrel
    have HW := hidE h2
    have HV := hidE h1
    obtain ⟨p', c', rfl⟩ := owns_slice h1
    clear h1 h2
    by_cases hlt : k < rs.length
    · have q0 : decide ((k : Int) < (rs.length : Int)) = true := decide_eq_true (by omega)
      have q1 : (k : Int) < (rs.length : Int) := by omega
      have e1 := wrapI ((k : Int) + 1) (by omega) (by omega)
      obtain ⟨r, hr⟩ : ∃ r, rs[k]? = some r := ⟨_, List.getElem?_eq_getElem hlt⟩
      have het : rs.take (k + 1) = rs.take k ++ [r] := by rw [List.take_add_one, hr]; rfl
      obtain ⟨g, c2, e, n1, hc⟩ := rowsR_cells (owns_apart HR.out HW.out (fun _ _ => id)) hr
      cases e
      have a0 := hc 0 _ rfl
      have a1 := hc 1 _ rfl
      have a2 := hc 2 _ rfl
      have a3 := hc 3 _ rfl
      simp only [Nat.add_zero] at a0
      clear hc
      go_wp2_with fail
      refine (exits1_any _ r).mono ?_
      rintro _ w1 ⟨rfl, hk1⟩
      have HK1 := hidE (((Keeps.refl (fun _ => False) wr).alloc _).trans hk1)
      have b7 := hk1.get (block_new wr (.cells #[.int .i64 r.off, .int .u32 r.pc, .int .i64 r.dn, .int .i64 r.ex] 49)) id
      have c7 := cell_of b7
      clear a0 a1 a2 a3 hk1 b7
      by_cases hx : 0 ≤ r.ex
      · have q2 : decide (0 ≤ r.ex) = true := decide_eq_true hx
        have hlen := exL_le (rs.take k)
        rw [List.length_take] at hlen
        have hz := HK1.out.size
        have hz2 := HW.out.size
        obtain ⟨g2, cap2, w2, hr2, h3, h4⟩ := rowR_push (owns_apart HV.out HK1.out (fun _ _ => id)) r (by omega) (by omega)
        have H3 := hidE h3
        have HV' := hidE (owns_apart HV.out HK1.out (fun _ _ => id))
        have H4 := hidE (same_then (HW.out.trans HK1.out) h4 (fun k e => ((rowX_of HV'.out).lt k e).1))
        clear h3 h4 hz hz2 hlen
        go_wp2_with (at_builtin; refine wpList_app rfl (.tmp 17) (.tmp 19) 58 rfl rfl rfl hr2 ?_; clear hr2)
        refine ⟨⟨k + 1, _, by omega, by simp, rfl, ?_, H4.out⟩, by simp only [intOf]; omega⟩
        rw [het, exL_snoc, if_pos hx]
        exact H3.out
      · have q2 : decide (0 ≤ r.ex) = false := decide_eq_false hx
        go_wp2_with fail
        refine ⟨⟨k + 1, _, by omega, by simp, rfl, ?_, HW.out.trans HK1.out⟩, by simp only [intOf]; omega⟩
        rw [het, exL_snoc, if_neg (by omega), List.append_nil]
        exact owns_apart HV.out HK1.out (fun _ _ => id)
    · obtain rfl : k = rs.length := by omega
      have q0 : decide ((rs.length : Int) < (rs.length : Int)) = false := by simp
      go_wp2
      go_ret
      exact ⟨_, rfl, by simpa using HV.out, HW.out⟩
theorem exits_any (w : World) (B : Nat) (v : Value) (rs : List Rw) (h : RowR w B v rs) (hl : rs.length ≤ 5000) :
    Calls Tryz.prog 48 #[v] w fun e w' => ∃ v', e = .returned v' ∧ RowR w' w.heap.size v' (exL rs) ∧ Same w w' := by
  have HK := hidE (kept_any w B v rs h hl)
  clear h
  go_enter Tryz.func48, Tryz.ntmps48
  go_wp2_with fail
  refine HK.out.mono ?_
  rintro _ w1 ⟨v', rfl, h1, h2⟩
  have H1 := hidE h1
  have H2 := hidE h2
  obtain ⟨p, c, rfl⟩ := owns_slice h1
  clear h1 h2
  go_wp2
  go_ret
  exact ⟨_, rfl, H1.out, H2.out⟩
/-- What kind of block it is. -/
def tg (w : World) (k : Nat) : Option (Option TypeId) := (w.heap[k]?).map fun
  | .cells _ t _ => some t
  | _ => none
theorem tg_cells {w : World} {k : Nat} {A : Array Value} {t : TypeId} {f : Nat × Nat} (h : w.heap[k]? = some (.cells A t f)) : tg w k = some (some t) := by simp [tg, h]
theorem tg_map {w : World} {k : Nat} {es : Array MapEntry} {c : Nat} (h : w.heap[k]? = some (.map es c)) : tg w k = some none := by simp [tg, h]
theorem ne_tg {w : World} {a b : Nat} {x y : Option TypeId} (ha : tg w a = some x) (hb : tg w b = some y) (h : x ≠ y) : a ≠ b := fun e => by
  subst e
  rw [ha] at hb
  exact h (Option.some.inj hb)
theorem tg_own {w : World} {B : Nat} {e : TypeId} {s n : Nat} {v : Value} {xs : List Value} (h : w.ownsRow B e s v n xs) : ∀ k, some k = v.ownBlock → tg w k = some (some e) := fun k hk => by
  obtain ⟨-, ⟨rfl, h0⟩ | ⟨g, cap, cur, rfl, hB, hg, -⟩⟩ := h
  · cases hk
  · obtain rfl : k = g := Option.some.inj hk
    exact tg_cells hg
theorem tg_keeps {F : Nat → Prop} {w w' : World} (k : Keeps F w w') {g : Nat} {x : Option TypeId} (h : tg w g = some x) (hg : ¬ F g) : tg w' g = some x := by
  have hlt : g < w.heap.size := by
    rcases Nat.lt_or_ge g w.heap.size with h' | h'
    · exact h'
    · simp [tg, Array.getElem?_eq_none h'] at h
  unfold tg at *
  rw [k.block g hlt hg, h]
theorem info_int : (Tryz.prog.info? 3).map (fun i => (i.zero, i.size, i.bytes)) = some (some (.int .i64 0), 1, 8) := by kernel_rfl
theorem intSl_new {w : World} {B : Nat} {v : Value} {xs : List Int} (h : RowI w B v xs) : IntSl w v xs := by
  obtain ⟨-, ⟨rfl, h0⟩ | ⟨g, cap, cur, rfl, hB, hg, hc1, hc2, hc3, hc4⟩⟩ := h
  · exact ⟨none, 0, by rw [h0], by omega, by simp, .inl (List.length_eq_zero_iff.1 h0)⟩
  · refine ⟨_, cap, rfl, hc1, hc2, .inr ⟨g, 0, rfl, lt_of_block hg, fun j x hj => ?_⟩⟩
    have hlt : j < xs.length := (List.getElem?_eq_some_iff.1 hj).1
    rw [Nat.zero_add, cell_of hg]
    have := congrArg (fun l => l[j]?) hc4
    simp only [List.getElem?_take, List.getElem?_map] at this
    rw [if_pos (by omega), hj] at this
    simpa using this
theorem rowI_push {u : World} {B : Nat} {v : Value} {xs : List Int} (h : RowI u B v xs) (g : Nat) (y : Int) (hg : u.heap[g]? = some (.cells #[.int .i64 y] 3 (0, 0))) (hl : xs.length ≤ 1000000) (hB : B ≤ u.heap.size) :
    ∃ g' cap u', (Builtin.append_ #[34, 34] 34 #[v, .slice (some ⟨g, 0, none⟩) 1 1]).run Tryz.prog u = .ok (.slice (some ⟨g', 0, none⟩) (xs.length + 1) cap) u' ∧ RowI u' B (.slice (some ⟨g', 0, none⟩) (xs.length + 1) cap) (xs ++ [y]) ∧ Keeps (fun k => some k = v.ownBlock) u u' ∧ (some g' = v.ownBlock ∨ g' = u.heap.size) := by
  obtain ⟨i0, hi, hz0, hz1, hz2⟩ := info_of info_int
  obtain ⟨g', cap, u', hap, h5, h6, h7, h8⟩ := run_append_lies (P := Tryz.prog) (w := u) 34 34 B 3 i0 _ 1 8 Tryz.underlying34 hi hz0 hz1 hz2 rfl (by decide) v xs.length (xs.map (Value.int .i64)) h
    ⟨g, 0, none⟩ 1 1 [.int .i64 y] rfl (World.news_of_block hg) (by simp [Value.oneCell']) (by omega) (by simp [maxLen]; omega) (by omega) hB _ rfl
  exact ⟨g', cap, u', hap, by simpa [RowI] using h5, keeps_grown h6 fun k e => e.symm, h7.elim (fun e => .inl e.symm) .inr⟩
set_option maxRecDepth 100000 in
/-- slices.Clone of ints. -/
theorem clone_any (w : World) (v : Value) (xs : List Int) (h : IntSl w v xs) (hl : xs.length * 8 ≤ 140737488355328) :
    Calls Tryz.prog 74 #[v] w fun e w' => ∃ v', e = .returned v' ∧ IntSl w' v' xs ∧ Same w w' ∧ (∀ k, some k = v'.ownBlock → w.heap.size ≤ k ∧ k < w'.heap.size ∧ tg w' k = some (some 3)) := by
  obtain ⟨a, c, rfl, h1, h2, h3⟩ := h
  have hmax : maxLen = 9223372036854775807 := rfl
  cases a with
  | none =>
    have hx : xs = [] := by
      rcases h3 with h3 | ⟨S, o, e, -⟩
      · exact h3
      · cases e
    subst hx
    have hr : ∀ w, (binOp .eql 34 (.slice none 0 c) (.slice none 0 0)).run Tryz.prog w = .ok (.bool true) w := fun _ => by kernel_rfl
    simp only [List.length_nil]
    go_enter Tryz.func74, Tryz.ntmps74
    go_wp2_with fail
    go_ret
    exact ⟨_, rfl, ⟨none, 0, rfl, by simp, by simp, .inl rfl⟩, Keeps.refl _ _, fun k e => by cases e⟩
  | some a =>
    have hr : ∀ w, (binOp .eql 34 (.slice (some a) xs.length c) (.slice none 0 0)).run Tryz.prog w = .ok (.bool false) w := fun _ => by kernel_rfl
    have own0 : (w.alloc (.cells #[] 3)).ownsRow w.heap.size 3 1 (.slice (some ⟨w.heap.size, 0, none⟩) 0 0) 0 [] := ⟨rfl, .inr ⟨w.heap.size, 0, #[], rfl, Nat.le_refl _, block_new _ _, by omega, by omega, rfl, rfl⟩⟩
    have hk0 := (Keeps.refl (fun _ => False) w).alloc (.cells #[] 3)
    by_cases hx : xs.length = 0
    · have hx0 : xs = [] := List.length_eq_zero_iff.1 hx
      subst hx0
      simp only [List.length_nil] at *
      have hap : (Builtin.append_ #[34, 34] 34 #[.slice (some ⟨w.heap.size, 0, none⟩) 0 0, .slice (some a) 0 c]).run Tryz.prog (w.alloc (.cells #[] 3)) = .ok (.slice (some ⟨w.heap.size, 0, none⟩) 0 0) (w.alloc (.cells #[] 3)) := by
        go_simp
      go_enter Tryz.func74, Tryz.ntmps74
      go_wp2_with (at_builtin; refine wpList_app rfl (.tmp 5) (.tmp 6) 34 rfl rfl rfl hap ?_; clear hap)
      go_ret
      exact ⟨_, rfl, ⟨_, 0, rfl, by simp, by simp, .inl rfl⟩, hk0, fun k e => by obtain rfl : k = w.heap.size := Option.some.inj e; exact ⟨Nat.le_refl _, by simp, tg_cells (block_new _ _)⟩⟩
    · obtain ⟨S, o, rfl, hS, hc⟩ : ∃ S o, a = ⟨S, o, none⟩ ∧ S < w.heap.size ∧ ∀ j x, xs[j]? = some x → w.cell? ⟨S, o + j, none⟩ = some (.int .i64 x) := by
        rcases h3 with h3 | ⟨S, o, e, h4, h5⟩
        · exact absurd (by rw [h3]; rfl) hx
        · cases e; exact ⟨S, o, rfl, h4, h5⟩
      obtain ⟨i0, hi, hz0, hz1, hz2⟩ := info_of info_int
      obtain ⟨g', cap, u', hap, h5, h6, h7, h8⟩ := run_append_lies (P := Tryz.prog) (w := w.alloc (.cells #[] 3)) 34 34 w.heap.size 3 i0 _ 1 8 Tryz.underlying34 hi hz0 hz1 hz2 rfl (by decide) (.slice (some ⟨w.heap.size, 0, none⟩) 0 0) 0 [] own0
        ⟨S, o, none⟩ xs.length c (xs.map (Value.int .i64)) (by simp) (fun j u hu => by
          rw [List.getElem?_map] at hu
          obtain ⟨x, hx, rfl⟩ := Option.map_eq_some_iff.1 hu
          rw [Addr.add_lit]
          exact cell_keeps hk0 hS id (hc j x hx)) (by simp [Value.oneCell']) (by omega) (by omega) (by omega) (by simp) _ rfl
      simp only [Nat.zero_add, List.nil_append] at hap h5
      have H5 := hidE h5
      have hsz := h6.size
      simp at hsz
      have HK := hidE (same_then hk0 (keeps_grown h6 fun k e => by simp only [Value.ownBlock, Option.some.injEq] at e; exact e) (fun k e => by omega))
      have H8 := hidE h8
      clear h5 h6 h7 h8 h3 hc hi own0
      go_enter Tryz.func74, Tryz.ntmps74
      go_wp2_with (at_builtin; refine wpList_app rfl (.tmp 5) (.tmp 6) 34 rfl rfl rfl hap ?_; clear hap)
      go_ret
      refine ⟨_, rfl, intSl_new (B := w.heap.size) H5.out, HK.out, fun k e => ?_⟩
      have := rowI_lt (B := w.heap.size) H5.out k e
      exact ⟨this.1, this.2, tg_own H5.out k e⟩
end Go.Proofs.YtomphgpplbekiaaGreat
