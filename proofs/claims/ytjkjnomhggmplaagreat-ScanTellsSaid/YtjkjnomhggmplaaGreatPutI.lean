/- Rows of int: slices.BinarySearch, slices.Insert, scan.put. -/
import Derived.Test.YtjkjnomhggmplaaGreatPutC
import Derived.LoopTactic
import Derived.Laws.Shifts
import Derived.Shelf.Spec.SlicesInsertGrow
import Derived.Deep.AppendLies
namespace Go.Proofs.YtjkjnomhggmplaaGreat
open Go.RowKit

def rowI (w : World) (B : Nat) (v : Value) (xs : List Int) : Prop := w.ownsRow B 3 1 v xs.length (xs.map (Value.int .i64))
theorem rowI_get {w : World} {B : Nat} {v : Value} {xs : List Int} (h : rowI w B v xs) {j : Nat} (hj : j < xs.length) : ∃ g cap, v = .slice (some ⟨g, 0, none⟩) xs.length cap ∧ xs.length ≤ cap ∧ cap ≤ maxLen ∧ B ≤ g ∧ g < w.heap.size ∧ ∀ (j : Nat) (hj : j < xs.length), w.cell? ⟨g, j, none⟩ = some (.int .i64 xs[j]) := by
  obtain ⟨h1, h2⟩ := h
  rcases h2 with ⟨-, h0⟩ | ⟨g, cap, cur, rfl, hB, hg, hc1, hc2, hc3, hc4⟩
  · omega
  · refine ⟨g, cap, rfl, hc1, hc2, hB, lt_of_block hg, fun j hj => ?_⟩
    rw [cell_of hg]
    have := congrArg (fun l => l[j]?) hc4
    simp only [List.getElem?_take, List.getElem?_map] at this
    rw [if_pos (by omega)] at this
    simpa [hj] using this
theorem lessI (x y : Int) (w : World) : Calls Tryz.prog 111 #[.int .i64 x, .int .i64 y] w fun e w' => e = .returned (.bool (decide (x < y))) ∧ w = w' := by
  go_enter Tryz.func111, Tryz.ntmps111
  go_wp2
  go_ret
  exact ⟨rfl, rfl⟩
set_option maxRecDepth 100000 in
set_option maxHeartbeats 4000000 in
theorem searchI (w : World) (B : Nat) (v : Value) (xs : List Int) (x : Int) (h : rowI w B v xs) (hr : Rising xs) (hl : xs.length ≤ 10000) :
    Calls Tryz.prog 86 #[v, .int .i64 x] w fun e w' => e = .returned (.tuple #[.int .i64 ((xs.countP (· < x) : Nat) : Int), .bool (xs.contains x)]) ∧ w = w' := by
  have hmax : maxLen ≤ 9223372036854775807 := by decide
  have hS := Go.Lib.sorted_at xs xs.length (Nat.le_refl _) (by rw [List.take_length]; exact rising_le hr)
  have HE : Hid (∀ i, _ → _ → _ → _) := hidE (fun i hi h1 h2 => Go.Lib.search_end xs xs.length i x (Nat.le_refl _) hi h1 h2 hS)
  rw [List.take_length] at HE
  have HC : Hid (∀ j (hj : j < xs.length), ∃ g cap, v = .slice (some ⟨g, 0, none⟩) xs.length cap ∧ w.cell? ⟨g, j, none⟩ = some (.int .i64 (xs.getD j 0))) := hidE (fun j hj => by
    obtain ⟨g, cap, e, -, -, -, -, hc⟩ := rowI_get h hj
    exact ⟨g, cap, e, by rw [hc j hj]; simp [hj]⟩)
  obtain ⟨pt, cap, rfl⟩ : ∃ pt cap, v = .slice pt xs.length cap := by
    obtain ⟨-, ⟨rfl, h0⟩ | ⟨g, cap, cur, rfl, -⟩⟩ := h
    · exact ⟨none, 0, by rw [h0]⟩
    · exact ⟨_, _, rfl⟩
  have HR := hidE hr
  clear h hr hS
  generalize hn : xs.length = n at *
  have HN := hidE hn
  generalize hq : xs.countP (· < x) = q at *
  generalize hz : xs.contains x = z at *
  clear hn hq hz
  go_enter Tryz.func86, Tryz.ntmps86
  go_wp2_with fail
  go_loop [7, 8] (fun t7 t8 => ∃ i j : Nat, i ≤ j ∧ j ≤ n ∧ t7 = .int .i64 i ∧ t8 = .int .i64 j ∧ (∀ k, k < i → xs.getD k 0 < x) ∧ (∀ k, j ≤ k → k < n → x ≤ xs.getD k 0)) (fun t7 t8 => (intOf t8).toNat - (intOf t7).toNat)
  case atStart => exact ⟨0, n, by omega, by omega, rfl, rfl, fun k hk => by omega, fun k h1 h2 => by omega⟩
  case round =>
    obtain ⟨i, j, hij, hjn, rfl, rfl, h1, h2⟩ := hrel
    have H1 := hidE h1
    have H2 := hidE h2
    clear h1 h2
    by_cases hlt : i < j
    · have q0 : decide ((i : Int) < (j : Int)) = true := by simp; omega
      obtain ⟨m, hm⟩ : ∃ m : Nat, m = (i + j) / 2 := ⟨_, rfl⟩
      have e1 : ((i : Int) + j) / 2 = (m : Nat) := by omega
      have e0 := wrapI ((i : Int) + j) (by omega) (by omega)
      have e2 : IntKind.u64.wrap ((i : Int) + j) = (i : Int) + j := by simp [IntKind.wrap, IntKind.bits, IntKind.signed]; omega
      have e3 := wrapI (m : Int) (by omega) (by omega)
      obtain ⟨g, cap', hv, hc⟩ := HC.out m (by omega)
      obtain ⟨rfl, -, rfl⟩ : pt = some ⟨g, 0, none⟩ ∧ True ∧ cap = cap' := by cases hv; exact ⟨rfl, trivial, rfl⟩
      have hmn : m < n := by omega
      have e4 := wrapI ((m : Int) + 1) (by omega) (by omega)
      have HM := hidE hm
      clear hv hm
      obtain ⟨y, hy⟩ : ∃ y, xs.getD m 0 = y := ⟨_, rfl⟩
      rw [hy] at hc
      have HY := hidE hy
      clear hy
      have HQ := hidE (Go.Lib.sorted_at xs n (Nat.le_of_eq HN.out.symm) (by rw [← HN.out, List.take_length]; exact rising_le HR.out))
      by_cases hx : y < x
      · have q1 : decide (y < x) = true := by simpa using hx
        go_wp2_with (go_at_call 111; refine (lessI _ _ _).mono ?_; rintro _ w1 ⟨rfl, rfl⟩)
        refine ⟨⟨m + 1, j, by have := HM.out; omega, hjn, by go_num, rfl, fun k hk => ?_, H2.out⟩, by have := HM.out; simp only [intOf]; omega⟩
        have := HQ.out k m (by omega) hmn
        rw [HY.out] at this
        omega
      · have q1 : decide (y < x) = false := by simpa using hx
        go_wp2_with (go_at_call 111; refine (lessI _ _ _).mono ?_; rintro _ w1 ⟨rfl, rfl⟩)
        refine ⟨⟨i, m, by have := HM.out; omega, by omega, rfl, rfl, H1.out, fun k hk hkn => ?_⟩, by have := HM.out; simp only [intOf]; omega⟩
        have := HQ.out m k hk hkn
        rw [HY.out] at this
        omega
    · obtain rfl : i = j := by omega
      have q0 : decide ((i : Int) < (i : Int)) = false := by simp
      obtain ⟨e1, e2⟩ := HE.out i hjn H1.out H2.out
      by_cases hin : i < n
      · have q1 : decide ((i : Int) < (n : Int)) = true := by simpa using hin
        obtain ⟨g, cap', hv, hc⟩ := HC.out i hin
        obtain ⟨rfl, -, rfl⟩ : pt = some ⟨g, 0, none⟩ ∧ True ∧ cap = cap' := by cases hv; exact ⟨rfl, trivial, rfl⟩
        obtain ⟨y, hy⟩ : ∃ y, xs.getD i 0 = y := ⟨_, rfl⟩
        rw [hy] at hc e2
        clear hv hy
        subst e1
        by_cases hxy : y = x
        · obtain rfl : z = true := by rw [e2]; simp [hin, hxy]
          subst hxy
          clear e2
          go_wp2
          go_ret2
          exact ⟨rfl, rfl⟩
        · obtain rfl : z = false := by rw [e2]; simp [hxy]
          have q2 : (y == x) = false := by simpa using hxy
          clear e2
          go_wp2
          go_ret2
          exact ⟨rfl, rfl⟩
      · have q1 : decide ((i : Int) < (n : Int)) = false := by simpa using hin
        obtain rfl : z = false := by rw [e2]; simp [hin]
        subst e1
        clear e2
        go_wp2
        go_ret2
        exact ⟨rfl, rfl⟩
theorem infoI : (Tryz.prog.info? 3).map (fun i => (i.zero, i.size, i.bytes)) = some (some (.int .i64 0), 1, 8) := by kernel_rfl
theorem appendI {ops : Array Oper} {rest : List Oper} {o : Oper} {a : Act} {w : World} {Q : Exit → Act → World → Prop} (hgd : o.guard = none) (s x : Operand) (ho : o.op = .call { callee := .builtin .append, args := #[s, x], argTypes := #[38, 38] })
    (B : Nat) (v : Value) (xs : List Int) (hs : a.eval s = v) (hown : rowI w B v xs) (b c : Nat) (y : Int) (hx : a.eval x = .slice (some ⟨b, 0, none⟩) 1 c) (hb : ∃ T, w.heap[b]? = some (.cells #[.int .i64 y] T (0, 0)))
    (hl : xs.length + 1 ≤ 20000) (hB : B ≤ w.heap.size)
    (h : ∀ g cap w', rowI w' B (.slice (some ⟨g, 0, none⟩) (xs.length + 1) cap) (xs ++ [y]) → GrewS w w' v (.slice (some ⟨g, 0, none⟩) (xs.length + 1) cap) → wpList Tryz.prog ops Q rest (a.put o.dst (.slice (some ⟨g, 0, none⟩) (xs.length + 1) cap)) w') : wpList Tryz.prog ops Q (o :: rest) a w := by
  obtain ⟨i0, hi, hz0, hz1, hz2⟩ := infoS_of infoI
  obtain ⟨T, hb⟩ := hb
  refine wpList_append_lies w hgd s x 38 ho B 3 i0 _ 1 8 Tryz.underlying38 hi hz0 hz1 hz2 rfl (by decide) v xs.length (xs.map (Value.int .i64)) hs hown ⟨b, 0, none⟩ 1 c [.int .i64 y] hx rfl ?_ (by simp [Value.oneCell']) (by omega) (by simp only [maxLen]; omega) (by omega) hB _ rfl ?_
  · have := World.news_of_block hb
    simpa using this
  · intro g cap w' h1 h2 h3 h4
    refine h g cap w' (by simpa [rowI] using h1) ⟨keeps_grown h2 fun k hk => hk.symm, fun k hk => ?_, fun k hk => ?_⟩
    · simp only [Value.ownBlock, Option.some.injEq] at hk
      subst hk
      rcases h3 with h | h
      · exact .inl h.symm
      · exact .inr (by omega)
    · simp only [Value.ownBlock, Option.some.injEq] at hk; omega
def InsPostI (w : World) (B : Nat) (v : Value) (ys : List Int) (e : Ending) (w' : World) : Prop := ∃ v', e = .returned v' ∧ rowI w' B v' ys ∧ GrewS w w' v v'
set_option maxRecDepth 100000 in
set_option maxHeartbeats 4000000 in
theorem insI_end (w : World) (B : Nat) (v : Value) (xs : List Int) (x : Int) (vb : Nat) (h : rowI w B v xs) (hl : xs.length ≤ 10000) (hB : B ≤ w.heap.size) (T : TypeId) (hvb : w.heap[vb]? = some (.cells #[.int .i64 x] T (0, 0))) :
    Calls Tryz.prog 87 #[v, .int .i64 (xs.length : Nat), .slice (some ⟨vb, 0, none⟩) 1 1] w (InsPostI w B v (xs ++ [x])) := by
  have hmax : maxLen ≤ 9223372036854775807 := by decide
  have HV := hidE hvb
  have HH := hidE h
  have HB := hidE hB
  have HL := hidE hl
  obtain ⟨-, ⟨rfl, h0⟩ | ⟨g, cap, cur, rfl, -, -, hc1, hc2, -⟩⟩ := h
  · obtain rfl : xs = [] := List.length_eq_zero_iff.1 h0
    clear hvb h0 hB hl
    go_enter Tryz.func87, Tryz.ntmps87
    go_wp2_with (at_builtin; go_loud (refine appendI rfl (.tmp 23) (.tmp 24) rfl B (.slice none 0 0) [] rfl HH.out vb 1 x rfl ⟨_, HV.out⟩ (by simp) HB.out ?_; intro g cap w1 hrow hgrow; have HG := hidE hgrow; have HR := hidE hrow; clear hrow hgrow))
    go_ret
    exact ⟨_, rfl, HR.out, HG.out⟩
  · generalize hn : xs.length = n at *
    have HN := hidE hn
    clear hvb hB hl hn
    rcases Nat.lt_or_eq_of_le hc1 with hcn | rfl
    · have hq : ¬ cap = n := by omega
      go_enter Tryz.func87, Tryz.ntmps87
      go_wp2_with (at_builtin; go_loud (refine appendI rfl (.tmp 23) (.tmp 24) rfl B _ xs rfl HH.out vb 1 x rfl ⟨_, HV.out⟩ (by have := HN.out; have := HL.out; omega) HB.out ?_; intro g1 cap1 w1 hrow hgrow; have HG := hidE hgrow; have HR := hidE hrow; clear hrow hgrow))
      go_ret
      exact ⟨_, rfl, HR.out, HG.out⟩
    · go_enter Tryz.func87, Tryz.ntmps87
      go_wp2_with (at_builtin; go_loud (refine appendI rfl (.tmp 23) (.tmp 24) rfl B _ xs rfl HH.out vb 1 x rfl ⟨_, HV.out⟩ (by have := HN.out; have := HL.out; omega) HB.out ?_; intro g1 cap1 w1 hrow hgrow; have HG := hidE hgrow; have HR := hidE hrow; clear hrow hgrow))
      go_ret
      exact ⟨_, rfl, HR.out, HG.out⟩
set_option maxRecDepth 100000 in
set_option maxHeartbeats 4000000 in
theorem insI_shift (w : World) (B g cap : Nat) (cur : Array Value) (xs : List Int) (i : Nat) (x : Int) (vb : Nat) (hB : B ≤ g) (hg : w.heap[g]? = some (.cells cur 3 (0, 0))) (hi : i < xs.length) (hroom : xs.length + 1 ≤ cap) (hm : cap ≤ maxLen) (hs : cur.size = cap)
    (hc : ∀ j v, (xs.map (Value.int .i64))[j]? = some v → w.cell? ⟨g, j, none⟩ = some v) (T : TypeId) (hvb : w.heap[vb]? = some (.cells #[.int .i64 x] T (0, 0))) (hne : vb ≠ g) :
    Calls Tryz.prog 87 #[.slice (some ⟨g, 0, none⟩) xs.length cap, .int .i64 (i : Nat), .slice (some ⟨vb, 0, none⟩) 1 1] w (InsPostI w B (.slice (some ⟨g, 0, none⟩) xs.length cap) (xs.take i ++ x :: xs.drop i)) := by
  have hmax : maxLen ≤ 9223372036854775807 := by decide
  obtain ⟨cs, hcs⟩ : ∃ cs, cs = xs.map (Value.int .i64) := ⟨_, rfl⟩
  obtain ⟨n, hn⟩ : ∃ n, n = xs.length := ⟨_, rfl⟩
  have hcl : cs.length = n := by rw [hcs, hn]; simp
  have h1c : ∀ v ∈ cs, v.oneCell' = true := by
    intro v hv; rw [hcs] at hv; simp at hv; obtain ⟨a, -, rfl⟩ := hv; rfl
  rw [← hcs] at hc
  rw [← hn] at hi hroom ⊢
  have hvs : ∀ j v, ([.int .i64 x] : List Value)[j]? = some v → w.cell? ⟨vb, j, none⟩ = some v := fun j v hj => by
    rw [cell_of hvb, ← hj]; simp
  have hsp : ∀ j, j < n + 1 → (w.cell? ⟨g, j, none⟩).isSome = true := fun j hj => by rw [cell_of hg]; simp; omega
  have hsz : (Tryz.prog.info? 3).map (·.size) = some 1 := by
    obtain ⟨i0, hi0, h0, h1, h2⟩ := infoS_of infoI
    rw [hi0]; simp [h1]
  have hov : ∀ lb cb, (callFunc 113 #[.slice (some ⟨vb, 0, none⟩) 1 1, .slice (some ⟨g, i + 1, none⟩) lb cb]).run Tryz.prog w = .ok (.value (.bool false)) w := fun lb cb => by
    rw [run_callFunc_extern Tryz.func113 (by kernel_rfl) (by kernel_rfl) (by kernel_rfl) (e := Extern.SlicesOverlaps.overlaps #[38, 38] #[4]) (by kernel_rfl),
      Lib.run_overlaps_apart w 38 4 3 Tryz.underlying38 1 Tryz.sizeOf3 ⟨vb, 0, none⟩ ⟨g, i + 1, none⟩ 1 1 lb cb hne T 3 1 cur.size (by simp [World.shape?, hvb]) (by simp [World.shape?, hg]) (by omega) (frozen_of hvb 0) (frozen_of hvb 1)]
    rfl
  have hdl : (cs.drop i).length = n - i := by rw [List.length_drop, hcl]
  have hw1 : IntKind.i64.wrap ((i : Int) + 1) = (i : Int) + 1 := by rw [IntKind.wrap_i64]; omega
  have hw2 : IntKind.i64.wrap ((n : Int) + 1) = (n : Int) + 1 := by rw [IntKind.wrap_i64]; omega
  have hz2 : ¬ ((i : Int) = (n : Int)) := by omega
  have hb1 : (0 : Int) ≤ (i : Int) + 1 := by omega
  have hin : i ≤ n := by omega
  have htn : ((i : Int) + 1).toNat = i + 1 := by omega
  have hb2 : ¬ (cap = i + 1) := by omega
  have hb4 : ¬ (cap = i) := by omega
  have mixed : Tryz.prog.follows .mixedOrders = true := by kernel_rfl
  have hb3 : (i : Int) ≤ (n : Int) + 1 := by omega
  have hb5 : ¬ ((cap : Int) < (n : Int) + 1) := by omega
  have hcp1 : ∀ ty dc sc, (Builtin.copy_ #[38, 38] ty #[.slice (some ⟨g, i + 1, none⟩) (n - i) dc, .slice (some ⟨g, i, none⟩) (n + 1 - i) sc]).run Tryz.prog w.drew = .ok (goInt (cs.drop i).length) (w.drew.setCells g (i + 1) (cs.drop i)) := fun ty dc sc =>
    run_copy_cells w.drew _ _ ty 3 g (i + 1) (n - i) dc ⟨g, i, none⟩ (n + 1 - i) sc (cs.drop i) Tryz.underlying38 hsz (by rw [hdl]; simp only [Nat.min_def]; split <;> omega)
      (fun j v hj => by rw [Addr.add_lit]; exact hc (i + j) v (by rwa [List.getElem?_drop] at hj))
      (fun j hj => hsp _ (by omega)) (fun j hj => frozen_of (w := w) hg _) (fun v hv => h1c v (List.mem_of_mem_drop hv))
  obtain ⟨W1, hW1⟩ : ∃ W1, W1 = w.drew.setCells g (i + 1) (cs.drop i) := ⟨_, rfl⟩
  have hsp1 : ∀ k, k < n + 1 → (W1.cell? ⟨g, k, none⟩).isSome = true := fun k hk => by
    rw [hW1]
    exact isSome_setCells g (cs.drop i) (i + 1) w.drew (fun j hj => hsp (i + 1 + j) (by omega)) k (hsp k hk)
  have hcp2 : ∀ (W : World), (∀ x, W.cell? x = W1.cell? x) → (∀ x, W.frozen? x = W1.frozen? x) → ∀ ty dc, (Builtin.copy_ #[38, 38] ty #[.slice (some ⟨g, i, none⟩) (n + 1 - i) dc, .slice (some ⟨vb, 0, none⟩) 1 1]).run Tryz.prog W = .ok (goInt 1) (W.setCells g i [.int .i64 x]) := fun W hWc hWf ty dc =>
    run_copy_cells W _ _ ty 3 g i (n + 1 - i) dc ⟨vb, 0, none⟩ 1 1 [.int .i64 x] Tryz.underlying38 hsz (by simp only [Nat.min_def]; split <;> simp <;> omega)
      (fun j v hj => by
        rw [Addr.add_lit, hWc, hW1, World.cell?_setCells_out g _ _ _ _ (fun h _ => absurd h hne)]
        rw [Nat.zero_add]; exact hvs j v hj)
      (fun j hj => by rw [hWc]; exact hsp1 _ (by simp at hj; omega)) (fun j hj => by rw [hWf, hW1, World.frozen?_setCells]; exact frozen_of (w := w) hg _) (by simp [Value.oneCell'])
  rw [← hW1] at hcp1
  have HW := hidE hW1
  have HG := hidE hg
  have HC := hidE hc
  have HVS := hidE hvs
  have HCS := hidE hcs
  have HN := hidE hn
  have HSP := hidE hsp1
  have HS0 := hidE hsp
  have HS := hidE hs
  clear hW1 hg hc hvs hcs hn hsp hsp1 h1c hvb hsz hs
  go_enter Tryz.func87, Tryz.ntmps87
  go_wp2_with (simp only [hov])
  go_region_law_o (refine step_copy_runI rfl _ _ 38 38 rfl _ _ (by simp [Act.eval, Act.put]) (by simp [Act.eval, Act.put]) (hcp1 _ _ _) ?_)
  go_wp2_with (at_builtin; refine wpList_copy_runI _ rfl _ _ 38 38 rfl _ _ rfl rfl (hcp2 _ (fun _ => rfl) (fun _ => rfl) _ _) ?_)
  go_ret
  obtain ⟨c1, b1, s1⟩ := setCells_block (cs.drop i) (i + 1) w.drew g cur _ _ HG.out
  rw [← HW.out] at b1
  obtain ⟨c2, b2, s2⟩ := setCells_block [.int .i64 x] i W1 g c1 _ _ b1
  have hsz := HS.out
  have hyl : (xs.take i ++ x :: xs.drop i).length = n + 1 := by have := HN.out; simp; omega
  refine ⟨.slice (some ⟨g, 0, none⟩) (n + 1) cap, rfl, ?_, ⟨?_, fun k hk => .inl hk, fun k hk => ?_⟩⟩
  · unfold rowI
    rw [hyl]
    refine owns_cells b2 hB (by omega) hroom hm (by simpa using hyl) fun j hj => ?_
    rw [show (xs.take i ++ x :: xs.drop i).map (Value.int .i64) = cs.take i ++ .int .i64 x :: cs.drop i by rw [HCS.out]; simp]
    have hti : (cs.take i).length = i := by rw [List.length_take, hcl]; omega
    rcases Nat.lt_trichotomy j i with hji | rfl | hji
    · rw [World.cell?_setCells_out g _ _ _ _ (fun _ _ => .inl hji), HW.out, World.cell?_setCells_out g _ _ _ _ (fun _ _ => .inl (by simp only; omega)), List.getElem?_append_left (by omega), List.getElem?_take, if_pos hji]
      have := HC.out j cs[j] (by simp)
      rw [show w.drew.cell? ⟨g, j, none⟩ = w.cell? ⟨g, j, none⟩ from rfl, this]; simp
    · have := World.cell?_setCells_in g [.int .i64 x] j W1 (fun t ht => HSP.out _ (by simp at ht; omega)) 0 (by simp)
      rw [Nat.add_zero] at this
      rw [this, List.getElem?_append_right (by omega), hti]; simp
    · rw [World.cell?_setCells_out g _ _ _ _ (fun _ _ => .inr (by simp; omega)), HW.out]
      have := World.cell?_setCells_in g (cs.drop i) (i + 1) w.drew (fun t ht => HS0.out _ (by omega)) (j - (i + 1)) (by omega)
      rw [show i + 1 + (j - (i + 1)) = j by omega] at this
      rw [this, List.getElem?_append_right (by omega), hti, show j - i = (j - (i + 1)) + 1 by omega, List.getElem?_cons_succ]
      rw [List.getElem?_eq_getElem (by omega)]
  · refine keeps_setCells (F := fun k => some k = some g) (b := g) (fun _ => rfl) _ _ _ ?_
    rw [HW.out]
    exact keeps_setCells (F := fun k => some k = some g) (b := g) (fun _ => rfl) _ _ _ (Keeps.refl _ _).drew
  · simp only [Value.ownBlock, Option.some.injEq] at hk
    subst hk
    exact lt_of_block b2
set_option maxRecDepth 100000 in
set_option maxHeartbeats 4000000 in
theorem insI_grow (w : World) (B g : Nat) (cur : Array Value) (xs : List Int) (i : Nat) (x : Int) (vb : Nat) (hBw : B ≤ w.heap.size) (hg : w.heap[g]? = some (.cells cur 3 (0, 0))) (hi : i < xs.length) (hl : xs.length ≤ 10000)
    (hc : ∀ j v, (xs.map (Value.int .i64))[j]? = some v → w.cell? ⟨g, j, none⟩ = some v) (T : TypeId) (hvb : w.heap[vb]? = some (.cells #[.int .i64 x] T (0, 0))) :
    Calls Tryz.prog 87 #[.slice (some ⟨g, 0, none⟩) xs.length xs.length, .int .i64 (i : Nat), .slice (some ⟨vb, 0, none⟩) 1 1] w (InsPostI w B (.slice (some ⟨g, 0, none⟩) xs.length xs.length) (xs.take i ++ x :: xs.drop i)) := by
  obtain ⟨cs, hcs⟩ : ∃ cs, cs = xs.map (Value.int .i64) := ⟨_, rfl⟩
  obtain ⟨n, hn⟩ : ∃ n, n = xs.length := ⟨_, rfl⟩
  have hcl : cs.length = n := by rw [hcs, hn]; simp
  have h1c : ∀ v ∈ cs, v.oneCell' = true := by
    intro v hv; rw [hcs] at hv; simp at hv; obtain ⟨a, -, rfl⟩ := hv; rfl
  rw [← hcs] at hc
  rw [← hn] at hi hl ⊢
  have hvs : ∀ j v, ([.int .i64 x] : List Value)[j]? = some v → w.cell? ⟨vb, j, none⟩ = some v := fun j v hj => by
    rw [cell_of hvb, ← hj]; simp
  obtain ⟨i0, hi0, hz0, hzs, hzb⟩ := infoS_of infoI
  have mixed : Tryz.prog.follows .mixedOrders = true := by kernel_rfl
  have hz2 : ¬ ((i : Int) = (n : Int)) := by omega
  have hz3 : (n : Int) < (n : Int) + 1 := by omega
  have hw1 : IntKind.i64.wrap ((i : Int) + 1) = (i : Int) + 1 := by rw [IntKind.wrap_i64]; omega
  have hw2 : IntKind.i64.wrap ((n : Int) + 1) = (n : Int) + 1 := by rw [IntKind.wrap_i64]; omega
  have hw3 : IntKind.i64.wrap ((n : Int) + 1 - i) = (n : Int) + 1 - i := by rw [IntKind.wrap_i64]; omega
  have hsz : (Tryz.prog.info? 3).map (·.size) = some 1 := by rw [hi0]; simp [hzs]
  have hbw := lt_of_block hg
  have hvw := lt_of_block hvb
  have hkk : (n : Int) + 1 - (i : Int) = ((n + 1 - i : Nat) : Int) := by omega
  have hik : i + (n + 1 - i) = n + 1 := by omega
  have hold : (Builtin.firstCells i0.size i (.slice (some ⟨g, 0, none⟩) i n)).run Tryz.prog w.drew = .ok (cs.take i).toArray w.drew := by
    rw [hzs]
    exact run_firstCells_some w.drew 1 i ⟨g, 0, none⟩ i n (cs.take i) (by rw [List.length_take]; omega) (fun j v hj => by
      rw [Addr.add_lit, Nat.zero_add]
      rw [List.getElem?_take] at hj
      split at hj
      · exact hc j v hj
      · cases hj)
  have hrz : ∀ ty, (Builtin.append_ #[38, 3] ty #[.slice (some ⟨g, 0, none⟩) i n, .int .i64 ((n : Int) + 1 - (i : Int))]).run Tryz.prog w =
      .ok (.slice (some ⟨w.heap.size, 0, none⟩) (n + 1) (grownCap w (n + 1) n 3)) (w.drew.alloc (.cells ((cs.take i).toArray ++ Builtin.zeroCells (Value.int .i64 0).cells (n + 1 - i) ++ Builtin.zeroCells (Value.int .i64 0).cells (grownCap w (n + 1) n 3 - (n + 1))) 3)) := fun ty => by
    have h := Lib.run_append_grow_zeros w 38 3 ty 3 i0 _ .i64 .i64 Tryz.underlying38 Tryz.underlying3 hi0 hz0 (some ⟨g, 0, none⟩) i n (cs.take i) hold (n + 1 - i) (by omega) (by omega) (by omega) (by omega) (by rw [hzb]; omega) (by rw [hzb, hik]; exact growslice_fits (by omega) (by omega))
    rw [hik] at h
    rw [hkk]
    exact h
  obtain ⟨G, hG⟩ : ∃ G, G = grownCap w (n + 1) n 3 := ⟨_, rfl⟩
  obtain ⟨ROW, hROW⟩ : ∃ ROW : Array Value, ROW = (cs.take i).toArray ++ Builtin.zeroCells (Value.int .i64 0).cells (n + 1 - i) ++ Builtin.zeroCells (Value.int .i64 0).cells (G - (n + 1)) := ⟨_, rfl⟩
  have hGn : n + 1 ≤ G := by rw [hG]; exact grownCap_ge w _ _ _
  have hG63 : G ≤ maxLen := by
    rw [hG]; exact grownCap_le_maxLen w (n + 1) n 3 (by unfold maxLen; omega)
  have hmax : maxLen ≤ 9223372036854775807 := by decide
  rw [← hG] at hrz
  rw [← hROW] at hrz
  have hti : (cs.take i).length = i := by rw [List.length_take, hcl]; omega
  have hRl : ROW.size = G := by
    rw [hROW]
    simp [Builtin.zeroCells, Value.cells, hti]
    omega
  have hRi : ∀ j, j < i → ROW[j]? = cs[j]? := fun j hj => by
    rw [hROW, Array.append_assoc, Array.getElem?_append_left (by simp; omega)]
    simp [hj]
  obtain ⟨W1, hW1⟩ : ∃ W1, W1 = w.drew.alloc (.cells ROW 3) := ⟨_, rfl⟩
  rw [← hW1] at hrz
  have hB1 : W1.heap[w.heap.size]? = some (.cells ROW 3 (0, 0)) := by rw [hW1]; exact block_new w.drew _
  have hN : ∀ j, j < n + 1 → (W1.cell? ⟨w.heap.size, j, none⟩).isSome = true := fun j hj => by rw [cell_of hB1]; simp; omega
  have hNf : ∀ j, W1.frozen? ⟨w.heap.size, j, none⟩ = false := fun j => frozen_of hB1 j
  have hOb : ∀ j v, w.cell? ⟨g, j, none⟩ = some v → W1.cell? ⟨g, j, none⟩ = some v := fun j v h => by rw [hW1, World.cell?_alloc_past (w := w.drew) _ g j hbw]; exact h
  have hOv : ∀ j v, w.cell? ⟨vb, j, none⟩ = some v → W1.cell? ⟨vb, j, none⟩ = some v := fun j v h => by rw [hW1, World.cell?_alloc_past (w := w.drew) _ vb j hvw]; exact h
  have hcpA : ∀ (W : World), (∀ x, W.cell? x = W1.cell? x) → (∀ x, W.frozen? x = W1.frozen? x) → ∀ ty dc, (Builtin.copy_ #[38, 38] ty #[.slice (some ⟨w.heap.size, i, none⟩) (n + 1 - i) dc, .slice (some ⟨vb, 0, none⟩) 1 1]).run Tryz.prog W = .ok (goInt 1) (W.setCells w.heap.size i [.int .i64 x]) := fun W hWc hWf ty dc =>
    run_copy_cells W _ _ ty 3 w.heap.size i (n + 1 - i) dc ⟨vb, 0, none⟩ 1 1 [.int .i64 x] Tryz.underlying38 hsz (by simp only [Nat.min_def]; split <;> simp <;> omega)
      (fun j v hj => by rw [Addr.add_lit, hWc, Nat.zero_add]; exact hOv _ v (hvs j v hj))
      (fun j hj => by rw [hWc]; exact hN _ (by simp at hj; omega)) (fun j hj => by rw [hWf]; exact hNf _) (by simp [Value.oneCell'])
  have hGi : ¬ (G = i) := by omega
  have hGim : ¬ (G = i + 1) := by omega
  have hci : ¬ (n = i) := by omega
  have hbN : g ≠ w.heap.size := by omega
  have hdl : (cs.drop i).length = n - i := by rw [List.length_drop, hcl]
  have hcpB : ∀ (W : World), (∀ z, W.cell? z = (W1.setCells w.heap.size i [.int .i64 x]).cell? z) → (∀ z, W.frozen? z = (W1.setCells w.heap.size i [.int .i64 x]).frozen? z) → ∀ ty dc sc, (Builtin.copy_ #[38, 38] ty #[.slice (some ⟨w.heap.size, i + 1, none⟩) (n - i) dc, .slice (some ⟨g, i, none⟩) (n - i) sc]).run Tryz.prog W = .ok (goInt (cs.drop i).length) (W.setCells w.heap.size (i + 1) (cs.drop i)) := fun W hWc hWf ty dc sc =>
    run_copy_cells W _ _ ty 3 w.heap.size (i + 1) (n - i) dc ⟨g, i, none⟩ (n - i) sc (cs.drop i) Tryz.underlying38 hsz (by rw [hdl]; simp only [Nat.min_def]; split <;> omega)
      (fun j v hj => by
        rw [Addr.add_lit, hWc, World.cell?_setCells_out _ _ _ _ _ (fun h _ => absurd h hbN)]
        exact hOb _ v (hc (i + j) v (by rwa [List.getElem?_drop] at hj)))
      (fun j hj => by rw [hWc]; exact isSome_setCells _ _ _ _ (fun t ht => hN _ (by simp at ht; omega)) _ (hN _ (by omega)))
      (fun j hj => by rw [hWf, World.frozen?_setCells]; exact hNf _) (fun v hv => h1c v (List.mem_of_mem_drop hv))
  have hcpC := hcpB (W1.setCells w.heap.size i [.int .i64 x]).drew (fun _ => rfl) (fun _ => rfl)
  have hb1 : (0 : Int) ≤ (i : Int) + 1 := by omega
  have hin : i ≤ n := by omega
  have htn : ((i : Int) + 1).toNat = i + 1 := by omega
  have hb3 : (i : Int) ≤ (n : Int) := by omega
  have hb4 : (i : Int) ≤ (n : Int) + 1 := by omega
  have hG0 : G ≤ 9223372036854775807 := by omega
  have HF := hidE (And.intro hB1 (And.intro hRi (And.intro hRl (And.intro hN (And.intro hc (And.intro hn hcs))))))
  have HW := hidE hW1
  clear hB1 hRi hRl hN hc hn hcs hW1 hkk hik hold hROW hG hvs hNf hOb hOv h1c hg hvb hz0 hzs hzb hi0 hsz
  go_enter Tryz.func87, Tryz.ntmps87
  go_wp2_with (first
    | (at_builtin; refine Lib.wpList_append_run _ rfl _ _ _ _ rfl _ _ rfl rfl _ _ (hrz _) ?_)
    | (at_builtin; refine wpList_copy_runI _ rfl _ _ 38 38 rfl _ _ rfl rfl (hcpA _ (fun _ => rfl) (fun _ => rfl) _ _) ?_))
  go_region_law_o (refine step_copy_runI rfl _ _ 38 38 rfl _ _ (by simp [Act.eval, Act.put]) (by simp [Act.eval, Act.put]) (hcpC _ _ _) ?_)
  go_wp2
  go_ret
  obtain ⟨hB1, hRi, hRl, hN, hc, hn, hcs⟩ := HF.out
  obtain ⟨c1, b1, s1⟩ := setCells_block [.int .i64 x] i W1 w.heap.size ROW _ _ hB1
  obtain ⟨c2, b2, s2⟩ := setCells_block (cs.drop i) (i + 1) (W1.setCells w.heap.size i [.int .i64 x]).drew w.heap.size c1 _ _ b1
  have hyl : (xs.take i ++ x :: xs.drop i).length = n + 1 := by simp; omega
  have hN2 : ∀ j, j < n + 1 → ((W1.setCells w.heap.size i [.int .i64 x]).drew.cell? ⟨w.heap.size, j, none⟩).isSome = true := fun j hj =>
    isSome_setCells w.heap.size [.int .i64 x] i W1 (fun t ht => hN _ (by simp at ht; omega)) j (hN j hj)
  refine ⟨.slice (some ⟨w.heap.size, 0, none⟩) (n + 1) G, rfl, ?_, ⟨?_, fun k hk => .inr ?_, fun k hk => ?_⟩⟩
  · unfold rowI
    rw [hyl]
    refine owns_cells b2 hBw (by omega) hGn hG63 (by simpa using hyl) fun j hj => ?_
    rw [show (xs.take i ++ x :: xs.drop i).map (Value.int .i64) = cs.take i ++ .int .i64 x :: cs.drop i by rw [hcs]; simp]
    rcases Nat.lt_trichotomy j i with hji | rfl | hji
    · rw [World.cell?_setCells_out w.heap.size _ _ _ _ (fun _ _ => .inl (by simp only; omega)), show (W1.setCells w.heap.size i [.int .i64 x]).drew.cell? ⟨w.heap.size, j, none⟩ = (W1.setCells w.heap.size i [.int .i64 x]).cell? ⟨w.heap.size, j, none⟩ from rfl,
        World.cell?_setCells_out w.heap.size _ _ _ _ (fun _ _ => .inl hji), cell_of hB1, hRi j hji, List.getElem?_append_left (by omega), List.getElem?_take, if_pos hji]
    · rw [World.cell?_setCells_out w.heap.size _ _ _ _ (fun _ _ => .inl (by simp only; omega)), show (W1.setCells w.heap.size j [.int .i64 x]).drew.cell? ⟨w.heap.size, j, none⟩ = (W1.setCells w.heap.size j [.int .i64 x]).cell? ⟨w.heap.size, j, none⟩ from rfl]
      have := World.cell?_setCells_in w.heap.size [.int .i64 x] j W1 (fun t ht => hN _ (by simp at ht; omega)) 0 (by simp)
      rw [Nat.add_zero] at this
      rw [this, List.getElem?_append_right (by omega), hti]; simp
    · have := World.cell?_setCells_in w.heap.size (cs.drop i) (i + 1) (W1.setCells w.heap.size i [.int .i64 x]).drew (fun t ht => hN2 _ (by omega)) (j - (i + 1)) (by omega)
      rw [show i + 1 + (j - (i + 1)) = j by omega] at this
      rw [this, List.getElem?_append_right (by omega), hti, show j - i = (j - (i + 1)) + 1 by omega, List.getElem?_cons_succ]
      rw [List.getElem?_eq_getElem (by omega)]
  · refine keeps_setCells (F := fun k => some k = some g) (b := w.heap.size) (fun h => absurd h (Nat.lt_irrefl _)) _ _ _ (Keeps.drew ?_)
    refine keeps_setCells (F := fun k => some k = some g) (b := w.heap.size) (fun h => absurd h (Nat.lt_irrefl _)) _ _ _ ?_
    rw [HW.out]
    exact (Keeps.refl _ _).drew.alloc _
  · simp only [Value.ownBlock, Option.some.injEq] at hk; omega
  · simp only [Value.ownBlock, Option.some.injEq] at hk
    subst hk
    exact lt_of_block b2
theorem insI (w : World) (B : Nat) (v : Value) (xs : List Int) (i : Nat) (x : Int) (vb : Nat) (h : rowI w B v xs) (hi : i ≤ xs.length) (hl : xs.length ≤ 10000) (hB : B ≤ w.heap.size) (T : TypeId) (hvb : w.heap[vb]? = some (.cells #[.int .i64 x] T (0, 0))) (hne : v.ownBlock ≠ some vb) :
    Calls Tryz.prog 87 #[v, .int .i64 (i : Nat), .slice (some ⟨vb, 0, none⟩) 1 1] w (InsPostI w B v (xs.take i ++ x :: xs.drop i)) := by
  rcases Nat.lt_or_eq_of_le hi with hi | rfl
  · have hcell := fun j (hj : j < xs.length) => rowI_get h hj
    obtain ⟨-, ⟨rfl, h0⟩ | ⟨g, cap, cur, rfl, hBg, hg, hc1, hc2, hc3, -⟩⟩ := h
    · omega
    have hc : ∀ j v, (xs.map (Value.int .i64))[j]? = some v → w.cell? ⟨g, j, none⟩ = some v := fun j v hj => by
      have hjl : j < xs.length := by
        rcases Nat.lt_or_ge j xs.length with h | h
        · exact h
        · rw [List.getElem?_eq_none (by simpa using h)] at hj; cases hj
      obtain ⟨g', cap', e, -, -, -, -, hcc⟩ := hcell j hjl
      cases e
      rw [hcc j hjl, ← hj]; simp [hjl]
    rcases Nat.lt_or_eq_of_le hc1 with hlt | rfl
    · exact insI_shift w B g cap cur xs i x vb hBg hg hi (by omega) hc2 (by omega) hc T hvb (fun e => hne (by simp [Value.ownBlock, e]))
    · exact insI_grow w B g cur xs i x vb hB hg hi hl hc T hvb
  · rw [List.take_length, List.drop_length]
    exact insI_end w B v xs x vb h hl hB T hvb
set_option maxRecDepth 100000 in
set_option maxHeartbeats 4000000 in
theorem putI (w : World) (B : Nat) (v : Value) (xs : List Int) (x : Int) (h : rowI w B v xs) (hr : Rising xs) (hl : xs.length ≤ 10000) (hB : B ≤ w.heap.size) :
    Calls Tryz.prog 49 #[v, .int .i64 x] w (InsPostI w B v (putL xs x)) := by
  unfold putL
  have hle : xs.countP (· < x) ≤ xs.length := List.countP_le_length
  have HS := hidE (searchI w B v xs x h hr hl)
  have HI : Hid (∀ w', Same w w' → ∀ T vb, w'.heap[vb]? = some (.cells #[.int .i64 x] T (0, 0)) → w.heap.size ≤ vb → _) := hidE (fun w' hk T vb hb hvb => insI w' B v xs (xs.countP (· < x)) x vb (owns_keeps h hk (fun _ _ => id)) hle hl (Nat.le_trans hB hk.size) T hb (fun e => by
    obtain ⟨-, ⟨rfl, h0⟩ | ⟨g, cap, cur, rfl, -, hg, -⟩⟩ := h
    · simp [Value.ownBlock] at e
    · simp [Value.ownBlock] at e
      subst e
      have := lt_of_block hg
      omega))
  have HG := hidE (GrewS.self h)
  have HH := hidE h
  clear h hr hle
  generalize xs.countP (· < x) = q at *
  generalize hz : xs.contains x = z at *
  clear hz
  cases z
  · simp only [Bool.false_eq_true, if_false]
    go_enter Tryz.func49, Tryz.ntmps49
    go_wp2_with fail
    refine HS.out.mono ?_
    rintro _ w1 ⟨rfl, rfl⟩
    go_wp2_with fail
    refine (HI.out _ ((Keeps.refl _ _).alloc _) _ _ (block_new _ _) (Nat.le_refl _)).mono ?_
    rintro _ w2 ⟨v', rfl, hrow, hgrow⟩
    have HR := hidE hrow
    have HW := hidE hgrow
    clear hrow hgrow
    go_wp2
    go_ret
    refine ⟨_, rfl, HR.out, ?_, ?_, HW.out.lt⟩
    · exact ((Keeps.refl _ _).alloc _).trans HW.out.keeps
    · intro k hk
      rcases HW.out.fresh k hk with h | h
      · exact .inl h
      · exact .inr (by simp at h; omega)
  · simp only [if_true]
    go_enter Tryz.func49, Tryz.ntmps49
    go_wp2_with fail
    refine HS.out.mono ?_
    rintro _ w1 ⟨rfl, rfl⟩
    go_wp2
    go_ret
    exact ⟨_, rfl, HH.out, HG.out⟩
end Go.Proofs.YtjkjnomhggmplaaGreat
