/- The document's sets: withInt and withPage of the reference of layer 18. The document's scan in plain words, and that it is the program's. The document's Decode (the reference of layer 2) is isa's. -/
import Derived.Test.YtjkjnomhggmplaaGreatPutI
import Derived.Test.YtjkjnomhggmplaaGreatScanD
import Derived.Test.YtjkjnomhggmplaaGreatScanG
import Derived.Test.YtjkjnomhggmplaaGreatRef3
import Derived.Test.YtjkjnomhggmplaaGreatMay2b
import Derived.Test.YtjkjnomhggmplaaGreatGuest
import Derived.Test.YtjkjnomhggmplaaGreatRa
import Derived.Deep.Cut
namespace Go.Proofs.YtjkjnomhggmplaaGreat
open Go.RowKit
attribute [local go_sem ↓] Go.wp_at_zero Go.wp_at_succ

/-- A row of the call's own. -/
def OwnI (w wr : World) (v : Value) (ms : List Int) : Prop := rowI wr w.heap.size v ms ∧ Same w wr
def OwnU (w wr : World) (v : Value) (ms : List Int) : Prop := rowU wr w.heap.size v ms ∧ Same w wr
section
variable {w wr w1 : World} {v v1 : Value} {ms ns : List Int}
theorem OwnI.alloc (h : OwnI w wr v ms) (o : Obj) : rowI (wr.alloc o) w.heap.size v ms := owns_keeps h.1 ((Keeps.refl (fun _ => False) _).alloc o) (fun _ _ => id)
theorem OwnU.alloc (h : OwnU w wr v ms) (o : Obj) : rowU (wr.alloc o) w.heap.size v ms := owns_keeps h.1 ((Keeps.refl (fun _ => False) _).alloc o) (fun _ _ => id)
theorem OwnI.grow {o : Obj} (h : OwnI w wr v ms) (h1 : rowI w1 w.heap.size v1 ns) (hg : GrewS (wr.alloc o) w1 v v1) : OwnI w w1 v1 ns :=
  ⟨h1, same_then (h.2.alloc o) hg.keeps (fun k hk => (owns_lt h.1 k hk).1)⟩
theorem OwnU.grow {o : Obj} (h : OwnU w wr v ms) (h1 : rowU w1 w.heap.size v1 ns) (hg : GrewS (wr.alloc o) w1 v v1) : OwnU w w1 v1 ns :=
  ⟨h1, same_then (h.2.alloc o) hg.keeps (fun k hk => (owns_lt h.1 k hk).1)⟩
theorem OwnI.low (h : OwnI w wr v ms) : rowI wr 0 v ms := owns_mono h.1 (Nat.zero_le _)
theorem OwnU.low (h : OwnU w wr v ms) : rowU wr 0 v ms := owns_mono h.1 (Nat.zero_le _)
end
/-- withInt under way: c of the row's are less than x. -/
def wiL (xs : List Int) (x : Int) (c j : Nat) : List Int := if j ≤ c then xs.take j else xs.take c ++ x :: (xs.drop c).take (j - c)
theorem wiL_step {xs : List Int} {x : Int} {c j : Nat} (h : j < xs.length) (hc : j ≠ c) : wiL xs x c (j + 1) = wiL xs x c j ++ [xs[j]] := by
  unfold wiL
  by_cases hj : j < c
  · rw [if_pos (by omega), if_pos (by omega), List.take_succ_eq_append_getElem h]
  · rw [if_neg (by omega), if_neg (by omega), List.append_assoc, List.cons_append, show j + 1 - c = (j - c) + 1 by omega]
    have hd : j - c < (xs.drop c).length := by simp; omega
    rw [List.take_succ_eq_append_getElem hd]
    simp only [List.getElem_drop, show c + (j - c) = j by omega]
theorem wiL_mid {xs : List Int} {x : Int} {c : Nat} (h : c < xs.length) : wiL xs x c (c + 1) = (wiL xs x c c ++ [x]) ++ [xs[c]] := by
  unfold wiL
  rw [if_neg (by omega), if_pos (Nat.le_refl _), show c + 1 - c = 0 + 1 by omega]
  have hd : 0 < (xs.drop c).length := by simp; omega
  rw [List.take_succ_eq_append_getElem hd]
  simp
theorem wiL_len {xs : List Int} {x : Int} {c j : Nat} (h : j ≤ xs.length) : (wiL xs x c j).length ≤ j + 1 := by
  unfold wiL
  split
  · simp; omega
  · simp; omega
theorem wiL_end {xs : List Int} {x : Int} (hx : x ∉ xs) : (xs.countP (· < x) = xs.length → wiL xs x (xs.countP (· < x)) xs.length ++ [x] = putL xs x) ∧ (xs.countP (· < x) < xs.length → wiL xs x (xs.countP (· < x)) xs.length = putL xs x) := by
  have hp : putL xs x = xs.take (xs.countP (· < x)) ++ x :: xs.drop (xs.countP (· < x)) := by
    unfold putL
    rw [if_neg (by simpa using hx)]
  generalize xs.countP (· < x) = c at *
  rw [hp]
  unfold wiL
  refine ⟨fun h => ?_, fun h => ?_⟩
  · subst h
    simp
  · rw [if_neg (by omega), List.take_of_length_le (l := xs.drop c) (by simp)]
theorem rising_at {xs : List Int} (h : Rising xs) (x : Int) {j : Nat} (hj : j < xs.length) (hne : xs[j] ≠ x) : (j < xs.countP (· < x) ∧ xs[j] < x) ∨ (xs.countP (· < x) ≤ j ∧ x < xs[j]) := by
  obtain ⟨h1, h2⟩ := count_split h x
  by_cases hc : j < xs.countP (· < x)
  · exact .inl ⟨hc, h1 _ (List.mem_take_iff_getElem.2 ⟨j, by omega, rfl⟩)⟩
  · refine .inr ⟨by omega, ?_⟩
    have := h2 xs[j] (List.mem_drop_iff_getElem.2 ⟨j - xs.countP (· < x), by omega, by congr 1; omega⟩)
    omega
theorem count_le {xs : List Int} (x : Int) : xs.countP (· < x) ≤ xs.length := List.countP_le_length
theorem putL_mem {xs : List Int} {x : Int} (h : x ∈ xs) : putL xs x = xs := by
  unfold putL
  rw [if_pos (by simpa using h)]

set_option maxRecDepth 100000 in
set_option maxHeartbeats 4000000 in
theorem d_withInt (w : World) (v : Value) (xs : List Int) (x : Int) (h : rowI w 0 v xs) (hr : Rising xs) (hl : xs.length ≤ 10000) :
    Calls Tryz.prog 53 #[v, .int .i64 x] w fun e w' => ∃ v', e = .returned v' ∧ rowI w' 0 v' (putL xs x) ∧ Same w w' := by
  have HH := hidE h
  have HR := hidE (fun (j : Nat) (hj : j < xs.length) => rising_at hr x hj)
  have HE := hidE (wiL_end (xs := xs) (x := x))
  have hcl := count_le (xs := xs) x
  have hown : OwnI w w (.slice none 0 0) [] := ⟨World.ownsRow_nil _ _ _ _, Keeps.refl _ _⟩
  have HO := hidE hown
  obtain ⟨p, cap, rfl⟩ := owns_sl h
  clear h hown hr
  generalize xs.countP (· < x) = c at *
  go_enter Tryz.func53, Tryz.ntmps53
  go_wp2_with fail
  go_loopw [5, 6, 7] (fun t5 t6 t7 wr => ∃ j : Nat, j ≤ xs.length ∧ t7 = .int .i64 j ∧ t6 = .bool (decide (c < j)) ∧ OwnI w wr t5 (wiL xs x c j) ∧ ∀ i (hi : i < xs.length), i < j → xs[i] ≠ x) (fun _ _ t7 _ => xs.length - (intOf t7).toNat)
  case atStart => exact ⟨0, by omega, rfl, by simp, by simpa [wiL] using HO.out, fun i _ h => by omega⟩
  case round =>
    obtain ⟨j, hj, rfl, rfl, hS, hN⟩ := hrel
    have HS := hidE hS
    have HN := hidE hN
    have hml := wiL_len (x := x) (c := c) hj
    have e3 := wrapI ((j : Int) + 1) (by omega) (by omega)
    obtain ⟨q, cm, rfl⟩ := owns_sl hS.1
    clear hS hN HO
    by_cases hlt : j < xs.length
    · have p0 : decide ((j : Int) < (xs.length : Int)) = true := decide_eq_true (by omega)
      obtain ⟨g, cp, hv, -, -, -, -, hc⟩ := rowI_get HH.out hlt
      obtain rfl : p = some ⟨g, 0, none⟩ := by cases hv; rfl
      have c0 := cell_same HS.out.2 (hc j hlt)
      have HCw := hidE (hc j hlt)
      clear hv hc
      by_cases hy : xs[j] = x
      · have HP := hidE (putL_mem (x := x) (by rw [← hy]; exact List.getElem_mem hlt))
        have e9 : (xs[j] == x) = true := beq_iff_eq.2 hy
        have hyy := hidE hy
        clear hy
        generalize xs[j] = y at *
        go_wp2_with fail
        go_ret
        refine ⟨_, rfl, ?_, HS.out.2⟩
        rw [HP.out]
        exact owns_keeps HH.out HS.out.2 (fun _ _ => id)
      · have e9 : (xs[j] == x) = false := beq_eq_false_iff_ne.2 hy
        have hs := HR.out j hlt hy
        have HNN := hidE (show ∀ i (hi : i < xs.length), i < j + 1 → xs[i] ≠ x from fun i hi hij => by
          by_cases h : i < j
          · exact HN.out i hi h
          · obtain rfl : i = j := by omega
            exact hy)
        clear hy
        by_cases hjc : j = c
        · subst hjc
          have e8 : decide (x < xs[j]) = true := decide_eq_true (by omega)
          have p1 : decide (j < j) = false := decide_eq_false (by omega)
          have HM := hidE (wiL_mid (x := x) hlt)
          have p2 : decide (j < j + 1) = true := decide_eq_true (by omega)
          clear hs
          generalize hms : wiL xs x j j = ms at *
          generalize xs[j] = y at *
          go_wp2_with (first
            | (at_builtin; (refine appendI rfl (.tmp 31) (.tmp 33) rfl w.heap.size _ ms rfl (HS.out.alloc (.cells #[.int .i64 x] 3)) _ 1 x rfl ⟨_, block_new _ _⟩ (by omega) (by have := HS.out.2.size; simp; omega) ?_; intro g1 cap1 w1 h1 h2; have HS1 := hidE (HS.out.grow h1 h2); have c1 := cell_same HS1.out.2 HCw.out; clear h1 h2))
            | (at_builtin; (refine appendI rfl (.tmp 35) (.tmp 40) rfl w.heap.size _ (ms ++ [x]) rfl (HS1.out.alloc (.cells #[.int .i64 y] 3)) _ 1 y rfl ⟨_, block_new _ _⟩ (by simp; omega) (by have := HS1.out.2.size; simp; omega) ?_; intro g2 cap2 w2 h1 h2; have HS2 := hidE (HS1.out.grow h1 h2); clear h1 h2)))
          go_roundw
          case rel => exact ⟨j + 1, by omega, by go_num, by rw [p2], by rw [HM.out]; have h := HS2.out; simp only [List.length_append, List.length_cons, List.length_nil] at h; exact h, HNN.out⟩
          case measure => simp only [intOf]; omega
        · have HM := hidE (wiL_step (x := x) hlt hjc)
          have p2 : decide (c < j + 1) = decide (c < j) := decide_eq_decide.2 (by omega)
          have HP2 := hidE p2
          clear p2
          by_cases hcj : c < j
          · have p1 : decide (c < j) = true := decide_eq_true hcj
            rw [p1] at HP2 ⊢
            clear hs
            generalize hms : wiL xs x c j = ms at *
            generalize hyy : xs[j] = y at *
            clear hyy
            go_wp2_with (at_builtin; go_loud (refine appendI rfl (.tmp 35) (.tmp 40) rfl w.heap.size _ ms rfl (HS.out.alloc (.cells #[.int .i64 y] 3)) _ 1 y rfl ⟨_, block_new _ _⟩ (by omega) (by have := HS.out.2.size; simp; omega) ?_; intro g2 cap2 w2 h1 h2; have HS2 := hidE (HS.out.grow h1 h2); clear h1 h2))
            go_roundw
            case rel => exact ⟨j + 1, by omega, by go_num, by rw [HP2.out], by rw [HM.out]; exact HS2.out, HNN.out⟩
            case measure => simp only [intOf]; omega
          · have p1 : decide (c < j) = false := decide_eq_false hcj
            have e8 : decide (x < xs[j]) = false := decide_eq_false (by omega)
            rw [p1] at HP2 ⊢
            clear hs
            generalize hms : wiL xs x c j = ms at *
            generalize hyy : xs[j] = y at *
            clear hyy
            go_wp2_with (at_builtin; go_loud (refine appendI rfl (.tmp 35) (.tmp 40) rfl w.heap.size _ ms rfl (HS.out.alloc (.cells #[.int .i64 y] 3)) _ 1 y rfl ⟨_, block_new _ _⟩ (by omega) (by have := HS.out.2.size; simp; omega) ?_; intro g2 cap2 w2 h1 h2; have HS2 := hidE (HS.out.grow h1 h2); clear h1 h2))
            go_roundw
            case rel => exact ⟨j + 1, by omega, by go_num, by rw [HP2.out], by rw [HM.out]; exact HS2.out, HNN.out⟩
            case measure => simp only [intOf]; omega
    · obtain rfl : j = xs.length := by omega
      have p0 : decide ((xs.length : Int) < (xs.length : Int)) = false := decide_eq_false (by omega)
      have hnx : x ∉ xs := fun hm => by
        obtain ⟨i, hi, he⟩ := List.getElem_of_mem hm
        exact HN.out i hi hi he
      have HF := hidE (HE.out hnx)
      clear hnx
      by_cases hcj : c < xs.length
      · have p1 : decide (c < xs.length) = true := decide_eq_true hcj
        rw [p1]
        have HQ := hidE (HF.out.2 hcj)
        go_wp2_with fail
        go_ret
        exact ⟨_, rfl, by rw [← HQ.out]; exact HS.out.low, HS.out.2⟩
      · have p1 : decide (c < xs.length) = false := decide_eq_false hcj
        rw [p1]
        have HQ := hidE (HF.out.1 (by omega))
        go_wp2_with (at_builtin; go_loud (refine appendI rfl (.tmp 44) (.tmp 46) rfl w.heap.size _ _ rfl (HS.out.alloc (.cells #[.int .i64 x] 3)) _ 1 x rfl ⟨_, block_new _ _⟩ (by omega) (by have := HS.out.2.size; simp; omega) ?_; intro g2 cap2 w2 h1 h2; have HS2 := hidE (HS.out.grow h1 h2); clear h1 h2))
        go_ret
        exact ⟨_, rfl, by rw [← HQ.out]; exact HS2.out.low, HS2.out.2⟩
def pageL (xs : List Int) (x : Int) : List Int := if x ∈ xs then xs else xs ++ [x]
set_option maxRecDepth 100000 in
set_option maxHeartbeats 4000000 in
theorem d_withPage (w : World) (v : Value) (xs : List Int) (x : Int) (h : rowU w 0 v xs) (hl : xs.length ≤ 10000) :
    Calls Tryz.prog 54 #[v, .int .u32 x] w fun e w' => ∃ v', e = .returned v' ∧ rowU w' 0 v' (pageL xs x) ∧ Same w w' ∧ (∀ k, some k = v'.ownBlock → some k = v.ownBlock ∨ w.heap.size ≤ k) := by
  have HH := hidE h
  have hown : OwnU w w (.slice none 0 0) [] := ⟨World.ownsRow_nil _ _ _ _, Keeps.refl _ _⟩
  have HO := hidE hown
  obtain ⟨p, cap, rfl⟩ := owns_sl h
  clear h hown
  go_enter Tryz.func54, Tryz.ntmps54
  go_wp2_with fail
  go_loopw [5, 6] (fun t5 t6 wr => ∃ j : Nat, j ≤ xs.length ∧ t6 = .int .i64 j ∧ OwnU w wr t5 (xs.take j) ∧ ∀ i (hi : i < xs.length), i < j → xs[i] ≠ x) (fun _ t6 _ => xs.length - (intOf t6).toNat)
  case atStart => exact ⟨0, by omega, rfl, by simpa using HO.out, fun i _ h => by omega⟩
  case round =>
    obtain ⟨j, hj, rfl, hS, hN⟩ := hrel
    have HS := hidE hS
    have HN := hidE hN
    have hml : (xs.take j).length ≤ 10000 := by simp; omega
    have e3 := wrapI ((j : Int) + 1) (by omega) (by omega)
    obtain ⟨q, cm, rfl⟩ := owns_sl hS.1
    clear hS hN HO
    by_cases hlt : j < xs.length
    · have p0 : decide ((j : Int) < (xs.length : Int)) = true := decide_eq_true (by omega)
      obtain ⟨g, cp, hv, -, -, -, -, hc⟩ := rowU_get HH.out hlt
      obtain rfl : p = some ⟨g, 0, none⟩ := by cases hv; rfl
      have c0 := cell_same HS.out.2 (hc j hlt)
      clear hv hc
      by_cases hy : xs[j] = x
      · have hm : x ∈ xs := by rw [← hy]; exact List.getElem_mem hlt
        have HP := hidE (show pageL xs x = xs by unfold pageL; rw [if_pos hm])
        have e9 : (xs[j] == x) = true := beq_iff_eq.2 hy
        clear hy hm
        generalize hyy : xs[j] = y at *
        clear hyy
        go_wp2_with fail
        go_ret
        refine ⟨_, rfl, ?_, HS.out.2, fun k h => .inl h⟩
        rw [HP.out]
        exact owns_keeps HH.out HS.out.2 (fun _ _ => id)
      · have e9 : (xs[j] == x) = false := beq_eq_false_iff_ne.2 hy
        have HNN := hidE (show ∀ i (hi : i < xs.length), i < j + 1 → xs[i] ≠ x from fun i hi hij => by
          by_cases h : i < j
          · exact HN.out i hi h
          · obtain rfl : i = j := by omega
            exact hy)
        have HM := hidE (List.take_succ_eq_append_getElem hlt)
        clear hy
        generalize hms : xs.take j = ms at *
        generalize hyy : xs[j] = y at *
        clear hyy hms
        go_wp2_with (at_builtin; go_loud (refine appendU rfl (.tmp 20) (.tmp 25) rfl w.heap.size _ ms rfl (HS.out.alloc (.cells #[.int .u32 y] 25)) _ 1 y rfl ⟨_, block_new _ _⟩ (by omega) (by have := HS.out.2.size; simp; omega) ?_; intro g2 cap2 w2 h1 h2; have HS2 := hidE (HS.out.grow h1 h2); clear h1 h2))
        go_roundw
        case rel => exact ⟨j + 1, by omega, by go_num, by rw [HM.out]; exact HS2.out, HNN.out⟩
        case measure => simp only [intOf]; omega
    · obtain rfl : j = xs.length := by omega
      have p0 : decide ((xs.length : Int) < (xs.length : Int)) = false := decide_eq_false (by omega)
      have hnx : x ∉ xs := fun hm => by
        obtain ⟨i, hi, he⟩ := List.getElem_of_mem hm
        exact HN.out i hi hi he
      have HF := hidE (show pageL xs x = xs ++ [x] by unfold pageL; rw [if_neg hnx])
      rw [List.take_length] at HS hml ⊢
      clear hnx
      go_wp2_with (at_builtin; go_loud (refine appendU rfl (.tmp 27) (.tmp 29) rfl w.heap.size _ _ rfl (HS.out.alloc (.cells #[.int .u32 x] 25)) _ 1 x rfl ⟨_, block_new _ _⟩ (by omega) (by have := HS.out.2.size; simp; omega) ?_; intro g2 cap2 w2 h1 h2; have HS2 := hidE (HS.out.grow h1 h2); clear h1 h2))
      go_ret
      exact ⟨_, rfl, by rw [HF.out]; exact HS2.out.low, HS2.out.2, fun k h => .inr (owns_lt HS2.out.1 k h).1⟩
end Go.Proofs.YtjkjnomhggmplaaGreat
namespace Go.Proofs.YtjkjnomhggmplaaGreat
open Go.RowKit

theorem mem_foldP {z : Int} : ∀ (l xs : List Int), z ∈ l.foldl putL xs ↔ z ∈ l ∨ z ∈ xs
  | [], xs => by simp
  | a :: l, xs => by
    rw [List.foldl_cons, mem_foldP l (putL xs a), mem_putL, List.mem_cons]
    constructor
    · rintro (h | h | h)
      · exact .inl (.inr h)
      · exact .inl (.inl h)
      · exact .inr h
    · rintro ((h | h) | h)
      · exact .inr (.inl h)
      · exact .inl h
      · exact .inr (.inr h)
theorem rising_ext : ∀ {l r : List Int}, Rising l → Rising r → (∀ y, y ∈ l ↔ y ∈ r) → l = r
  | [], [], _, _, _ => rfl
  | [], b :: r, _, _, h => absurd ((h b).2 (by simp)) (by simp)
  | a :: l, [], _, _, h => absurd ((h a).1 (by simp)) (by simp)
  | a :: l, b :: r, hl, hr, h => by
    obtain ⟨l1, l2⟩ := List.pairwise_cons.1 hl
    obtain ⟨r1, r2⟩ := List.pairwise_cons.1 hr
    have hab : a = b := by
      rcases List.mem_cons.1 ((h a).1 (by simp)) with e | e
      · exact e
      · rcases List.mem_cons.1 ((h b).2 (by simp)) with e' | e'
        · exact e'.symm
        · have := l1 _ e'; have := r1 _ e; omega
    subst hab
    congr 1
    refine rising_ext l2 r2 fun y => ⟨fun hy => ?_, fun hy => ?_⟩
    · rcases List.mem_cons.1 ((h y).1 (by simp [hy])) with e | e
      · have := l1 _ hy; omega
      · exact e
    · rcases List.mem_cons.1 ((h y).2 (by simp [hy])) with e | e
      · have := r1 _ hy; omega
      · exact e
theorem rising_nodup {l : List Int} (h : Rising l) : l.Nodup := h.imp (fun h e => by omega)
theorem mem_pageL {xs : List Int} {x y : Int} : y ∈ pageL xs x ↔ y = x ∨ y ∈ xs := by
  unfold pageL
  split
  · rename_i h
    constructor
    · exact .inr
    · rintro (rfl | h')
      · exact h
      · exact h'
  · simp [or_comm]
theorem nodup_pageL {xs : List Int} {x : Int} (h : xs.Nodup) : (pageL xs x).Nodup := by
  unfold pageL
  split
  · exact h
  · rename_i hx
    rw [List.nodup_append]
    exact ⟨h, by simp, fun a ha b hb e => hx (by simp at hb; subst hb; subst e; exact ha)⟩
theorem len_same {l r : List Int} (hl : l.Nodup) (hr : r.Nodup) (h : ∀ y, y ∈ l ↔ y ∈ r) : l.length = r.length :=
  ((List.perm_ext_iff_of_nodup hl hr).2 h).length_eq

/-- One byte, and what is gone through for it, as the document has it. -/
def byteD (R : RamAt) (M : List Int) (root ps va : Nat) (f : Fd) : Option Int × Fd :=
  match toL R M root ps va 1 with
  | none => (none, f)
  | some a =>
    (some (R.get M a), ⟨putL f.fr ((a : Int) / 64), if ps / 4 % 2 = 0 then f.tb else putL (putL f.tb (((lookL R M root va).getD way0).dir : Nat)) (((lookL R M root va).getD way0).tab : Nat), pageL f.pg ((va : Int) / 64)⟩)
def moreD (R : RamAt) (M : List Int) (root ps pc : Nat) : Nat → List Int → Fd → Option Nat × List Int × Fd
  | 0, bs, f => (none, bs, f)
  | k + 1, bs, f => match byteD R M root ps ((pc + bs.length) % 4294967296) f with
    | (none, f') => (some ((pc + bs.length) % 4294967296), bs, f')
    | (some x, f') => moreD R M root ps pc k (bs ++ [x]) f'
def restD (R : RamAt) (M : List Int) (root ps pc : Nat) (bs : List Int) (f : Fd) : Fetched :=
  match moreD R M root ps pc ((formL (headX bs) false).n.toNat - bs.length) bs f with
  | (some va, _, f') => ⟨5, va, in0, 0, f'⟩
  | (none, bs', f') => decR pc bs' f'
def fetchD (R : RamAt) (M : List Int) (root ps pc : Nat) (f : Fd) : Fetched :=
  match byteD R M root ps (pc % 4294967296) f with
  | (none, f') => ⟨5, pc % 4294967296, in0, 0, f'⟩
  | (some x, f') => restD R M root ps pc [x] f'
/-- What the document has beside what the program has: g all, f its own, f0 what was ahead. -/
structure RelF (f0 f g : Fd) : Prop where
  fr : g.fr = f.fr.foldl putL f0.fr
  tb : g.tb = f.tb.foldl putL f0.tb
  pm : ∀ y, y ∈ g.pg ↔ y ∈ f.pg ∨ y ∈ f0.pg
  pn : g.pg.Nodup
  r1 : Rising f.fr
  r2 : Rising f.tb
  r3 : Rising f.pg
theorem fold_putL {xs l : List Int} (hx : Rising xs) (_hl : Rising l) (x : Int) : (putL l x).foldl putL xs = putL (l.foldl putL xs) x := by
  refine rising_ext (rising_fold _ _ hx) (rising_putL (rising_fold _ _ hx) _) fun y => ?_
  rw [mem_foldP, mem_putL, mem_putL, mem_foldP]
  constructor
  · rintro ((h | h) | h)
    · exact .inl h
    · exact .inr (.inl h)
    · exact .inr (.inr h)
  · rintro (h | h | h)
    · exact .inl (.inl h)
    · exact .inl (.inr h)
    · exact .inr h
theorem byteD_rel {R : RamAt} {M : List Int} {root ps va : Nat} {f0 f g : Fd} (b1 : Rising f0.fr) (b2 : Rising f0.tb) (h : RelF f0 f g) :
    (byteD R M root ps va g).1 = (byteL R M root ps va f).1 ∧ RelF f0 (byteL R M root ps va f).2 (byteD R M root ps va g).2 := by
  unfold byteD byteL
  cases toL R M root ps va 1 with
  | none => exact ⟨rfl, h⟩
  | some a =>
    refine ⟨rfl, ?_, ?_, fun y => ?_, nodup_pageL h.pn, rising_putL h.r1 _, ?_, rising_putL h.r3 _⟩
    · simp only
      rw [fold_putL b1 h.r1, h.fr]
    · simp only
      split
      · exact h.tb
      · rw [fold_putL b2 (rising_putL h.r2 _), fold_putL b2 h.r2, h.tb]
    · simp only
      rw [mem_pageL, mem_putL, h.pm]
      constructor
      · rintro (h | h | h)
        · exact .inl (.inl h)
        · exact .inl (.inr h)
        · exact .inr h
      · rintro ((h | h) | h)
        · exact .inl h
        · exact .inr (.inl h)
        · exact .inr (.inr h)
    · simp only
      split
      · exact h.r2
      · exact rising_putL (rising_putL h.r2 _) _
theorem moreD_rel {R : RamAt} {M : List Int} {root ps pc : Nat} {f0 : Fd} (b1 : Rising f0.fr) (b2 : Rising f0.tb) : ∀ (k : Nat) (bs : List Int) {f g : Fd}, RelF f0 f g →
    (moreD R M root ps pc k bs g).1 = (moreL R M root ps pc k bs f).1 ∧ (moreD R M root ps pc k bs g).2.1 = (moreL R M root ps pc k bs f).2.1 ∧ RelF f0 (moreL R M root ps pc k bs f).2.2 (moreD R M root ps pc k bs g).2.2
  | 0, bs, f, g, h => ⟨rfl, rfl, h⟩
  | k + 1, bs, f, g, h => by
    obtain ⟨h1, h2⟩ := byteD_rel (R := R) (M := M) (root := root) (ps := ps) (va := (pc + bs.length) % 4294967296) b1 b2 h
    unfold moreD moreL
    revert h1 h2
    generalize byteD R M root ps ((pc + bs.length) % 4294967296) g = X
    generalize byteL R M root ps ((pc + bs.length) % 4294967296) f = Y
    obtain ⟨x, g'⟩ := X
    obtain ⟨y, f'⟩ := Y
    intro h1 h2
    simp only at h1 h2
    subst h1
    cases x with
    | none => exact ⟨rfl, rfl, h2⟩
    | some v => exact moreD_rel b1 b2 k _ h2
theorem decR_eq (pc : Nat) (bs : List Int) (f g : Fd) : (decR pc bs g).c = (decR pc bs f).c ∧ (decR pc bs g).a = (decR pc bs f).a ∧ (decR pc bs g).i = (decR pc bs f).i ∧ (decR pc bs g).sz = (decR pc bs f).sz ∧ (decR pc bs g).f = g ∧ (decR pc bs f).f = f := by
  unfold decR
  split <;> exact ⟨rfl, rfl, rfl, rfl, rfl, rfl⟩
/-- The document's fetch beside the program's. -/
structure RelZ (f0 : Fd) (z y : Fetched) : Prop where
  c : y.c = z.c
  a : y.a = z.a
  i : y.i = z.i
  sz : y.sz = z.sz
  f : RelF f0 z.f y.f
theorem fetchD_rel {R : RamAt} {M : List Int} {root ps pc : Nat} {f0 : Fd} (b1 : Rising f0.fr) (b2 : Rising f0.tb) (b3 : f0.pg.Nodup) : RelZ f0 (fetchL R M root ps pc) (fetchD R M root ps pc f0) := by
  have h0 : RelF f0 fd0 f0 := ⟨rfl, rfl, fun y => by simp [fd0], b3, List.Pairwise.nil, List.Pairwise.nil, List.Pairwise.nil⟩
  obtain ⟨h1, h2⟩ := byteD_rel (R := R) (M := M) (root := root) (ps := ps) (va := pc % 4294967296) b1 b2 h0
  unfold fetchD fetchL
  revert h1 h2
  generalize byteD R M root ps (pc % 4294967296) f0 = X
  generalize byteL R M root ps (pc % 4294967296) fd0 = Y
  obtain ⟨x, g'⟩ := X
  obtain ⟨y, f'⟩ := Y
  intro h1 h2
  simp only at h1 h2
  subst h1
  cases x with
  | none => exact ⟨rfl, rfl, rfl, rfl, h2⟩
  | some v =>
    simp only
    unfold restD restL
    obtain ⟨h3, h4, h5⟩ := moreD_rel (R := R) (M := M) (root := root) (ps := ps) (pc := pc) b1 b2 ((formL (headX [v]) false).n.toNat - [v].length) [v] h2
    revert h3 h4 h5
    generalize moreD R M root ps pc ((formL (headX [v]) false).n.toNat - [v].length) [v] g' = X
    generalize moreL R M root ps pc ((formL (headX [v]) false).n.toNat - [v].length) [v] f' = Y
    obtain ⟨x, bs, g⟩ := X
    obtain ⟨y, bs', f⟩ := Y
    intro h3 h4 h5
    simp only at h3 h4 h5
    subst h3 h4
    cases x with
    | some va => exact ⟨rfl, rfl, rfl, rfl, h5⟩
    | none =>
      obtain ⟨e1, e2, e3, e4, e5, e6⟩ := decR_eq pc bs f g
      exact ⟨e1, e2, e3, e4, by simp only; rw [e5, e6]; exact h5⟩
def layD (b : Bl) (i : In) (sz : Int) (f : Fd) : Bl := ⟨b.ins ++ [i], b.at_ ++ [(b.next : Int)], (b.next + sz.toNat) % 4294967296, b.to, b.en, f.fr, f.tb⟩
def goD (R : RamAt) (M : List Int) (root ps : Nat) : Nat → Bl → List Int → Scanned
  | 0, b, _ => ⟨0, 0, b⟩
  | n + 1, b, pg =>
    let z := fetchD R M root ps b.next ⟨b.fr, b.tb, pg⟩
    if z.c ≠ 0 ∧ b.ins.length = 0 then ⟨z.c, z.a, bl0⟩ else
    if z.c ≠ 0 ∨ 2 < z.f.pg.length then ⟨0, 0, b⟩ else
    if ending3 z.i.op then ⟨0, 0, endB (layD b z.i z.sz z.f) z.i⟩ else goD R M root ps n (layD b z.i z.sz z.f) z.f.pg
def scanD (R : RamAt) (M : List Int) (root ps pc : Nat) (most : Int) : Scanned := goD R M root ps (limN most) ⟨[], [], pc, 0, 1, [], []⟩ []
theorem ends_all : ∀ n : Fin 256, decide (3 ≤ (kindM (n.val : Int)).1) = ending3 (n.val : Int) := by decide +kernel
theorem ends_same (op : Int) (h0 : 0 ≤ op) (h1 : op < 256) : decide (3 ≤ (kindM op).1) = ending3 op := by
  obtain ⟨n, rfl⟩ := Int.eq_ofNat_of_zero_le h0
  exact ends_all ⟨n, by omega⟩
theorem goD_goL {w : World} {R : RamAt} {M : List Int} (H : IsRam w R M) {root ps : Nat} : ∀ (n : Nat) (b : Bl) (pg qg : List Int), Rising b.fr → Rising b.tb → Rising pg → qg.Nodup → (∀ y, y ∈ qg ↔ y ∈ pg) → goD R M root ps n b qg = goL R M root ps n b pg
  | 0, _, _, _, _, _, _, _, _ => rfl
  | n + 1, b, pg, qg, b1, b2, b3, b4, hm => by
    have hz := fetchD_rel (R := R) (M := M) (root := root) (ps := ps) (pc := b.next) (f0 := ⟨b.fr, b.tb, qg⟩) b1 b2 b4
    have ho := fetchL_ok H root ps b.next
    unfold goD goL
    simp only
    revert hz ho
    generalize fetchD R M root ps b.next ⟨b.fr, b.tb, qg⟩ = y
    generalize fetchL R M root ps b.next = z
    intro hz ho
    have hmem : ∀ v, v ∈ y.f.pg ↔ v ∈ z.f.pg.foldl putL pg := fun v => by
      rw [hz.f.pm, mem_foldP]
      exact or_congr_right (hm v)
    have hlen : y.f.pg.length = (z.f.pg.foldl putL pg).length := len_same hz.f.pn (rising_nodup (rising_fold _ _ b3)) hmem
    have hlay : layD b y.i y.sz y.f = layL b z.i z.sz z.f := by
      unfold layD layL
      rw [hz.i, hz.sz, hz.f.fr, hz.f.tb]
    rw [hz.c, hz.a, hlen, hlay, hz.i]
    by_cases c0 : z.c ≠ 0 ∧ b.ins.length = 0
    · rw [if_pos c0, if_pos c0]
    rw [if_neg c0, if_neg c0]
    by_cases c1 : z.c ≠ 0 ∨ 2 < (z.f.pg.foldl putL pg).length
    · rw [if_pos c1, if_pos c1]
    rw [if_neg c1, if_neg c1]
    have he := ends_same z.i.op ho.o0 ho.o1
    by_cases c2 : 3 ≤ (kindM z.i.op).1
    · rw [if_pos c2, if_pos (by rw [← he]; exact decide_eq_true c2)]
    · rw [if_neg c2, if_neg (by rw [← he]; simp [c2])]
      exact goD_goL H n _ _ _ (rising_fold _ _ b1) (rising_fold _ _ b2) (rising_fold _ _ b3) hz.f.pn hmem
theorem scanD_scanL {w : World} {R : RamAt} {M : List Int} (H : IsRam w R M) (root ps pc : Nat) (most : Int) : scanD R M root ps pc most = scanL R M root ps pc most :=
  goD_goL H _ _ _ _ List.Pairwise.nil List.Pairwise.nil List.Pairwise.nil List.nodup_nil (fun _ => Iff.rfl)
end Go.Proofs.YtjkjnomhggmplaaGreat
namespace Go.Proofs.YtjkjnomhggmplaaGreat
open Go.RowKit
attribute [local go_sem ↓] Go.wp_at_zero Go.wp_at_succ

/-- A slice of bytes from its block's beginning. -/
def BySz (w : World) (a : Option Addr) (l : Nat) (X : Nat → Int) : Prop := l = 0 ∨ ∃ S, a = some ⟨S, 0, none⟩ ∧ ∀ j, j < l → 0 ≤ X j ∧ X j < 256 ∧ w.cell? ⟨S, j, none⟩ = some (.int .u8 (X j))
/-- The bytes' number, signed or not. -/
def sgnN (s : Int) (S n : Int) : Int := if s = 1 ∧ S / 2 ≤ n then n - S else n
theorem sgn_numL (f : Fm) (n : Int) (hm : f.m = 0 ∨ f.m = 1 ∨ f.m = 2 ∨ f.m = 4) (hs : f.s = 0 ∨ f.s = 1) (hsm : f.s = 1 → 1 ≤ f.m) (h0 : 0 ≤ n) (h1 : n < 256 ^ f.m.toNat) : IntKind.i32.wrap (sgnN f.s (256 ^ f.m.toNat) n) = numL f n := by
  obtain ⟨fn, fa, fb, fm, fs⟩ := f
  simp only at *
  unfold sgnN numL
  rcases hm with rfl | rfl | rfl | rfl <;> rcases hs with rfl | rfl <;> simp at h1 hsm ⊢ <;> simp [IntKind.wrap, IntKind.bits, IntKind.signed] <;> (repeat' split) <;> omega
theorem fm_sm (op : Int) (h : Bool) : (formL op h).s = 1 → 1 ≤ (formL op h).m := by
  have h9 := cls_le op h
  unfold formL
  generalize clsOf op h = c at h9
  rcases (show c = 0 ∨ c = 1 ∨ c = 2 ∨ c = 3 ∨ c = 4 ∨ c = 5 ∨ c = 6 ∨ c = 7 ∨ c = 8 ∨ c = 9 by omega) with rfl | rfl | rfl | rfl | rfl | rfl | rfl | rfl | rfl | rfl <;> simp [fmOf, fm0]
theorem pow_le (m : Int) (hm : m = 0 ∨ m = 1 ∨ m = 2 ∨ m = 4) : (1 : Int) ≤ 256 ^ m.toNat ∧ (256 : Int) ^ m.toNat ≤ 4294967296 := by
  rcases hm with rfl | rfl | rfl | rfl <;> simp
theorem st_I {W : World} {b : Nat} (h : (rowAt W b).size = 3 + 1) (x y z u : Int) :
    (stRow 67 (.pointer (some ⟨b, 0, none⟩)) (.agg #[.int .u8 x, .int .u8 y, .int .u8 z, .int .i32 u])).run Tryz.prog W = .ok .skip (W.setRow b #[.int .u8 x, .int .u8 y, .int .u8 z, .int .i32 u]) :=
  stRow_run W _ _ 3 _ (by kernel_rfl) h rfl (by simp [Ones, Value.oneCell'])
set_option maxRecDepth 100000 in
set_option maxHeartbeats 8000000 in
theorem d_decode (a : Option Addr) (l c : Nat) (X : Nat → Int) (w : World) (hl : l ≤ 1000) (hX : BySz w a l X) :
    Calls Tryz.prog 57 #[.slice a l c, .bool false] w fun e w' => e = .returned (decV (decL X l false)) ∧ Same w w' := by
  obtain ⟨Q, hQ⟩ : ∃ Q, Q = decL X l false := ⟨_, rfl⟩
  rw [← hQ]
  unfold decL at hQ
  by_cases hl0 : l = 0
  · subst hl0
    rw [if_pos rfl] at hQ
    subst hQ
    simp only [decV, inA, in0]
    clear hX
    go_enter Tryz.func57, Tryz.ntmps57
    go_wp2
    exact bodyPost_ret (results_ctt rfl rfl (by repeat (first | with_reducible exact A4 | with_reducible exact block_new _ _ | with_reducible refine block_old _ ?_ | with_reducible refine block_drew ?_ | with_reducible apply block_set)) Tryz.underlying67 rfl (by kernel_rfl)) rfl ⟨by rfl, by first | exact (Keeps.refl _ _).alloc _ | (repeat (first | with_reducible exact HK1.out | with_reducible exact HK0.out | refine Keeps.setCell ?_ (fun h => absurd h (by simp only; omega)) _ | refine Keeps.alloc ?_ _ | refine Keeps.drew ?_))⟩
  rw [if_neg hl0] at hQ
  obtain ⟨S, rfl, hB⟩ := hX.resolve_left hl0
  obtain ⟨x0, x1, xc⟩ := hB 0 (by omega)
  obtain ⟨hm, hs, ha, hb, hz, hn⟩ := fm_facts (X 0) false
  have hsm := fm_sm (X 0) false
  have HO := hidE (of2_any (X 0) false x0 x1)
  rw [of2_form (X 0) false x0 x1] at HO
  have hlb : ((l : Int) == 0) = false := by simp; omega
  have hlp : (0 : Int) < l := by omega
  have HB := hidE hB
  clear hX hB
  generalize hF : formL (X 0) false = f at *
  have hSl : S < w.heap.size := lt_of_cell xc
  have HK0 := hidE ((Keeps.refl (fun _ => False) w).alloc (.cells #[.int .u8 0, .int .u8 0, .int .u8 0, .int .i32 0] 67))
  have xc := cell_same HK0.out xc
  by_cases hn0 : f.n = 0
  · rw [if_pos hn0] at hQ
    subst hQ
    simp only [decV, inA, in0]
    have hf0 : f = fm0 := by rcases hz with hz | hz; exact hz; omega
    subst hf0
    clear hm hs ha hb hz hn hn0 hsm
    go_enter Tryz.func57, Tryz.ntmps57
    go_wp2_with fail
    refine (HO.out _).mono ?_
    rintro _ w1 ⟨rfl, hk⟩
    have A4 := hk.get (block_new w _) id
    have HK1 := hidE (HK0.out.trans hk)
    have e4 := cell_of A4
    have f4 := frozen_of A4
    have hlt := lt_of_block A4
    have hs1 := hk.size
    clear hk
    simp only [fm0]
    go_wp2
    exact bodyPost_ret (results_ctt rfl rfl (by repeat (first | with_reducible exact A4 | with_reducible exact block_new _ _ | with_reducible refine block_old _ ?_ | with_reducible refine block_drew ?_ | with_reducible apply block_set)) Tryz.underlying67 rfl (by kernel_rfl)) rfl ⟨by rfl, by first | exact (Keeps.refl _ _).alloc _ | (repeat (first | with_reducible exact HK1.out | with_reducible exact HK0.out | refine Keeps.setCell ?_ (fun h => absurd h (by simp only; omega)) _ | refine Keeps.alloc ?_ _ | refine Keeps.drew ?_))⟩
  rw [if_neg hn0] at hQ
  have hne : (f.n == 0) = false := by simpa using hn0
  by_cases hln : (l : Int) < f.n
  · rw [if_pos hln] at hQ
    subst hQ
    simp only [decV, inA, in0]
    have hq : decide ((l : Int) < f.n) = true := decide_eq_true hln
    clear hm hs ha hb hz hn hn0 hsm
    obtain ⟨fn, fa, fb, fm, fs⟩ := f
    simp only at *
    generalize decide (fa = 1) = A at *
    generalize decide (fb = 1) = B at *
    generalize decide (fs = 1) = G at *
    go_enter Tryz.func57, Tryz.ntmps57
    go_wp2_with fail
    refine (HO.out _).mono ?_
    rintro _ w1 ⟨rfl, hk⟩
    have A4 := hk.get (block_new w _) id
    have HK1 := hidE (HK0.out.trans hk)
    have e4 := cell_of A4
    have f4 := frozen_of A4
    have hlt := lt_of_block A4
    clear hk
    go_wp2
    exact bodyPost_ret (results_ctt rfl rfl (by repeat (first | with_reducible exact A4 | with_reducible exact block_new _ _ | with_reducible refine block_old _ ?_ | with_reducible refine block_drew ?_ | with_reducible apply block_set)) Tryz.underlying67 rfl (by kernel_rfl)) rfl ⟨by rfl, by first | exact (Keeps.refl _ _).alloc _ | (repeat (first | with_reducible exact HK1.out | with_reducible exact HK0.out | refine Keeps.setCell ?_ (fun h => absurd h (by simp only; omega)) _ | refine Keeps.alloc ?_ _ | refine Keeps.drew ?_))⟩
  rw [if_neg hln] at hQ
  have hq : decide ((l : Int) < f.n) = false := decide_eq_false hln
  rw [if_neg (by intro e; rw [e] at hn0; exact hn0 rfl)] at hn
  have hbd := leN_bd X (1 + f.a.toNat) f.m.toNat (fun j hj => by
    have := HB.out (1 + f.a.toNat + j) (by omega)
    exact ⟨this.1, this.2.1⟩)
  have hnb := numL_bd f (leN X (1 + f.a.toNat) f.m.toNat) hm hbd.1 hbd.2
  have hsg := sgn_numL f (leN X (1 + f.a.toNat) f.m.toNat) hm hs hsm hbd.1 hbd.2
  have hpw := pow_le f.m hm
  have hok : (insOf X f).Ok := by
    have h1 : f.a = 1 → 0 ≤ X 1 ∧ X 1 < 256 := fun e => by have := HB.out 1 (by omega); exact ⟨this.1, this.2.1⟩
    refine ⟨x0, x1, ?_, ?_, ?_, ?_, hnb.1, hnb.2⟩ <;> simp only [insOf] <;> split <;> omega
  have HM := hidE (may2_any (insOf X f) false hok)
  obtain ⟨fn, fa, fb, fm, fs⟩ := f
  simp only at *
  obtain ⟨m, hmm⟩ : ∃ m : Nat, fm = (m : Int) := ⟨fm.toNat, by omega⟩
  subst hmm
  have hm4 : m ≤ 4 := by omega
  simp only [Int.toNat_natCast] at *
  have HN := hidE (And.intro hbd (And.intro hpw hsg))
  generalize decide (fb = 1) = B at *
  clear hnb hok hF hz hm hb hbd hpw hsg hsm
  rcases ha with rfl | rfl
  · have HN1 := hidE (show ∀ k, k < m → 0 ≤ X (1 + k) ∧ X (1 + k) < 256 ∧ w.cell? ⟨S, 1 + k, none⟩ = some (.int .u8 (X (1 + k))) from fun k hk => HB.out (1 + k) (by omega))
    have HNn := hidE hn
    have hml : 1 + m ≤ l := by omega
    clear hn
    obtain ⟨I, hI⟩ : ∃ I, I = numL ⟨fn, 0, fb, (m : Int), fs⟩ (leN X 1 m) := ⟨_, rfl⟩
    obtain ⟨Mb, hMb⟩ : ∃ b, b = mayB (insOf X ⟨fn, 0, fb, (m : Int), fs⟩) false := ⟨_, rfl⟩
    have hins : inA (insOf X ⟨fn, 0, fb, (m : Int), fs⟩) = #[.int .u8 (X 0), .int .u8 (0), .int .u8 (0), .int .i32 I] := by rw [hI]; simp [inA, insOf]
    have hins2 : insOf X ⟨fn, 0, fb, (m : Int), fs⟩ = ⟨X 0, 0, 0, I⟩ := by rw [hI]; simp [insOf]
    rw [hins, ← hMb] at HM
    rw [← hMb, hins2] at hQ
    have hq0 : (0 : Int) ≤ leN X 1 m ∧ leN X 1 m < 256 ^ m := by have h := HN.out.1; simpa using h
    have hq1 : (1 : Int) ≤ 256 ^ m ∧ (256 : Int) ^ m ≤ 4294967296 := by have h := HN.out.2.1; simpa using h
    have hq2 : IntKind.i32.wrap (sgnN fs (256 ^ m) (leN X 1 m)) = I := by have h := HN.out.2.2; rw [hI]; simpa using h
    have HQ := hidE (And.intro hq0 (And.intro hq1 hq2))
    have HQQ := hidE hQ
    clear hI hMb hins hins2 HN hq0 hq1 hq2 hQ
    go_enter Tryz.func57, Tryz.ntmps57
    go_wp2_with fail
    refine (HO.out _).mono ?_
    rintro _ w1 ⟨rfl, hk⟩
    have HK1 := hidE (HK0.out.trans hk)
    have A4 := hidE (hk.get (block_new w (.cells #[.int .u8 0, .int .u8 0, .int .u8 0, .int .i32 0] 67)) id)
    have xc := cell_same hk xc
    have hs1 := HK1.out.size
    have hlt4 := lt_of_block A4.out
    clear hk
    have xc2 := cell_same ((Keeps.refl (fun _ => False) w1).alloc (.cells #[.int .i64 fn, .bool false, .bool B, .int .i64 (m : Nat), .bool (decide (fs = 1))] 148)) xc
    have HKL := hidE (show Same w1 ((w1.alloc (.cells #[.int .i64 fn, .bool false, .bool B, .int .i64 (m : Nat), .bool (decide (fs = 1))] 148)).alloc (.cells #[.int .u8 (X 0), .int .u8 0, .int .u8 0, .int .i32 0] 67)) from ((Keeps.refl _ _).alloc _).alloc _)
    have BF := block_old (.cells #[.int .u8 (X 0), .int .u8 0, .int .u8 0, .int .i32 0] 67) (block_new w1 (.cells #[.int .i64 fn, .bool false, .bool B, .int .i64 (m : Nat), .bool (decide (fs = 1))] 148))
    have BIk := block_atR (.cells #[.int .u8 (X 0), .int .u8 0, .int .u8 0, .int .i32 0] 67) (by simp : (w1.alloc (.cells #[.int .i64 fn, .bool false, .bool B, .int .i64 (m : Nat), .bool (decide (fs = 1))] 148)).heap.size = w1.heap.size + 1)
    have cF := cell_of BF
    go_wp2_with fail
    clear xc2 xc
    go_loopw [10, 11, 12] (fun t10 t11 t12 wr => ∃ k : Nat, k ≤ m ∧ t12 = .int .i64 k ∧ t10 = .int .i64 (leN X 1 k) ∧ t11 = .int .i64 (256 ^ k) ∧ wr = ((w1.alloc (.cells #[.int .i64 fn, .bool false, .bool B, .int .i64 (m : Nat), .bool (decide (fs = 1))] 148)).alloc (.cells #[.int .u8 (X 0), .int .u8 0, .int .u8 0, .int .i32 0] 67))) (fun _ _ t12 _ => m - (intOf t12).toNat)
    case atStart => exact ⟨0, by omega, rfl, rfl, rfl, rfl⟩
    case round =>
      obtain ⟨k, hk, rfl, rfl, rfl, rfl⟩ := hrel
      by_cases hkm : k < m
      · have p0 : decide ((k : Int) < (m : Int)) = true := decide_eq_true (by omega)
        obtain ⟨y0, y1, yc⟩ := HN1.out k hkm
        have yc := cell_same HKL.out (cell_same HK1.out yc)
        have hle := leN_bd X 1 k (fun j hj => ⟨(HN1.out j (by omega)).1, (HN1.out j (by omega)).2.1⟩)
        have hpk : (1 : Int) ≤ 256 ^ k ∧ (256 : Int) ^ k ≤ 16777216 := by rcases (show k = 0 ∨ k = 1 ∨ k = 2 ∨ k = 3 by omega) with rfl | rfl | rfl | rfl <;> simp
        have hnx : leN X 1 (k + 1) = leN X 1 k + 256 ^ k * X (1 + k) := by rw [leN, Int.mul_comm]
        have hpx : (256 : Int) ^ (k + 1) = 256 ^ k * 256 := by rw [Int.pow_succ]
        have hxb : 0 ≤ 256 ^ k * X (1 + k) ∧ 256 ^ k * X (1 + k) ≤ 4278190080 := by
          rcases (show k = 0 ∨ k = 1 ∨ k = 2 ∨ k = 3 by omega) with rfl | rfl | rfl | rfl <;> simp <;> simp at y0 y1 <;> omega
        have HX := hidE (And.intro hnx hpx)
        clear hnx hpx
        generalize leN X 1 k = n at *
        generalize (256 : Int) ^ k = D at *
        generalize X (1 + k) = x at *
        obtain ⟨E, hE⟩ : ∃ E, E = D * x := ⟨_, rfl⟩
        rw [← hE] at hxb
        have hE2 : D * x = E := hE.symm
        have HE := hidE hE
        clear hE
        have s1 : IntKind.i64.wrap x = x := wrapI x (by omega) (by omega)
        have s2 : IntKind.i64.wrap E = E := wrapI E (by omega) (by omega)
        have s3 : IntKind.i64.wrap (n + E) = n + E := wrapI _ (by omega) (by omega)
        have s4 : IntKind.i64.wrap (D * 256) = D * 256 := wrapI _ (by omega) (by omega)
        have s5 := wrapI ((k : Int) + 1) (by omega) (by omega)
        have s6 := wrapI (1 + (k : Int)) (by omega) (by omega)
        have s7 : (0 : Int) ≤ 1 + (k : Int) ∧ 1 + (k : Int) < (l : Int) := by omega
        have s8 : ((1 : Int) + (k : Int)).toNat = 1 + k := by omega
        go_wp2_with fail
        go_roundw
        case rel => exact ⟨k + 1, by omega, by go_num, by rw [HX.out.1, ← HE.out], by rw [HX.out.2], by trivial⟩
        case measure => simp only [intOf]; omega
      · obtain rfl : k = m := by omega
        have p0 : decide ((k : Int) < (k : Int)) = false := decide_eq_false (by omega)
        obtain ⟨hq0, hq1, hq2⟩ := HQ.out
        clear HN1 HQ
        generalize leN X 1 k = n at *
        generalize (256 : Int) ^ k = D at *
        have t1 : D.tdiv 2 = D / 2 := by rw [Int.tdiv_eq_ediv_of_nonneg (by omega)]
        have t2 := wrapI (D / 2) (by omega) (by omega)
        have t3 := wrapI (n - D) (by omega) (by omega)
        rcases hs with rfl | rfl
        · have t4 : decide ((0 : Int) = 1) = false := by decide
          have t5 : IntKind.i32.wrap (n) = I := by rw [← hq2]; unfold sgnN; rw [if_neg (fun h => absurd h.1 (by decide))]
          clear hq2
          cases Mb
          · go_wp2_with fail
            refine (HM.out _).mono ?_
            rintro _ w2 ⟨rfl, hk2⟩
            have HK2 := hidE ((HK1.out.alloc _).alloc _ |>.trans hk2)
            have A4 := hk2.get (block_old _ (block_old _ A4.out)) id
            have f4 := frozen_of A4
            clear hk2
            have hQ := HQQ.out
            simp at hQ
            subst hQ
            have e4 := cell_of A4
            go_wp2
            exact bodyPost_ret (results_ctt rfl rfl (by repeat (first | with_reducible exact A4 | with_reducible exact block_new _ _ | with_reducible refine block_old _ ?_ | with_reducible refine block_drew ?_ | with_reducible apply block_set)) Tryz.underlying67 rfl (by kernel_rfl)) rfl ⟨by rfl, by first | exact (Keeps.refl _ _).alloc _ | (repeat (first | with_reducible exact HK2.out | with_reducible exact HK0.out | refine Keeps.setCell ?_ (fun h => absurd h (by simp only; omega)) _ | refine Keeps.alloc ?_ _ | refine Keeps.drew ?_))⟩
          · go_wp2_with fail
            refine (HM.out _).mono ?_
            rintro _ w2 ⟨rfl, hk2⟩
            have HK2 := hidE ((HK1.out.alloc _).alloc _ |>.trans hk2)
            have A4 := hk2.get (block_old _ (block_old _ A4.out)) id
            have f4 := frozen_of A4
            have cF := cell_of (hk2.get (block_old _ (block_new w1 _)) id)
            have cI := hk2.get (block_atR _ (by simp : (w1.alloc _).heap.size = w1.heap.size + 1)) id
            have BF2 := hidE (hk2.get (block_old _ (block_new w1 _)) id)
            have BI2 := hidE cI
            have A42 := hidE A4
            clear hk2 cF cI A4 f4
            have hQ := HQQ.out
            simp at hQ
            subst hQ
            go_wp2_with fail
            refine wp_region_ra [0, 1, 2] [3, 4, 5] 1 (SR w2 w.heap.size 3) (by kernel_rfl) (by kernel_rfl) SR.same (SR.init (by rw [rowAt_of A42.out]; rfl)) ?_
            simp only [opsOf, List.filterMap_cons, List.filterMap_nil, List.getElem?_cons_zero, List.getElem?_cons_succ]
            repeat (refine seqV_run (v := ?_) rfl (fun u hu => ?_) ?_; rotate_left; (focus (have d1 := cell_of (hu.k.get BF2.out (by omega)); have d2 := cell_of (hu.k.get BI2.out (by omega)); clear hu; go_simp; first | done | with_reducible rfl)); (try simp only [Act.put, List.setIfInBounds_toArray, List.set_cons_zero, List.set_cons_succ]))
            refine seqV_nil ?_
            refine tailR_row (A := #[.int .u8 (X 0), .int .u8 (0), .int .u8 (0), .int .i32 I]) rfl rfl (fun u hu => ?_) ?_
            · exact st_I hu.z (X 0) (0) (0) I
            (try simp only [Act.put])
            refine tailR_zero fun u9 hu hrow => ?_
            obtain ⟨T9, hb9⟩ := block_row0 (w := u9) (k := w.heap.size) (by rw [hrow]; simp)
            rw [hrow] at hb9
            have HB9 := hidE hb9
            have HK9 := hidE (same_then HK2.out hu.k (fun k h => by omega))
            clear hu hrow hb9
            go_wp2
            exact bodyPost_ret (results_ctt rfl rfl HB9.out Tryz.underlying67 rfl (by kernel_rfl)) rfl ⟨by rfl, HK9.out⟩
        · by_cases hh : D / 2 ≤ n
          · have t4 : decide (D / 2 ≤ n) = true := decide_eq_true hh
            have t5 : IntKind.i32.wrap (n - D) = I := by rw [← hq2]; unfold sgnN; rw [if_pos ⟨rfl, hh⟩]
            clear hq2
            cases Mb
            · go_wp2_with fail
              refine (HM.out _).mono ?_
              rintro _ w2 ⟨rfl, hk2⟩
              have HK2 := hidE ((HK1.out.alloc _).alloc _ |>.trans hk2)
              have A4 := hk2.get (block_old _ (block_old _ A4.out)) id
              have f4 := frozen_of A4
              clear hk2
              have hQ := HQQ.out
              simp at hQ
              subst hQ
              have e4 := cell_of A4
              go_wp2
              exact bodyPost_ret (results_ctt rfl rfl (by repeat (first | with_reducible exact A4 | with_reducible exact block_new _ _ | with_reducible refine block_old _ ?_ | with_reducible refine block_drew ?_ | with_reducible apply block_set)) Tryz.underlying67 rfl (by kernel_rfl)) rfl ⟨by rfl, by first | exact (Keeps.refl _ _).alloc _ | (repeat (first | with_reducible exact HK2.out | with_reducible exact HK0.out | refine Keeps.setCell ?_ (fun h => absurd h (by simp only; omega)) _ | refine Keeps.alloc ?_ _ | refine Keeps.drew ?_))⟩
            · go_wp2_with fail
              refine (HM.out _).mono ?_
              rintro _ w2 ⟨rfl, hk2⟩
              have HK2 := hidE ((HK1.out.alloc _).alloc _ |>.trans hk2)
              have A4 := hk2.get (block_old _ (block_old _ A4.out)) id
              have f4 := frozen_of A4
              have cF := cell_of (hk2.get (block_old _ (block_new w1 _)) id)
              have cI := hk2.get (block_atR _ (by simp : (w1.alloc _).heap.size = w1.heap.size + 1)) id
              have BF2 := hidE (hk2.get (block_old _ (block_new w1 _)) id)
              have BI2 := hidE cI
              have A42 := hidE A4
              clear hk2 cF cI A4 f4
              have hQ := HQQ.out
              simp at hQ
              subst hQ
              go_wp2_with fail
              refine wp_region_ra [0, 1, 2] [3, 4, 5] 1 (SR w2 w.heap.size 3) (by kernel_rfl) (by kernel_rfl) SR.same (SR.init (by rw [rowAt_of A42.out]; rfl)) ?_
              simp only [opsOf, List.filterMap_cons, List.filterMap_nil, List.getElem?_cons_zero, List.getElem?_cons_succ]
              repeat (refine seqV_run (v := ?_) rfl (fun u hu => ?_) ?_; rotate_left; (focus (have d1 := cell_of (hu.k.get BF2.out (by omega)); have d2 := cell_of (hu.k.get BI2.out (by omega)); clear hu; go_simp; first | done | with_reducible rfl)); (try simp only [Act.put, List.setIfInBounds_toArray, List.set_cons_zero, List.set_cons_succ]))
              refine seqV_nil ?_
              refine tailR_row (A := #[.int .u8 (X 0), .int .u8 (0), .int .u8 (0), .int .i32 I]) rfl rfl (fun u hu => ?_) ?_
              · exact st_I hu.z (X 0) (0) (0) I
              (try simp only [Act.put])
              refine tailR_zero fun u9 hu hrow => ?_
              obtain ⟨T9, hb9⟩ := block_row0 (w := u9) (k := w.heap.size) (by rw [hrow]; simp)
              rw [hrow] at hb9
              have HB9 := hidE hb9
              have HK9 := hidE (same_then HK2.out hu.k (fun k h => by omega))
              clear hu hrow hb9
              go_wp2
              exact bodyPost_ret (results_ctt rfl rfl HB9.out Tryz.underlying67 rfl (by kernel_rfl)) rfl ⟨by rfl, HK9.out⟩
          · have t4 : decide (D / 2 ≤ n) = false := decide_eq_false hh
            have t5 : IntKind.i32.wrap (n) = I := by rw [← hq2]; unfold sgnN; rw [if_neg (fun h => hh h.2)]
            clear hq2
            cases Mb
            · go_wp2_with fail
              refine (HM.out _).mono ?_
              rintro _ w2 ⟨rfl, hk2⟩
              have HK2 := hidE ((HK1.out.alloc _).alloc _ |>.trans hk2)
              have A4 := hk2.get (block_old _ (block_old _ A4.out)) id
              have f4 := frozen_of A4
              clear hk2
              have hQ := HQQ.out
              simp at hQ
              subst hQ
              have e4 := cell_of A4
              go_wp2
              exact bodyPost_ret (results_ctt rfl rfl (by repeat (first | with_reducible exact A4 | with_reducible exact block_new _ _ | with_reducible refine block_old _ ?_ | with_reducible refine block_drew ?_ | with_reducible apply block_set)) Tryz.underlying67 rfl (by kernel_rfl)) rfl ⟨by rfl, by first | exact (Keeps.refl _ _).alloc _ | (repeat (first | with_reducible exact HK2.out | with_reducible exact HK0.out | refine Keeps.setCell ?_ (fun h => absurd h (by simp only; omega)) _ | refine Keeps.alloc ?_ _ | refine Keeps.drew ?_))⟩
            · go_wp2_with fail
              refine (HM.out _).mono ?_
              rintro _ w2 ⟨rfl, hk2⟩
              have HK2 := hidE ((HK1.out.alloc _).alloc _ |>.trans hk2)
              have A4 := hk2.get (block_old _ (block_old _ A4.out)) id
              have f4 := frozen_of A4
              have cF := cell_of (hk2.get (block_old _ (block_new w1 _)) id)
              have cI := hk2.get (block_atR _ (by simp : (w1.alloc _).heap.size = w1.heap.size + 1)) id
              have BF2 := hidE (hk2.get (block_old _ (block_new w1 _)) id)
              have BI2 := hidE cI
              have A42 := hidE A4
              clear hk2 cF cI A4 f4
              have hQ := HQQ.out
              simp at hQ
              subst hQ
              go_wp2_with fail
              refine wp_region_ra [0, 1, 2] [3, 4, 5] 1 (SR w2 w.heap.size 3) (by kernel_rfl) (by kernel_rfl) SR.same (SR.init (by rw [rowAt_of A42.out]; rfl)) ?_
              simp only [opsOf, List.filterMap_cons, List.filterMap_nil, List.getElem?_cons_zero, List.getElem?_cons_succ]
              repeat (refine seqV_run (v := ?_) rfl (fun u hu => ?_) ?_; rotate_left; (focus (have d1 := cell_of (hu.k.get BF2.out (by omega)); have d2 := cell_of (hu.k.get BI2.out (by omega)); clear hu; go_simp; first | done | with_reducible rfl)); (try simp only [Act.put, List.setIfInBounds_toArray, List.set_cons_zero, List.set_cons_succ]))
              refine seqV_nil ?_
              refine tailR_row (A := #[.int .u8 (X 0), .int .u8 (0), .int .u8 (0), .int .i32 I]) rfl rfl (fun u hu => ?_) ?_
              · exact st_I hu.z (X 0) (0) (0) I
              (try simp only [Act.put])
              refine tailR_zero fun u9 hu hrow => ?_
              obtain ⟨T9, hb9⟩ := block_row0 (w := u9) (k := w.heap.size) (by rw [hrow]; simp)
              rw [hrow] at hb9
              have HB9 := hidE hb9
              have HK9 := hidE (same_then HK2.out hu.k (fun k h => by omega))
              clear hu hrow hb9
              go_wp2
              exact bodyPost_ret (results_ctt rfl rfl HB9.out Tryz.underlying67 rfl (by kernel_rfl)) rfl ⟨by rfl, HK9.out⟩
  · have HN1 := hidE (show ∀ k, k < m → 0 ≤ X (2 + k) ∧ X (2 + k) < 256 ∧ w.cell? ⟨S, 2 + k, none⟩ = some (.int .u8 (X (2 + k))) from fun k hk => HB.out (2 + k) (by omega))
    obtain ⟨r0, r1, rc⟩ := HB.out 1 (by omega)
    have l1 : (1 : Int) < (l : Int) := by omega
    have z1 : (X 1).tdiv 16 = X 1 / 16 := by rw [Int.tdiv_eq_ediv_of_nonneg r0]
    have z2 : (X 1).tmod 16 = X 1 % 16 := by rw [Int.tmod_eq_emod_of_nonneg r0]
    have z3 : IntKind.u8.wrap (X 1 / 16) = X 1 / 16 := by simp [IntKind.wrap, IntKind.bits, IntKind.signed]; omega
    have z4 : IntKind.u8.wrap (X 1 % 16) = X 1 % 16 := by simp [IntKind.wrap, IntKind.bits, IntKind.signed]; omega
    have HNn := hidE hn
    have hml : 2 + m ≤ l := by omega
    clear hn
    obtain ⟨I, hI⟩ : ∃ I, I = numL ⟨fn, 1, fb, (m : Int), fs⟩ (leN X 2 m) := ⟨_, rfl⟩
    obtain ⟨Mb, hMb⟩ : ∃ b, b = mayB (insOf X ⟨fn, 1, fb, (m : Int), fs⟩) false := ⟨_, rfl⟩
    have hins : inA (insOf X ⟨fn, 1, fb, (m : Int), fs⟩) = #[.int .u8 (X 0), .int .u8 (X 1 / 16), .int .u8 (X 1 % 16), .int .i32 I] := by rw [hI]; simp [inA, insOf]
    have hins2 : insOf X ⟨fn, 1, fb, (m : Int), fs⟩ = ⟨X 0, X 1 / 16, X 1 % 16, I⟩ := by rw [hI]; simp [insOf]
    rw [hins, ← hMb] at HM
    rw [← hMb, hins2] at hQ
    have hq0 : (0 : Int) ≤ leN X 2 m ∧ leN X 2 m < 256 ^ m := by have h := HN.out.1; simpa using h
    have hq1 : (1 : Int) ≤ 256 ^ m ∧ (256 : Int) ^ m ≤ 4294967296 := by have h := HN.out.2.1; simpa using h
    have hq2 : IntKind.i32.wrap (sgnN fs (256 ^ m) (leN X 2 m)) = I := by have h := HN.out.2.2; rw [hI]; simpa using h
    have HQ := hidE (And.intro hq0 (And.intro hq1 hq2))
    have HQQ := hidE hQ
    clear hI hMb hins hins2 HN hq0 hq1 hq2 hQ
    go_enter Tryz.func57, Tryz.ntmps57
    go_wp2_with fail
    refine (HO.out _).mono ?_
    rintro _ w1 ⟨rfl, hk⟩
    have HK1 := hidE (HK0.out.trans hk)
    have A4 := hidE (hk.get (block_new w (.cells #[.int .u8 0, .int .u8 0, .int .u8 0, .int .i32 0] 67)) id)
    have xc := cell_same hk xc
    have hs1 := HK1.out.size
    have hlt4 := lt_of_block A4.out
    clear hk
    have rc := cell_same HK1.out rc
    have xc2 := cell_same ((Keeps.refl (fun _ => False) w1).alloc (.cells #[.int .i64 fn, .bool true, .bool B, .int .i64 (m : Nat), .bool (decide (fs = 1))] 148)) xc
    have rc2 := cell_same (((Keeps.refl (fun _ => False) w1).alloc (.cells #[.int .i64 fn, .bool true, .bool B, .int .i64 (m : Nat), .bool (decide (fs = 1))] 148)).alloc (.cells #[.int .u8 (X 0), .int .u8 0, .int .u8 0, .int .i32 0] 67)) rc
    have rc3 := cell_same (((Keeps.refl (fun _ => False) w1).alloc (.cells #[.int .i64 fn, .bool true, .bool B, .int .i64 (m : Nat), .bool (decide (fs = 1))] 148)).alloc (.cells #[.int .u8 (X 0), .int .u8 (X 1 / 16), .int .u8 0, .int .i32 0] 67)) rc
    have HKL := hidE (show Same w1 ((w1.alloc (.cells #[.int .i64 fn, .bool true, .bool B, .int .i64 (m : Nat), .bool (decide (fs = 1))] 148)).alloc (.cells #[.int .u8 (X 0), .int .u8 (X 1 / 16), .int .u8 (X 1 % 16), .int .i32 0] 67)) from ((Keeps.refl _ _).alloc _).alloc _)
    have BF := block_old (.cells #[.int .u8 (X 0), .int .u8 (X 1 / 16), .int .u8 (X 1 % 16), .int .i32 0] 67) (block_new w1 (.cells #[.int .i64 fn, .bool true, .bool B, .int .i64 (m : Nat), .bool (decide (fs = 1))] 148))
    have BIk := block_atR (.cells #[.int .u8 (X 0), .int .u8 (X 1 / 16), .int .u8 (X 1 % 16), .int .i32 0] 67) (by simp : (w1.alloc (.cells #[.int .i64 fn, .bool true, .bool B, .int .i64 (m : Nat), .bool (decide (fs = 1))] 148)).heap.size = w1.heap.size + 1)
    have cF := cell_of BF
    go_wp2_with fail
    clear xc2 xc
    clear rc rc2 rc3
    go_loopw [10, 11, 12] (fun t10 t11 t12 wr => ∃ k : Nat, k ≤ m ∧ t12 = .int .i64 k ∧ t10 = .int .i64 (leN X 2 k) ∧ t11 = .int .i64 (256 ^ k) ∧ wr = ((w1.alloc (.cells #[.int .i64 fn, .bool true, .bool B, .int .i64 (m : Nat), .bool (decide (fs = 1))] 148)).alloc (.cells #[.int .u8 (X 0), .int .u8 (X 1 / 16), .int .u8 (X 1 % 16), .int .i32 0] 67))) (fun _ _ t12 _ => m - (intOf t12).toNat)
    case atStart => exact ⟨0, by omega, rfl, rfl, rfl, rfl⟩
    case round =>
      obtain ⟨k, hk, rfl, rfl, rfl, rfl⟩ := hrel
      by_cases hkm : k < m
      · have p0 : decide ((k : Int) < (m : Int)) = true := decide_eq_true (by omega)
        obtain ⟨y0, y1, yc⟩ := HN1.out k hkm
        have yc := cell_same HKL.out (cell_same HK1.out yc)
        have hle := leN_bd X 2 k (fun j hj => ⟨(HN1.out j (by omega)).1, (HN1.out j (by omega)).2.1⟩)
        have hpk : (1 : Int) ≤ 256 ^ k ∧ (256 : Int) ^ k ≤ 16777216 := by rcases (show k = 0 ∨ k = 1 ∨ k = 2 ∨ k = 3 by omega) with rfl | rfl | rfl | rfl <;> simp
        have hnx : leN X 2 (k + 1) = leN X 2 k + 256 ^ k * X (2 + k) := by rw [leN, Int.mul_comm]
        have hpx : (256 : Int) ^ (k + 1) = 256 ^ k * 256 := by rw [Int.pow_succ]
        have hxb : 0 ≤ 256 ^ k * X (2 + k) ∧ 256 ^ k * X (2 + k) ≤ 4278190080 := by
          rcases (show k = 0 ∨ k = 1 ∨ k = 2 ∨ k = 3 by omega) with rfl | rfl | rfl | rfl <;> simp <;> simp at y0 y1 <;> omega
        have HX := hidE (And.intro hnx hpx)
        clear hnx hpx
        generalize leN X 2 k = n at *
        generalize (256 : Int) ^ k = D at *
        generalize X (2 + k) = x at *
        obtain ⟨E, hE⟩ : ∃ E, E = D * x := ⟨_, rfl⟩
        rw [← hE] at hxb
        have hE2 : D * x = E := hE.symm
        have HE := hidE hE
        clear hE
        have s1 : IntKind.i64.wrap x = x := wrapI x (by omega) (by omega)
        have s2 : IntKind.i64.wrap E = E := wrapI E (by omega) (by omega)
        have s3 : IntKind.i64.wrap (n + E) = n + E := wrapI _ (by omega) (by omega)
        have s4 : IntKind.i64.wrap (D * 256) = D * 256 := wrapI _ (by omega) (by omega)
        have s5 := wrapI ((k : Int) + 1) (by omega) (by omega)
        have s6 := wrapI (2 + (k : Int)) (by omega) (by omega)
        have s7 : (0 : Int) ≤ 2 + (k : Int) ∧ 2 + (k : Int) < (l : Int) := by omega
        have s8 : ((2 : Int) + (k : Int)).toNat = 2 + k := by omega
        go_wp2_with fail
        go_roundw
        case rel => exact ⟨k + 1, by omega, by go_num, by rw [HX.out.1, ← HE.out], by rw [HX.out.2], by trivial⟩
        case measure => simp only [intOf]; omega
      · obtain rfl : k = m := by omega
        have p0 : decide ((k : Int) < (k : Int)) = false := decide_eq_false (by omega)
        obtain ⟨hq0, hq1, hq2⟩ := HQ.out
        clear HN1 HQ
        generalize leN X 2 k = n at *
        generalize (256 : Int) ^ k = D at *
        have t1 : D.tdiv 2 = D / 2 := by rw [Int.tdiv_eq_ediv_of_nonneg (by omega)]
        have t2 := wrapI (D / 2) (by omega) (by omega)
        have t3 := wrapI (n - D) (by omega) (by omega)
        rcases hs with rfl | rfl
        · have t4 : decide ((0 : Int) = 1) = false := by decide
          have t5 : IntKind.i32.wrap (n) = I := by rw [← hq2]; unfold sgnN; rw [if_neg (fun h => absurd h.1 (by decide))]
          clear hq2
          cases Mb
          · go_wp2_with fail
            refine (HM.out _).mono ?_
            rintro _ w2 ⟨rfl, hk2⟩
            have HK2 := hidE ((HK1.out.alloc _).alloc _ |>.trans hk2)
            have A4 := hk2.get (block_old _ (block_old _ A4.out)) id
            have f4 := frozen_of A4
            clear hk2
            have hQ := HQQ.out
            simp at hQ
            subst hQ
            have e4 := cell_of A4
            go_wp2
            exact bodyPost_ret (results_ctt rfl rfl (by repeat (first | with_reducible exact A4 | with_reducible exact block_new _ _ | with_reducible refine block_old _ ?_ | with_reducible refine block_drew ?_ | with_reducible apply block_set)) Tryz.underlying67 rfl (by kernel_rfl)) rfl ⟨by rfl, by first | exact (Keeps.refl _ _).alloc _ | (repeat (first | with_reducible exact HK2.out | with_reducible exact HK0.out | refine Keeps.setCell ?_ (fun h => absurd h (by simp only; omega)) _ | refine Keeps.alloc ?_ _ | refine Keeps.drew ?_))⟩
          · go_wp2_with fail
            refine (HM.out _).mono ?_
            rintro _ w2 ⟨rfl, hk2⟩
            have HK2 := hidE ((HK1.out.alloc _).alloc _ |>.trans hk2)
            have A4 := hk2.get (block_old _ (block_old _ A4.out)) id
            have f4 := frozen_of A4
            have cF := cell_of (hk2.get (block_old _ (block_new w1 _)) id)
            have cI := hk2.get (block_atR _ (by simp : (w1.alloc _).heap.size = w1.heap.size + 1)) id
            have BF2 := hidE (hk2.get (block_old _ (block_new w1 _)) id)
            have BI2 := hidE cI
            have A42 := hidE A4
            clear hk2 cF cI A4 f4
            have hQ := HQQ.out
            simp at hQ
            subst hQ
            go_wp2_with fail
            refine wp_region_ra [0, 1, 2] [3, 4, 5] 1 (SR w2 w.heap.size 3) (by kernel_rfl) (by kernel_rfl) SR.same (SR.init (by rw [rowAt_of A42.out]; rfl)) ?_
            simp only [opsOf, List.filterMap_cons, List.filterMap_nil, List.getElem?_cons_zero, List.getElem?_cons_succ]
            repeat (refine seqV_run (v := ?_) rfl (fun u hu => ?_) ?_; rotate_left; (focus (have d1 := cell_of (hu.k.get BF2.out (by omega)); have d2 := cell_of (hu.k.get BI2.out (by omega)); clear hu; go_simp; first | done | with_reducible rfl)); (try simp only [Act.put, List.setIfInBounds_toArray, List.set_cons_zero, List.set_cons_succ]))
            refine seqV_nil ?_
            refine tailR_row (A := #[.int .u8 (X 0), .int .u8 (X 1 / 16), .int .u8 (X 1 % 16), .int .i32 I]) rfl rfl (fun u hu => ?_) ?_
            · exact st_I hu.z (X 0) (X 1 / 16) (X 1 % 16) I
            (try simp only [Act.put])
            refine tailR_zero fun u9 hu hrow => ?_
            obtain ⟨T9, hb9⟩ := block_row0 (w := u9) (k := w.heap.size) (by rw [hrow]; simp)
            rw [hrow] at hb9
            have HB9 := hidE hb9
            have HK9 := hidE (same_then HK2.out hu.k (fun k h => by omega))
            clear hu hrow hb9
            go_wp2
            exact bodyPost_ret (results_ctt rfl rfl HB9.out Tryz.underlying67 rfl (by kernel_rfl)) rfl ⟨by rfl, HK9.out⟩
        · by_cases hh : D / 2 ≤ n
          · have t4 : decide (D / 2 ≤ n) = true := decide_eq_true hh
            have t5 : IntKind.i32.wrap (n - D) = I := by rw [← hq2]; unfold sgnN; rw [if_pos ⟨rfl, hh⟩]
            clear hq2
            cases Mb
            · go_wp2_with fail
              refine (HM.out _).mono ?_
              rintro _ w2 ⟨rfl, hk2⟩
              have HK2 := hidE ((HK1.out.alloc _).alloc _ |>.trans hk2)
              have A4 := hk2.get (block_old _ (block_old _ A4.out)) id
              have f4 := frozen_of A4
              clear hk2
              have hQ := HQQ.out
              simp at hQ
              subst hQ
              have e4 := cell_of A4
              go_wp2
              exact bodyPost_ret (results_ctt rfl rfl (by repeat (first | with_reducible exact A4 | with_reducible exact block_new _ _ | with_reducible refine block_old _ ?_ | with_reducible refine block_drew ?_ | with_reducible apply block_set)) Tryz.underlying67 rfl (by kernel_rfl)) rfl ⟨by rfl, by first | exact (Keeps.refl _ _).alloc _ | (repeat (first | with_reducible exact HK2.out | with_reducible exact HK0.out | refine Keeps.setCell ?_ (fun h => absurd h (by simp only; omega)) _ | refine Keeps.alloc ?_ _ | refine Keeps.drew ?_))⟩
            · go_wp2_with fail
              refine (HM.out _).mono ?_
              rintro _ w2 ⟨rfl, hk2⟩
              have HK2 := hidE ((HK1.out.alloc _).alloc _ |>.trans hk2)
              have A4 := hk2.get (block_old _ (block_old _ A4.out)) id
              have f4 := frozen_of A4
              have cF := cell_of (hk2.get (block_old _ (block_new w1 _)) id)
              have cI := hk2.get (block_atR _ (by simp : (w1.alloc _).heap.size = w1.heap.size + 1)) id
              have BF2 := hidE (hk2.get (block_old _ (block_new w1 _)) id)
              have BI2 := hidE cI
              have A42 := hidE A4
              clear hk2 cF cI A4 f4
              have hQ := HQQ.out
              simp at hQ
              subst hQ
              go_wp2_with fail
              refine wp_region_ra [0, 1, 2] [3, 4, 5] 1 (SR w2 w.heap.size 3) (by kernel_rfl) (by kernel_rfl) SR.same (SR.init (by rw [rowAt_of A42.out]; rfl)) ?_
              simp only [opsOf, List.filterMap_cons, List.filterMap_nil, List.getElem?_cons_zero, List.getElem?_cons_succ]
              repeat (refine seqV_run (v := ?_) rfl (fun u hu => ?_) ?_; rotate_left; (focus (have d1 := cell_of (hu.k.get BF2.out (by omega)); have d2 := cell_of (hu.k.get BI2.out (by omega)); clear hu; go_simp; first | done | with_reducible rfl)); (try simp only [Act.put, List.setIfInBounds_toArray, List.set_cons_zero, List.set_cons_succ]))
              refine seqV_nil ?_
              refine tailR_row (A := #[.int .u8 (X 0), .int .u8 (X 1 / 16), .int .u8 (X 1 % 16), .int .i32 I]) rfl rfl (fun u hu => ?_) ?_
              · exact st_I hu.z (X 0) (X 1 / 16) (X 1 % 16) I
              (try simp only [Act.put])
              refine tailR_zero fun u9 hu hrow => ?_
              obtain ⟨T9, hb9⟩ := block_row0 (w := u9) (k := w.heap.size) (by rw [hrow]; simp)
              rw [hrow] at hb9
              have HB9 := hidE hb9
              have HK9 := hidE (same_then HK2.out hu.k (fun k h => by omega))
              clear hu hrow hb9
              go_wp2
              exact bodyPost_ret (results_ctt rfl rfl HB9.out Tryz.underlying67 rfl (by kernel_rfl)) rfl ⟨by rfl, HK9.out⟩
          · have t4 : decide (D / 2 ≤ n) = false := decide_eq_false hh
            have t5 : IntKind.i32.wrap (n) = I := by rw [← hq2]; unfold sgnN; rw [if_neg (fun h => hh h.2)]
            clear hq2
            cases Mb
            · go_wp2_with fail
              refine (HM.out _).mono ?_
              rintro _ w2 ⟨rfl, hk2⟩
              have HK2 := hidE ((HK1.out.alloc _).alloc _ |>.trans hk2)
              have A4 := hk2.get (block_old _ (block_old _ A4.out)) id
              have f4 := frozen_of A4
              clear hk2
              have hQ := HQQ.out
              simp at hQ
              subst hQ
              have e4 := cell_of A4
              go_wp2
              exact bodyPost_ret (results_ctt rfl rfl (by repeat (first | with_reducible exact A4 | with_reducible exact block_new _ _ | with_reducible refine block_old _ ?_ | with_reducible refine block_drew ?_ | with_reducible apply block_set)) Tryz.underlying67 rfl (by kernel_rfl)) rfl ⟨by rfl, by first | exact (Keeps.refl _ _).alloc _ | (repeat (first | with_reducible exact HK2.out | with_reducible exact HK0.out | refine Keeps.setCell ?_ (fun h => absurd h (by simp only; omega)) _ | refine Keeps.alloc ?_ _ | refine Keeps.drew ?_))⟩
            · go_wp2_with fail
              refine (HM.out _).mono ?_
              rintro _ w2 ⟨rfl, hk2⟩
              have HK2 := hidE ((HK1.out.alloc _).alloc _ |>.trans hk2)
              have A4 := hk2.get (block_old _ (block_old _ A4.out)) id
              have f4 := frozen_of A4
              have cF := cell_of (hk2.get (block_old _ (block_new w1 _)) id)
              have cI := hk2.get (block_atR _ (by simp : (w1.alloc _).heap.size = w1.heap.size + 1)) id
              have BF2 := hidE (hk2.get (block_old _ (block_new w1 _)) id)
              have BI2 := hidE cI
              have A42 := hidE A4
              clear hk2 cF cI A4 f4
              have hQ := HQQ.out
              simp at hQ
              subst hQ
              go_wp2_with fail
              refine wp_region_ra [0, 1, 2] [3, 4, 5] 1 (SR w2 w.heap.size 3) (by kernel_rfl) (by kernel_rfl) SR.same (SR.init (by rw [rowAt_of A42.out]; rfl)) ?_
              simp only [opsOf, List.filterMap_cons, List.filterMap_nil, List.getElem?_cons_zero, List.getElem?_cons_succ]
              repeat (refine seqV_run (v := ?_) rfl (fun u hu => ?_) ?_; rotate_left; (focus (have d1 := cell_of (hu.k.get BF2.out (by omega)); have d2 := cell_of (hu.k.get BI2.out (by omega)); clear hu; go_simp; first | done | with_reducible rfl)); (try simp only [Act.put, List.setIfInBounds_toArray, List.set_cons_zero, List.set_cons_succ]))
              refine seqV_nil ?_
              refine tailR_row (A := #[.int .u8 (X 0), .int .u8 (X 1 / 16), .int .u8 (X 1 % 16), .int .i32 I]) rfl rfl (fun u hu => ?_) ?_
              · exact st_I hu.z (X 0) (X 1 / 16) (X 1 % 16) I
              (try simp only [Act.put])
              refine tailR_zero fun u9 hu hrow => ?_
              obtain ⟨T9, hb9⟩ := block_row0 (w := u9) (k := w.heap.size) (by rw [hrow]; simp)
              rw [hrow] at hb9
              have HB9 := hidE hb9
              have HK9 := hidE (same_then HK2.out hu.k (fun k h => by omega))
              clear hu hrow hb9
              go_wp2
              exact bodyPost_ret (results_ctt rfl rfl HB9.out Tryz.underlying67 rfl (by kernel_rfl)) rfl ⟨by rfl, HK9.out⟩
end Go.Proofs.YtjkjnomhggmplaaGreat
