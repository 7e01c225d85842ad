/- The walks through package stub: reading. -/
import Derived.Test.YtdchhkdgcjnhpaaStubB
namespace Go.Proofs.Ytdchhkdgcjnhpaa
open Go.RowKit

theorem block_alloc2 {w : World} {k : Nat} {x : Obj} (o : Obj) (h : w.heap[k]? = some x) : (w.alloc o).heap[k]? = some x := block_old o h
set_option maxHeartbeats 2000000 in
theorem want_no (r : Nat) (op : Int) (a : Option Addr) (l c : Nat) (X : Nat → Int) (w : World) (hl : l ≤ 4611686018427387904) (hX : BySl w a l X)
    (hr : w.heap[r]? = some (.cells #[.slice a l c] 86 (0, 0))) (hd : (decL X l true).2.2 ≠ 0 ∨ (decL X l true).1.op ≠ op) :
    Calls Try.prog 47 #[.pointer (some ⟨r, 0, none⟩), .int .u8 op] w fun e w' => e = .returned (.tuple #[.int .i64 0, .bool false]) ∧ Same w w' := by
  have HD := hidE  (decode_any a l c true X w hl hX)
  clear hX
  generalize decL X l true = d at *
  obtain ⟨⟨o, ia, ib, im⟩, n, er⟩ := d
  simp only [decV, inA] at HD hd
  have cr := cell_of hr
  by_cases c1 : er = 0
  · have c2 : o ≠ op := by rcases hd with h | h; exact absurd c1 h; exact h
    subst c1
    clear hd
    go_enter Try.func47, Try.ntmps47
    go_wp2_with fail
    refine HD.out.mono ?_
    rintro e w1 ⟨rfl, hk⟩
    clear cr hr
    go_wp2
    go_ret2
    exact ⟨rfl, hk.alloc _⟩
  · clear hd
    go_enter Try.func47, Try.ntmps47
    go_wp2_with fail
    refine HD.out.mono ?_
    rintro e w1 ⟨rfl, hk⟩
    clear cr hr
    go_wp2
    go_ret2
    exact ⟨rfl, hk.alloc _⟩
def WantPost (w : World) (r S o l c n : Nat) (im : Int) (e : Ending) (w' : World) : Prop :=
  e = .returned (.tuple #[.int .i64 im, .bool true]) ∧ Keeps (fun k => k = r) w w' ∧ (n < c → w'.heap[r]? = some (.cells #[.slice (some ⟨S, o + n, none⟩) (l - n : Nat) (c - n : Nat)] 86 (0, 0)))
set_option maxHeartbeats 2000000 in
theorem want_yes (r S o : Nat) (op : Int) (l c n : Nat) (ia ib im : Int) (X : Nat → Int) (w : World) (hl : l ≤ 4611686018427387904) (hX : BySl w (some ⟨S, o, none⟩) l X)
    (hr : w.heap[r]? = some (.cells #[.slice (some ⟨S, o, none⟩) l c] 86 (0, 0))) (hd : decL X l true = ((In.mk op ia ib im), ((n : Int), (0 : Int)))) (hn : n ≤ l) (hc : l ≤ c) (i0 : 0 ≤ im) (i1 : im ≤ 65535) :
    Calls Try.prog 47 #[.pointer (some ⟨r, 0, none⟩), .int .u8 op] w (WantPost w r S o l c n im) := by
  have HD := hidE  (decode_any (some ⟨S, o, none⟩) l c true X w hl hX)
  rw [hd] at HD
  clear hX hd
  simp only [decV, inA] at HD
  have cr := cell_of hr
  go_enter Try.func47, Try.ntmps47
  go_wp2_with fail
  refine HD.out.mono ?_
  rintro e w1 ⟨rfl, hk⟩
  have A1 := hk.get hr id
  have hlt := lt_of_block A1
  clear cr hr
  have cr := cell_of A1
  have fr := frozen_of A1
  have hb := hidE  (block_set A1 0 (.slice (some ⟨S, o + n, none⟩) (l - n : Nat) (c - n : Nat)))
  have hk := hidE  hk
  clear A1
  rcases Nat.lt_or_ge n c with hnc | hnc
  · go_wp2
    all_goals go_ret2
    all_goals exact ⟨rfl, (Keeps.setCell (F := fun k => k = r) (hk.out.mono (fun _ _ h => h.elim)) (p := ⟨r, 0, none⟩) (fun _ => rfl) _).alloc _, fun _ => block_old _ hb.out⟩
  · obtain rfl : n = c := by omega
    go_wp2
    all_goals go_ret2
    all_goals exact ⟨rfl, (Keeps.setCell (F := fun k => k = r) (hk.out.mono (fun _ _ h => h.elim)) (p := ⟨r, 0, none⟩) (fun _ => rfl) _).alloc _, fun h => by omega⟩

/-- What so many bytes are as a stub. -/
def readL (X : Nat → Int) (l : Nat) : Int × Int × Bool := if l = 5 ∧ X 0 = 112 ∧ X 2 = 113 then (X 1, X 3 + 256 * X 4, true) else (0, 0, false)
def readV (r : Int × Int × Bool) : Value := .tuple #[.int .i64 r.1, .int .i64 r.2.1, .bool r.2.2]
theorem dec_op (X : Nat → Int) (l : Nat) (op : Int) (h : X 0 ≠ op) : (decL X l true).2.2 ≠ 0 ∨ (decL X l true).1.op ≠ op := by
  unfold decL
  split
  · left; simp
  split
  · left; simp
  split
  · left; simp
  split
  · right; exact h
  · left; simp
theorem dec_112 (X : Nat → Int) (l : Nat) (h : X 0 = 112) (hl : 2 ≤ l) (x0 : 0 ≤ X 1) (x1 : X 1 < 256) : decL X l true = (In.mk 112 0 0 (X 1), 2, 0) := by
  have e : insOf X ⟨2, 0, 0, 1, 0⟩ = In.mk 112 0 0 (X 1) := by
    simp [insOf, leN, numL, h]
    omega
  simp only [decL, h, show formL 112 true = ⟨2, 0, 0, 1, 0⟩ from rfl, e, may_112 _ x0 (by omega)]
  rw [if_neg (by omega), if_neg (by omega), if_neg (by omega), if_pos trivial]
theorem dec_113 (X : Nat → Int) (l : Nat) (h : X 0 = 113) (hl : 3 ≤ l) (x0 : 0 ≤ X 1) (x1 : X 1 < 256) (y0 : 0 ≤ X 2) (y1 : X 2 < 256) : decL X l true = (In.mk 113 0 0 (X 1 + 256 * X 2), 3, 0) := by
  have e : insOf X ⟨3, 0, 0, 2, 0⟩ = In.mk 113 0 0 (X 1 + 256 * X 2) := by
    simp [insOf, leN, numL, h]
    omega
  simp only [decL, h, show formL 113 true = ⟨3, 0, 0, 2, 0⟩ from rfl, e, may_113 _ (show 0 ≤ X 1 + 256 * X 2 by omega) (by omega)]
  rw [if_neg (by omega), if_neg (by omega), if_neg (by omega), if_pos trivial]
theorem BySl.keeps {w w' : World} {a : Option Addr} {l : Nat} {X : Nat → Int} (h : BySl w a l X) (k : Same w w') : BySl w' a l X := by
  rcases h with h | ⟨S, o, h1, h2, h3⟩
  · exact .inl h
  · exact .inr ⟨S, o, h1, Nat.lt_of_lt_of_le h2 k.size, h3.keeps k id⟩
set_option maxHeartbeats 2000000 in
theorem read_any (a : Option Addr) (l c : Nat) (X : Nat → Int) (w : World) (hc : l ≤ c) (hX : BySl w a l X) :
    Calls Try.prog 25 #[.slice a l c] w fun e w' => e = .returned (readV (readL X l)) ∧ Same w w' := by
  by_cases h5 : l = 5
  · subst h5
    obtain ⟨S, o, rfl, hS, hB⟩ : ∃ S o, a = some ⟨S, o, none⟩ ∧ S < w.heap.size ∧ Bytes w S o 5 X := by rcases hX with h | h; omega; exact h
    have HX := hidE  hX
    have HB := hidE  hB
    clear hX hB
    by_cases c1 : X 0 = 112
    · have q1 := HB.out 1 (by omega)
      have HW := hidE  (want_yes w.heap.size S o 112 5 c 2 0 0 (X 1) X (w.alloc (.cells #[.slice (some ⟨S, o, none⟩) 5 c] 86)) (by omega) (HX.out.keeps ((Keeps.refl _ _).alloc _)) (block_new _ _) (dec_112 X 5 c1 (by omega) q1.1 q1.2.1) (by omega) hc q1.1 (by omega))
      clear q1
      by_cases c2 : X 2 = 113
      · rw [show readL X 5 = (X 1, X 3 + 256 * X 4, true) from by simp [readL, c1, c2]]
        go_enter Try.func25, Try.ntmps25
        go_wp2_with fail
        refine HW.out.mono ?_
        rintro e w1 ⟨rfl, hk1, hb1⟩
        have hB1 : Bytes w1 S (o + 2) 3 (fun j => X (2 + j)) := fun j hj => by
          have h := (HB.out.keeps ((Keeps.refl (fun _ => False) _).alloc _) id).keeps hk1 (by omega) (2 + j) (by omega)
          rwa [show o + (2 + j) = o + 2 + j by omega] at h
        have hr1 := hb1 (by omega)
        have q1 := hB1 1 (by omega)
        have q2 := hB1 2 (by omega)
        have hs1 := hk1.size
        have HW2 := hidE  (want_yes w.heap.size S (o + 2) 113 3 (c - 2) 3 0 0 (X 3 + 256 * X 4) (fun j => X (2 + j)) w1 (by omega) (.inr ⟨S, o + 2, rfl, by simp at hs1; omega, hB1⟩) hr1 (dec_113 (fun j => X (2 + j)) 3 c2 (by omega) q1.1 q1.2.1 q2.1 q2.2.1) (by omega) (by omega) (by have := q1.1; have := q2.1; simp at *; omega) (by have := q1.2.1; have := q2.2.1; simp at *; omega))
        have HK := hidE  hk1
        clear q1 q2 hB1 hr1 hb1 hk1 HW
        go_wp2_with fail
        refine HW2.out.mono ?_
        rintro e w2 ⟨rfl, hk2, -⟩
        go_wp2
        go_ret3
        exact ⟨rfl, same_then (same_then ((Keeps.refl _ _).alloc _) HK.out (fun k h => by omega)) hk2 (fun k h => by omega)⟩
      · rw [show readL X 5 = (0, 0, false) from by simp [readL, c2]]
        go_enter Try.func25, Try.ntmps25
        go_wp2_with fail
        refine HW.out.mono ?_
        rintro e w1 ⟨rfl, hk1, hb1⟩
        have hB1 : Bytes w1 S (o + 2) 3 (fun j => X (2 + j)) := fun j hj => by
          have h := (HB.out.keeps ((Keeps.refl (fun _ => False) _).alloc _) id).keeps hk1 (by omega) (2 + j) (by omega)
          rwa [show o + (2 + j) = o + 2 + j by omega] at h
        have hr1 := hb1 (by omega)
        have hs1 := hk1.size
        have HW2 := hidE  (want_no w.heap.size 113 (some ⟨S, o + 2, none⟩) 3 (c - 2 : Nat) (fun j => X (2 + j)) w1 (by omega) (.inr ⟨S, o + 2, rfl, by simp at hs1; omega, hB1⟩) hr1 (dec_op (fun j => X (2 + j)) 3 113 c2))
        have HK := hidE  hk1
        clear hB1 hr1 hb1 hk1 HW
        go_wp2_with fail
        refine HW2.out.mono ?_
        rintro e w2 ⟨rfl, hk2⟩
        go_wp2
        go_ret3
        exact ⟨rfl, (same_then ((Keeps.refl _ _).alloc _) HK.out (fun k h => by omega)).trans hk2⟩
    · rw [show readL X 5 = (0, 0, false) from by simp [readL, c1]]
      go_enter Try.func25, Try.ntmps25
      go_wp2_with fail
      refine (want_no w.heap.size 112 (some ⟨S, o, none⟩) 5 c X _ (by omega) (HX.out.keeps ((Keeps.refl _ _).alloc _)) (block_new _ _) (dec_op X 5 112 c1)).mono ?_
      rintro e w1 ⟨rfl, hk1⟩
      go_wp2
      go_ret3
      exact ⟨rfl, ((Keeps.refl _ _).alloc _).trans hk1⟩
  · have h5' : (l : Int) ≠ 5 := by omega
    rw [show readL X l = (0, 0, false) from by simp [readL, h5]]
    clear hX
    go_enter Try.func25, Try.ntmps25
    go_wp2
    go_ret3
    exact ⟨rfl, Keeps.refl _ _⟩
set_option maxHeartbeats 2000000 in
theorem ref_read (a : Option Addr) (l c : Nat) (X : Nat → Int) (w : World) (hX : BySl w a l X) :
    Calls Try.prog 26 #[.slice a l c] w fun e w' => e = .returned (readV (readL X l)) ∧ Same w w' := by
  by_cases h5 : l = 5
  · subst h5
    obtain ⟨S, o, rfl, hS, hB⟩ : ∃ S o, a = some ⟨S, o, none⟩ ∧ S < w.heap.size ∧ Bytes w S o 5 X := by rcases hX with h | h; omega; exact h
    obtain ⟨p0, q0, x0⟩ := hB 0 (by omega)
    obtain ⟨p1, q1, x1⟩ := hB 1 (by omega)
    obtain ⟨p2, q2, x2⟩ := hB 2 (by omega)
    obtain ⟨p3, q3, x3⟩ := hB 3 (by omega)
    obtain ⟨p4, q4, x4⟩ := hB 4 (by omega)
    simp only [Nat.add_zero] at x0
    unfold readL
    clear hX hB
    generalize X 0 = y0 at *
    generalize X 1 = y1 at *
    generalize X 2 = y2 at *
    generalize X 3 = y3 at *
    generalize X 4 = y4 at *
    by_cases c1 : y0 = 112
    · by_cases c2 : y2 = 113
      · subst c1
        subst c2
        simp only [and_self, if_true]
        go_enter Try.func26, Try.ntmps26
        go_wp2_with fail
        go_quiet (fail)
        go_wp2
        go_ret3
        exact ⟨rfl, (Keeps.refl _ _).drewN _⟩
      · subst c1
        rw [if_neg (by omega)]
        go_enter Try.func26, Try.ntmps26
        go_wp2
        go_ret3
        exact ⟨rfl, Keeps.refl _ _⟩
    · rw [if_neg (by omega)]
      go_enter Try.func26, Try.ntmps26
      go_wp2
      go_ret3
      exact ⟨rfl, Keeps.refl _ _⟩
  · have h5' : (l : Int) ≠ 5 := by omega
    rw [show readL X l = (0, 0, false) from by simp [readL, h5]]
    clear hX
    go_enter Try.func26, Try.ntmps26
    go_wp2
    go_ret3
    exact ⟨rfl, Keeps.refl _ _⟩
end Go.Proofs.Ytdchhkdgcjnhpaa
