/- The walks through package tlb: what New, Look, Put, Drop, Flush and Counts do to the two blocks of a TLB. -/
import Derived.Test.YtebponllpjpbeaaRows
import Derived.Test.YtebponllpjpbeaaHeap
import Derived.WalkKit
import Derived.WalkSpells
import Derived.WalkLawsBesides
import Derived.Deep.QuietTactic
import Derived.BigQuiet

namespace Go.Proofs.Ytebponllpjpbeaa
open Go.RowKit

structure Slot where
  there : Bool
  page : Int
  bits : Int
  frame : Int

def slotL (s : Slot) : List Value := [.bool s.there, .int .u32 s.page, .int .u32 s.bits, .int .i64 s.frame]
def rowL : Nat → (Nat → Slot) → List Value
  | 0, _ => []
  | n + 1, T => rowL n T ++ slotL (T n)
theorem rowL_length (n : Nat) (T : Nat → Slot) : (rowL n T).length = n * 4 := by
  induction n with
  | zero => rfl
  | succ n ih => simp [rowL, ih, slotL]; omega
theorem rowL_get (n : Nat) (T : Nat → Slot) (i j : Nat) (hi : i < n) (hj : j < 4) : (rowL n T)[i * 4 + j]? = (slotL (T i))[j]? := by
  induction n with
  | zero => omega
  | succ n ih =>
    simp only [rowL]
    by_cases h : i < n
    · rw [List.getElem?_append_left (by rw [rowL_length]; omega)]; exact ih h
    · obtain rfl : i = n := by omega
      rw [List.getElem?_append_right (by rw [rowL_length]; omega), rowL_length]; congr 1; omega
def upd (T : Nat → Slot) (i : Nat) (s : Slot) : Nat → Slot := fun k => if k = i then s else T k
theorem rowL_upd_other (n : Nat) (T : Nat → Slot) (i : Nat) (s : Slot) (h : n ≤ i) : rowL n (upd T i s) = rowL n T := by
  induction n with
  | zero => rfl
  | succ n ih => simp only [rowL]; rw [ih (by omega)]; simp only [upd]; rw [if_neg (by omega)]
theorem rowL_set (n : Nat) (T : Nat → Slot) (i : Nat) (s : Slot) (hi : i < n) :
    ((((rowL n T).set (i * 4) (.bool s.there)).set (i * 4 + 1) (.int .u32 s.page)).set (i * 4 + 2) (.int .u32 s.bits)).set (i * 4 + 3) (.int .i64 s.frame) = rowL n (upd T i s) := by
  induction n with
  | zero => omega
  | succ n ih =>
    simp only [rowL]
    have hl := rowL_length n T
    by_cases h : i < n
    · rw [List.set_append_left _ _ (by rw [hl]; omega), List.set_append_left _ _ (by simp [hl]; omega), List.set_append_left _ _ (by simp [hl]; omega), List.set_append_left _ _ (by simp [hl]; omega), ih h]
      simp only [upd]; rw [if_neg (by omega)]
    · obtain rfl : i = n := by omega
      rw [rowL_upd_other _ _ _ _ (Nat.le_refl _)]
      rw [List.set_append_right _ _ (by rw [hl]; omega), List.set_append_right _ _ (by rw [hl]; omega), List.set_append_right _ _ (by rw [hl]; omega), List.set_append_right _ _ (by rw [hl]; omega), hl]
      rw [show i * 4 - i * 4 = 0 from by omega, show i * 4 + 1 - i * 4 = 1 from by omega, show i * 4 + 2 - i * 4 = 2 from by omega, show i * 4 + 3 - i * 4 = 3 from by omega]
      simp [slotL, upd]

/-- A TLB: its own block, and that of its slots. -/
structure IsTLB (w : World) (b S n : Nat) (h m : Int) (T : Nat → Slot) : Prop where
  hb : w.heap[b]? = some (.cells #[.slice (some ⟨S, 0, none⟩) n n, .int .i64 h, .int .i64 m] 52 (0, 0))
  hS : w.heap[S]? = some (.cells (rowL n T).toArray 58 (0, 0))
  ne : b ≠ S

theorem IsTLB.keeps {F : Nat → Prop} {w w' : World} {b S n : Nat} {h m : Int} {T : Nat → Slot} (H : IsTLB w b S n h m T) (K : Keeps F w w') (hb : ¬ F b) (hS : ¬ F S) : IsTLB w' b S n h m T :=
  ⟨K.get H.hb hb, K.get H.hS hS, H.ne⟩
section
variable {w : World} {b S n : Nat} {h m : Int} {T : Nat → Slot} (H : IsTLB w b S n h m T)
include H
theorem IsTLB.c0 : w.cell? ⟨b, 0, none⟩ = some (.slice (some ⟨S, 0, none⟩) n n) := by rw [cell_of H.hb]; rfl
theorem IsTLB.c1 : w.cell? ⟨b, 1, none⟩ = some (.int .i64 h) := by rw [cell_of H.hb]; rfl
theorem IsTLB.c2 : w.cell? ⟨b, 2, none⟩ = some (.int .i64 m) := by rw [cell_of H.hb]; rfl
theorem IsTLB.fb (o : Nat) : w.frozen? ⟨b, o, none⟩ = false := frozen_of H.hb o
theorem IsTLB.fS (o : Nat) : w.frozen? ⟨S, o, none⟩ = false := frozen_of H.hS o
theorem IsTLB.s0 {i : Nat} (hi : i < n) : w.cell? ⟨S, i * 4, none⟩ = some (.bool (T i).there) := by
  rw [cell_of H.hS]; simpa [slotL] using rowL_get n T i 0 hi (by omega)
theorem IsTLB.s1 {i : Nat} (hi : i < n) : w.cell? ⟨S, i * 4 + 1, none⟩ = some (.int .u32 (T i).page) := by
  rw [cell_of H.hS]; simpa [slotL] using rowL_get n T i 1 hi (by omega)
theorem IsTLB.s2 {i : Nat} (hi : i < n) : w.cell? ⟨S, i * 4 + 2, none⟩ = some (.int .u32 (T i).bits) := by
  rw [cell_of H.hS]; simpa [slotL] using rowL_get n T i 2 hi (by omega)
theorem IsTLB.s3 {i : Nat} (hi : i < n) : w.cell? ⟨S, i * 4 + 3, none⟩ = some (.int .i64 (T i).frame) := by
  rw [cell_of H.hS]; simpa [slotL] using rowL_get n T i 3 hi (by omega)
end

set_option maxHeartbeats 400000 in
theorem none_some (b S n : Nat) (w : World) (hn : 0 < n) (c0 : w.cell? ⟨b, 0, none⟩ = some (.slice (some ⟨S, 0, none⟩) n n)) :
    Calls Try.prog 15 #[.pointer (some ⟨b, 0, none⟩)] w fun e w' => e = .returned (.bool false) ∧ w = w' := by
  have h0 : ((n : Int) == 0) = false := by simp; omega
  go_enter Try.func15, Try.ntmps15
  go_wp2
  go_ret
  exact ⟨rfl, rfl⟩
set_option maxHeartbeats 400000 in
theorem none_nil (w : World) :
    Calls Try.prog 15 #[.pointer none] w fun e w' => e = .returned (.bool true) ∧ w = w' := by
  go_enter Try.func15, Try.ntmps15
  go_wp2
  go_ret
  exact ⟨rfl, rfl⟩
set_option maxHeartbeats 400000 in
theorem none_bare (b : Nat) (w : World) (c0 : w.cell? ⟨b, 0, none⟩ = some (.slice none 0 0)) :
    Calls Try.prog 15 #[.pointer (some ⟨b, 0, none⟩)] w fun e w' => e = .returned (.bool true) ∧ w = w' := by
  go_enter Try.func15, Try.ntmps15
  go_wp2
  go_ret
  exact ⟨rfl, rfl⟩

set_option maxHeartbeats 400000 in
theorem place_any (b S n : Nat) (page : Int) (w : World) (hn : 0 < n) (hn2 : n ≤ 64) (hp : 0 ≤ page) (hp2 : page < 4294967296) (c0 : w.cell? ⟨b, 0, none⟩ = some (.slice (some ⟨S, 0, none⟩) n n)) :
    Calls Try.prog 16 #[.pointer (some ⟨b, 0, none⟩), .int .u32 page] w fun e w' => e = .returned (.pointer (some ⟨S, (page % n).toNat * 4, none⟩)) ∧ ∃ q, w' = w.drewN q := by
  have h0 : ((n : Int) == 0) = false := by simp; omega
  have h1 : 0 ≤ page % n := Int.emod_nonneg _ (by omega)
  have h2 : page % n < n := Int.emod_lt_of_pos _ (by omega)
  have e1 := wrapI page (by omega) (by omega)
  have e2 : page.tmod (n : Int) = page % n := Int.tmod_eq_emod_of_nonneg hp
  have e3 := wrapI (page % n) (by omega) (by omega)
  go_enter Try.func16, Try.ntmps16
  go_wp2
  go_quiet (fail)
  clear e1 e2 e3
  go_wp2
  go_ret
  exact ⟨rfl, _, rfl⟩

set_option maxHeartbeats 400000 in
theorem add_any (b o : Nat) (x d : Int) (w : World) (h : -1000000 ≤ x + d) (h2 : x + d ≤ 1000000) (c : w.cell? ⟨b, o, none⟩ = some (.int .i64 x)) (f : w.frozen? ⟨b, o, none⟩ = false) :
    Calls Try.prog 17 #[.pointer (some ⟨b, o, none⟩), .int .i64 d] w fun e w' => e = .returned (.int .i64 (x + d)) ∧ w' = w.setCell ⟨b, o, none⟩ (.int .i64 (x + d)) := by
  have hadd := run_call_add (P := Try.prog) Try.func21 (by kernel_rfl) (by kernel_rfl) (by kernel_rfl) .i64 (by kernel_rfl) (y := d) (s := x + d) c f (by simp [Op.intArith, wrapI _ (show -9223372036854775808 ≤ x + d by omega) (by omega)])
  go_enter Try.func17, Try.ntmps17
  go_wp2
  go_ret
  exact ⟨rfl, rfl⟩
set_option maxHeartbeats 400000 in
theorem load_any (b o : Nat) (x : Int) (w : World) (c : w.cell? ⟨b, o, none⟩ = some (.int .i64 x)) :
    Calls Try.prog 18 #[.pointer (some ⟨b, o, none⟩)] w fun e w' => e = .returned (.int .i64 x) ∧ w = w' := by
  have hadd := run_call_load (P := Try.prog) Try.func22 (by kernel_rfl) (by kernel_rfl) (by kernel_rfl) .i64 (by kernel_rfl) c
  go_enter Try.func18, Try.ntmps18
  go_wp2
  go_ret
  exact ⟨rfl, rfl⟩

/-- What Look answers, and what it leaves. -/
def LookPost (w : World) (b S n : Nat) (h m : Int) (T : Nat → Slot) (s : Slot) (page : Int) (e : Ending) (w' : World) : Prop :=
  Keeps (fun k => k = b) w w' ∧ (if s.there = true ∧ s.page = page then e = .returned (.tuple #[.int .u32 s.bits, .int .i64 s.frame, .bool true]) ∧ IsTLB w' b S n (h + 1) m T
    else e = .returned (.tuple #[.int .u32 0, .int .i64 0, .bool false]) ∧ IsTLB w' b S n h (m + 1) T)

theorem look_world1 {w : World} {b S n : Nat} {h m : Int} {T : Nat → Slot} (H : IsTLB w b S n h m T) (q : Nat) (x : Int) : IsTLB ((w.drewN q).setCell ⟨b, 1, none⟩ (.int .i64 x)) b S n x m T :=
  ⟨by rw [block_set (w := w.drewN q) (by simpa using H.hb)]; rfl, block_other _ (by simpa using H.hS) (Ne.symm H.ne), H.ne⟩
theorem look_world2 {w : World} {b S n : Nat} {h m : Int} {T : Nat → Slot} (H : IsTLB w b S n h m T) (q : Nat) (x : Int) : IsTLB ((w.drewN q).setCell ⟨b, 2, none⟩ (.int .i64 x)) b S n h x T :=
  ⟨by rw [block_set (w := w.drewN q) (by simpa using H.hb)]; rfl, block_other _ (by simpa using H.hS) (Ne.symm H.ne), H.ne⟩

set_option maxHeartbeats 1000000 in
theorem look_any (b S n : Nat) (h m page : Int) (T : Nat → Slot) (w : World) (hn : 0 < n) (hn2 : n ≤ 64) (hp : 0 ≤ page) (hp2 : page < 4294967296) (hh : 0 ≤ h) (hh2 : h ≤ 1000) (hm : 0 ≤ m) (hm2 : m ≤ 1000)
    (H : IsTLB w b S n h m T) :
    Calls Try.prog 10 #[.pointer (some ⟨b, 0, none⟩), .int .u32 page] w (LookPost w b S n h m T (T (page % n).toNat) page) := by
  have hi : (page % n).toNat < n := by have := Int.emod_lt_of_pos page (show (0 : Int) < n by omega); have := Int.emod_nonneg page (show (n : Int) ≠ 0 by omega); omega
  have c0 := H.c0
  have c1 := H.c1
  have c2 := H.c2
  have f1 := H.fb 1
  have f2 := H.fb 2
  have s0 := H.s0 hi
  have s1 := H.s1 hi
  have s2 := H.s2 hi
  have s3 := H.s3 hi
  obtain ⟨i, hidef⟩ : ∃ i, i = (page % n).toNat := ⟨_, rfl⟩
  have HI := hidE hidef
  clear hidef
  rw [← HI.out] at s0 s1 s2 s3 hi ⊢
  obtain ⟨s, hs⟩ : ∃ s, s = T i := ⟨_, rfl⟩
  rw [← hs] at s0 s1 s2 s3 ⊢
  clear hs
  obtain ⟨th, pg, bt, fr⟩ := s
  simp only at s0 s1 s2 s3
  by_cases hit : th = true ∧ pg = page
  · obtain ⟨rfl, rfl⟩ := hit
    go_enter Try.func10, Try.ntmps10
    go_wp2_with (first | (go_at_call 15; refine (none_some b S n _ hn c0).mono ?_; rintro e w' ⟨rfl, rfl⟩) | (go_at_call 16; refine (place_any b S n _ _ hn hn2 hp hp2 c0).mono ?_; rintro e w' ⟨rfl, q, rfl⟩; rw [← HI.out]))
    go_quiet (fail)
    go_wp2_with (go_at_call 17; refine (add_any b 1 h 1 _ (by omega) (by omega) (by simpa using c1) (by simpa using f1)).mono ?_; rintro e w' ⟨rfl, rfl⟩)
    go_quiet (fail)
    go_wp2
    go_ret3
    refine ⟨?_, ?_⟩
    · exact (Keeps.setCell (F := fun k => k = b) ((Keeps.refl _ _).drewN _) (p := ⟨b, 1, none⟩) (fun _ => rfl) _).drewN _
    · rw [if_pos ⟨rfl, rfl⟩]
      exact ⟨rfl, (look_world1 H _ _).keeps ((Keeps.refl (fun _ => False) _).drewN _) id id⟩
  · have hne : th = false ∨ (pg == page) = false := by
      cases th <;> simp_all
    have HN := hidE  hit
    clear hit
    rcases hne with rfl | hne
    all_goals
      go_enter Try.func10, Try.ntmps10
      go_wp2_with (first | (go_at_call 15; refine (none_some b S n _ hn c0).mono ?_; rintro e w' ⟨rfl, rfl⟩) | (go_at_call 16; refine (place_any b S n _ _ hn hn2 hp hp2 c0).mono ?_; rintro e w' ⟨rfl, q, rfl⟩; rw [← HI.out]))
      go_quiet (fail)
      go_wp2_with (go_at_call 17; refine (add_any b 2 m 1 _ (by omega) (by omega) (by simpa using c2) (by simpa using f2)).mono ?_; rintro e w' ⟨rfl, rfl⟩)
      go_ret3
      refine ⟨?_, ?_⟩
      · exact (Keeps.setCell (F := fun k => k = b) ((Keeps.refl _ _).drewN _) (p := ⟨b, 2, none⟩) (fun _ => rfl) _)
      · rw [if_neg HN.out]
        exact ⟨rfl, look_world2 H _ _⟩

theorem put_world {w : World} {b S n : Nat} {h m : Int} {T : Nat → Slot} (H : IsTLB w b S n h m T) (s : Slot) {i : Nat} (hi : i < n) :
    IsTLB ((((w.setCell ⟨S, i * 4, none⟩ (.bool s.there)).setCell ⟨S, i * 4 + 1, none⟩ (.int .u32 s.page)).setCell ⟨S, i * 4 + 2, none⟩ (.int .u32 s.bits)).setCell ⟨S, i * 4 + 3, none⟩ (.int .i64 s.frame)) b S n h m (upd T i s) := by
  refine ⟨?_, ?_, H.ne⟩
  · exact block_other _ (block_other _ (block_other _ (block_other _ H.hb H.ne) H.ne) H.ne) H.ne
  · rw [block_set (block_set (block_set (block_set H.hS _ _) _ _) _ _)]
    have := rowL_set n T i s hi
    simp only [List.setIfInBounds_toArray, this]
theorem put_keeps {w : World} {S i : Nat} (v0 v1 v2 v3 : Value) :
    Keeps (fun k => k = S) w ((((w.setCell ⟨S, i * 4, none⟩ v0).setCell ⟨S, i * 4 + 1, none⟩ v1).setCell ⟨S, i * 4 + 2, none⟩ v2).setCell ⟨S, i * 4 + 3, none⟩ v3) :=
  Keeps.setCell (F := fun k => k = S) (Keeps.setCell (F := fun k => k = S) (Keeps.setCell (F := fun k => k = S) (Keeps.setCell (F := fun k => k = S) (Keeps.refl _ w) (p := ⟨S, _, none⟩) (fun _ => rfl) _) (p := ⟨S, _, none⟩) (fun _ => rfl) _) (p := ⟨S, _, none⟩) (fun _ => rfl) _) (p := ⟨S, _, none⟩) (fun _ => rfl) _

/-- What Put, Drop and Flush leave: other slots. -/
def TlbPost (w : World) (b S n : Nat) (h m : Int) (T : Nat → Slot) (e : Ending) (w' : World) : Prop :=
  e = .returned (.tuple #[]) ∧ Keeps (fun k => k = S) w w' ∧ IsTLB w' b S n h m T

theorem slot_lt {n : Nat} {page : Int} (hn : 0 < n) : (page % n).toNat < n := by
  have := Int.emod_lt_of_pos page (show (0 : Int) < n by omega); have := Int.emod_nonneg page (show (n : Int) ≠ 0 by omega); omega

set_option maxHeartbeats 1000000 in
theorem put_any (b S n : Nat) (h m page bits frame : Int) (T : Nat → Slot) (w : World) (hn : 0 < n) (hn2 : n ≤ 64) (hp : 0 ≤ page) (hp2 : page < 4294967296) (H : IsTLB w b S n h m T) :
    Calls Try.prog 9 #[.pointer (some ⟨b, 0, none⟩), .int .u32 page, .int .u32 bits, .int .i64 frame] w (TlbPost w b S n h m (upd T (page % n).toNat ⟨true, page, bits, frame⟩)) := by
  have hi := slot_lt (page := page) hn
  have c0 := H.c0
  have f0 := H.fS ((page % n).toNat * 4)
  have f1 := H.fS ((page % n).toNat * 4 + 1)
  have f2 := H.fS ((page % n).toNat * 4 + 2)
  have f3 := H.fS ((page % n).toNat * 4 + 3)
  have s0 := H.s0 hi
  have s1 := H.s1 hi
  have s2 := H.s2 hi
  have s3 := H.s3 hi
  obtain ⟨i, hidef⟩ : ∃ i, i = (page % n).toNat := ⟨_, rfl⟩
  have HI := hidE  hidef
  clear hidef
  rw [← HI.out] at s0 s1 s2 s3 hi f0 f1 f2 f3 ⊢
  go_enter Try.func9, Try.ntmps9
  go_wp2_with (first | (go_at_call 15; refine (none_some b S n _ hn c0).mono ?_; rintro e w' ⟨rfl, rfl⟩) | (go_at_call 16; refine (place_any b S n _ _ hn hn2 hp hp2 c0).mono ?_; rintro e w' ⟨rfl, q, rfl⟩; rw [← HI.out]))
  go_end0
  have H' : IsTLB (w.drewN q) b S n h m T := H.keeps ((Keeps.refl (fun _ => False) _).drewN _) id id
  exact ⟨rfl, ((Keeps.refl _ _).drewN q).trans (put_keeps _ _ _ _), put_world H' ⟨true, page, bits, frame⟩ hi⟩

def dropT (T : Nat → Slot) (n : Nat) (page : Int) : Nat → Slot := if (T (page % n).toNat).page = page then upd T (page % n).toNat ⟨false, 0, 0, 0⟩ else T
theorem dropT_yes {T : Nat → Slot} {n i : Nat} {page : Int} (hi : i = (page % n).toNat) (h : (T i).page = page) : dropT T n page = upd T i ⟨false, 0, 0, 0⟩ := by subst hi; exact if_pos h
theorem dropT_no {T : Nat → Slot} {n i : Nat} {page : Int} (hi : i = (page % n).toNat) (h : ¬ (T i).page = page) : dropT T n page = T := by subst hi; exact if_neg h

set_option maxHeartbeats 1000000 in
theorem drop_any (b S n : Nat) (h m page : Int) (T : Nat → Slot) (w : World) (hn : 0 < n) (hn2 : n ≤ 64) (hp : 0 ≤ page) (hp2 : page < 4294967296) (H : IsTLB w b S n h m T) :
    Calls Try.prog 19 #[.pointer (some ⟨b, 0, none⟩), .int .u32 page] w (TlbPost w b S n h m (dropT T n page)) := by
  have hi := slot_lt (page := page) hn
  have c0 := H.c0
  have f0 := H.fS ((page % n).toNat * 4)
  have f1 := H.fS ((page % n).toNat * 4 + 1)
  have f2 := H.fS ((page % n).toNat * 4 + 2)
  have f3 := H.fS ((page % n).toNat * 4 + 3)
  have s0 := H.s0 hi
  have s1 := H.s1 hi
  have s2 := H.s2 hi
  have s3 := H.s3 hi
  obtain ⟨i, hidef⟩ : ∃ i, i = (page % n).toNat := ⟨_, rfl⟩
  have HI := hidE  hidef
  clear hidef
  rw [← HI.out] at s0 s1 s2 s3 hi f0 f1 f2 f3
  obtain ⟨T', hT'⟩ : ∃ T', T' = dropT T n page := ⟨_, rfl⟩
  rw [← hT']
  obtain ⟨pg, hpg⟩ : ∃ pg, pg = (T i).page := ⟨_, rfl⟩
  rw [← hpg] at s1
  by_cases e : pg = page
  · subst e
    have HT := hidE  (hT'.trans (dropT_yes HI.out hpg.symm))
    clear hT' hpg
    go_enter Try.func19, Try.ntmps19
    go_wp2_with (first | (go_at_call 15; refine (none_some b S n _ hn c0).mono ?_; rintro e w' ⟨rfl, rfl⟩) | (go_at_call 16; refine (place_any b S n _ _ hn hn2 hp hp2 c0).mono ?_; rintro e w' ⟨rfl, q, rfl⟩; rw [← HI.out]))
    go_end0
    have H' : IsTLB (w.drewN q) b S n h m T := H.keeps ((Keeps.refl (fun _ => False) _).drewN _) id id
    rw [HT.out]
    exact ⟨rfl, ((Keeps.refl _ _).drewN q).trans (put_keeps _ _ _ _), put_world H' ⟨false, 0, 0, 0⟩ hi⟩
  · have he : (pg == page) = false := by simpa using e
    have HT := hidE  (hT'.trans (dropT_no HI.out (hpg ▸ e)))
    clear hT' hpg e
    go_enter Try.func19, Try.ntmps19
    go_wp2_with (first | (go_at_call 15; refine (none_some b S n _ hn c0).mono ?_; rintro e w' ⟨rfl, rfl⟩) | (go_at_call 16; refine (place_any b S n _ _ hn hn2 hp hp2 c0).mono ?_; rintro e w' ⟨rfl, q, rfl⟩; rw [← HI.out]))
    go_end0
    rw [HT.out]
    exact ⟨rfl, (Keeps.refl _ _).drewN q, H.keeps ((Keeps.refl (fun _ => False) _).drewN _) id id⟩

set_option maxHeartbeats 1000000 in
theorem counts_any (b S n : Nat) (h m : Int) (T : Nat → Slot) (w : World) (hn : 0 < n) (H : IsTLB w b S n h m T) :
    Calls Try.prog 12 #[.pointer (some ⟨b, 0, none⟩)] w fun e w' => e = .returned (.tuple #[.int .i64 h, .int .i64 m]) ∧ Same w w' := by
  have c0 := H.c0
  have c1 := H.c1
  have c2 := H.c2
  go_enter Try.func12, Try.ntmps12
  go_wp2_with (go_at_call 15; refine (none_some b S n _ hn c0).mono ?_; rintro e w' ⟨rfl, rfl⟩)
  go_quiet ((go_at_call 18; first | exact Calls.quiet_of_same ((load_any b 1 h _ (by simpa using c1)).mono fun _ _ x => ⟨x.1, x.2.symm⟩) | exact Calls.quiet_of_same ((load_any b 2 m _ (by simpa using c2)).mono fun _ _ x => ⟨x.1, x.2.symm⟩)))
  go_wp2
  go_ret2
  exact ⟨rfl, (Keeps.refl _ _).drewN _⟩

def blankS : Slot := ⟨false, 0, 0, 0⟩
theorem zeroCells_slots (n : Nat) : Builtin.zeroCells #[.bool false, .int .u32 0, .int .u32 0, .int .i64 0] n = (rowL n fun _ => blankS).toArray := by
  apply Array.toList_inj.1
  apply List.ext_getElem
  · simp [Builtin.zeroCells, rowL_length]
  · intro k h1 h2
    have hk : k < n * 4 := by simpa [Builtin.zeroCells] using h1
    have h3 := rowL_get n (fun _ => blankS) (k / 4) (k % 4) (by omega) (by omega)
    have e : k / 4 * 4 + k % 4 = k := by omega
    rw [e] at h3
    have h4 : (rowL n fun _ => blankS)[k]? = some (rowL n fun _ => blankS)[k] := List.getElem?_eq_getElem (by rw [rowL_length]; exact hk)
    rw [h4] at h3
    have h5 : k % 4 = 0 ∨ k % 4 = 1 ∨ k % 4 = 2 ∨ k % 4 = 3 := by omega
    simp only [Builtin.zeroCells, Array.toList_map, List.getElem_map, Array.toList_range, List.getElem_range]
    rcases h5 with h5 | h5 | h5 | h5 <;> simp [slotL, blankS, h5] at h3 ⊢ <;> exact h3.symm

theorem slot_info : (Try.prog.info? 58).map (fun i => (i.zero, i.size, i.bytes)) = some (some (.agg #[.bool false, .int .u32 0, .int .u32 0, .int .i64 0]), 4, 24) := by kernel_rfl
theorem slot_zero (w : World) : (zeroValue 58).run Try.prog w = .ok (.agg #[.bool false, .int .u32 0, .int .u32 0, .int .i64 0]) w := by kernel_rfl

set_option maxHeartbeats 1000000 in
theorem flush_any (b S n : Nat) (h m : Int) (T : Nat → Slot) (w : World) (hn : 0 < n) (H : IsTLB w b S n h m T) :
    Calls Try.prog 20 #[.pointer (some ⟨b, 0, none⟩)] w (TlbPost w b S n h m fun _ => blankS) := by
  have c0 := H.c0
  have hcl := fun ty => run_clear_block (P := Try.prog) w 45 58 ty _ Try.underlying45 slot_zero S n n _ _ hn H.hS (by rw [show (Value.agg #[.bool false, .int .u32 0, .int .u32 0, .int .i64 0]).cells = #[.bool false, .int .u32 0, .int .u32 0, .int .i64 0] from rfl, zeroCells_slots]; simp [rowL_length]) (by
    rw [show (Value.agg #[.bool false, .int .u32 0, .int .u32 0, .int .i64 0]).cells = #[.bool false, .int .u32 0, .int .u32 0, .int .i64 0] from rfl, zeroCells_slots]
    clear H c0
    induction n with
    | zero => simp [rowL]
    | succ n ih => 
      intro v hv
      simp only [rowL, List.mem_append] at hv
      rcases hv with hv | hv
      · by_cases e : 0 < n
        · exact ih e v (by simpa using hv)
        · obtain rfl : n = 0 := by omega
          simp [rowL] at hv
      · simp [slotL, blankS] at hv
        rcases hv with rfl | rfl | rfl | rfl <;> rfl)
  rw [show (Value.agg #[.bool false, .int .u32 0, .int .u32 0, .int .i64 0]).cells = #[.bool false, .int .u32 0, .int .u32 0, .int .i64 0] from rfl, zeroCells_slots] at hcl
  go_enter Try.func20, Try.ntmps20
  go_wp2_with (go_at_call 15; refine (none_some b S n _ hn c0).mono ?_; rintro e w' ⟨rfl, rfl⟩)
  go_end0
  exact ⟨rfl, Keeps.setRow (F := fun k => k = S) (Keeps.refl _ _) (fun _ => rfl) _, by rw [setRow_other _ _ _ _ H.ne]; exact H.hb, setRow_heap _ _ _ _ _ _ H.hS, H.ne⟩

/-- What New leaves: a TLB that remembers nothing. -/
def NewPost (w : World) (n : Nat) (e : Ending) (w' : World) : Prop :=
  e = .returned (.tuple #[.pointer (some ⟨w.heap.size + 1, 0, none⟩), .int .i64 0]) ∧ Same w w' ∧ IsTLB w' (w.heap.size + 1) w.heap.size n 0 0 fun _ => blankS

set_option maxHeartbeats 1000000 in
theorem new_any (n : Nat) (w : World) (hn : 0 < n) (hn2 : n ≤ 64) :
    Calls Try.prog 11 #[.int .i64 n] w (NewPost w n) := by
  obtain ⟨i0, hi, hz0, hz1, hz2⟩ := info_parts slot_info
  have hmk := fun w => run_make (P := Try.prog) w 45 58 _ _ Try.underlying45 hi hz0 .i64 .i64 n n (by omega) (by omega) (by rw [hz2]; omega) (by omega)
  rw [hz1] at hmk
  clear hi hz0 hz1 hz2
  have ez : (Int.toNat (n : Int)) = n := by omega
  rw [ez] at hmk
  clear ez
  go_enter Try.func11, Try.ntmps11
  go_wp2
  go_ret2
  refine ⟨rfl, ((Keeps.refl _ _).alloc _).alloc _, ?_, ?_, by omega⟩
  · have := block_new (w.alloc (.cells (madeCells #[.bool false, .int .u32 0, .int .u32 0, .int .i64 0] (n * 4)) 58)) (.cells #[.slice (some ⟨w.heap.size, 0, none⟩) n n, .int .i64 0, .int .i64 0] 52)
    rwa [World.size_alloc] at this
  · rw [block_old _ (block_new w _)]
    have : madeCells #[.bool false, .int .u32 0, .int .u32 0, .int .i64 0] (n * 4) = (rowL n fun _ => blankS).toArray := zeroCells_slots n
    rw [← this]

set_option maxHeartbeats 1000000 in
theorem new_no (x : Int) (w : World) (h : x < 1 ∨ 64 < x) :
    Calls Try.prog 11 #[.int .i64 x] w fun e w' => e = .returned (.tuple #[.pointer none, .int .i64 2]) ∧ w = w' := by
  rcases h with h | h
  · go_enter Try.func11, Try.ntmps11
    go_wp2
    go_ret2
    exact ⟨rfl, rfl⟩
  · have h1 : ¬ x < 1 := by omega
    go_enter Try.func11, Try.ntmps11
    go_wp2
    go_ret2
    exact ⟨rfl, rfl⟩
end Go.Proofs.Ytebponllpjpbeaa
