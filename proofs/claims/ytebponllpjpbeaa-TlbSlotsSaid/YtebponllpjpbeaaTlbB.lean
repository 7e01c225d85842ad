/- The walks through package tlb's statements' helpers: made and do. -/
import Derived.Test.YtebponllpjpbeaaTlb
import Derived.Test.YtebponllpjpbeaaRead
namespace Go.Proofs.Ytebponllpjpbeaa
open Go.RowKit

def madeN (x : Int) : Nat := ((x % 18446744073709551616) % 9).toNat + 1
theorem madeN_pos (x : Int) : 0 < madeN x := by unfold madeN; omega
theorem madeN_le (x : Int) : madeN x ≤ 9 := by unfold madeN; omega
theorem madeN_eq (x : Int) : (1 : Int) + (x % 18446744073709551616) % 9 = madeN x := by unfold madeN; omega

def MadePost (w : World) (n : Nat) (e : Ending) (w' : World) : Prop :=
  e = .returned (.tuple #[.pointer (some ⟨w.heap.size + 1, 0, none⟩), .int .i64 n]) ∧ Same w w' ∧ IsTLB w' (w.heap.size + 1) w.heap.size n 0 0 fun _ => blankS

theorem madeN_wrap (x : Int) : wrap64 (1 + wrap64 ((IntKind.u64.wrap x).tmod 9)) = (madeN x : Int) := by
  rw [show IntKind.u64.wrap x = x % 18446744073709551616 from by rw [IntKind.wrap_u64]]
  rw [Int.tmod_eq_emod_of_nonneg (by omega)]
  unfold madeN wrap64; omega
set_option maxHeartbeats 1000000 in
theorem made_any (x : Int) (w : World) : Calls Try.prog 8 #[.int .i64 x] w (MadePost w (madeN x)) := by
  have HW := hidE  (madeN_wrap x)
  have hp := madeN_pos x
  have hl := madeN_le x
  go_enter Try.func8, Try.ntmps8
  go_wp2_with fail
  simp only [HW.out]
  refine (new_any (madeN x) w hp (by omega)).mono ?_
  rintro e w1 ⟨rfl, hk, hT⟩
  go_wp2
  go_ret2
  exact ⟨rfl, hk, hT⟩

/-- What a step of the statements does to the slots. -/
def doT (T : Nat → Slot) (n : Nat) (kind page bits frame : Int) : Nat → Slot :=
  if kind = 0 then upd T (page % n).toNat ⟨true, page, bits, frame⟩ else if kind = 1 then dropT T n page else if kind = 2 then fun _ => blankS else T

set_option maxHeartbeats 1000000 in
theorem do_any (b S n : Nat) (h m kind page bits frame : Int) (T : Nat → Slot) (w : World) (hn : 0 < n) (hn2 : n ≤ 64) (hp : 0 ≤ page) (hp2 : page < 4294967296) (H : IsTLB w b S n h m T) :
    Calls Try.prog 13 #[.pointer (some ⟨b, 0, none⟩), .agg #[.int .i64 kind, .int .u32 page, .int .u32 bits, .int .i64 frame]] w (TlbPost w b S n h m (doT T n kind page bits frame)) := by
  obtain ⟨T', hT'⟩ : ∃ T', T' = doT T n kind page bits frame := ⟨_, rfl⟩
  rw [← hT']
  have H' := fun o => H.keeps ((Keeps.refl (fun _ => False) w).alloc o) id id
  by_cases k0 : kind = 0
  · subst k0
    rw [doT, if_pos rfl] at hT'
    have HT := hidE  hT'
    clear hT'
    go_enter Try.func13, Try.ntmps13
    go_wp2_with (go_at_call 9; refine (put_any b S n h m page bits frame T _ hn hn2 hp hp2 (H' _)).mono ?_; rintro e w1 ⟨rfl, hk, hT⟩)
    go_end0
    rw [HT.out]
    exact ⟨rfl, ((Keeps.refl _ _).alloc _).trans hk, hT⟩
  · by_cases k1 : kind = 1
    · subst k1
      rw [doT, if_neg (by omega), if_pos rfl] at hT'
      have HT := hidE  hT'
      clear hT'
      go_enter Try.func13, Try.ntmps13
      go_wp2_with (go_at_call 19; refine (drop_any b S n h m page T _ hn hn2 hp hp2 (H' _)).mono ?_; rintro e w1 ⟨rfl, hk, hT⟩)
      go_end0
      rw [HT.out]
      exact ⟨rfl, ((Keeps.refl _ _).alloc _).trans hk, hT⟩
    · by_cases k2 : kind = 2
      · subst k2
        rw [doT, if_neg (by omega), if_neg (by omega), if_pos rfl] at hT'
        have HT := hidE  hT'
        clear hT'
        go_enter Try.func13, Try.ntmps13
        go_wp2_with (go_at_call 20; refine (flush_any b S n h m T _ hn (H' _)).mono ?_; rintro e w1 ⟨rfl, hk, hT⟩)
        go_end0
        rw [HT.out]
        exact ⟨rfl, ((Keeps.refl _ _).alloc _).trans hk, hT⟩
      · have e0 : (kind == 0) = false := by simpa using k0
        have e1 : (kind == 1) = false := by simpa using k1
        have e2 : (kind == 2) = false := by simpa using k2
        rw [doT, if_neg k0, if_neg k1, if_neg k2] at hT'
        have HT := hidE  hT'
        clear hT' k0 k1 k2
        go_enter Try.func13, Try.ntmps13
        go_wp2
        go_end0
        rw [HT.out]
        exact ⟨rfl, (Keeps.refl _ _).alloc _, H' _⟩
end Go.Proofs.Ytebponllpjpbeaa
