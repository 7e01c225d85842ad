/- Package flags: a result's flags. -/
import Derived.Test.YtdbfjgmehmbefaaHeap
import Derived.Test.YtdbfjgmehmbefaaRows
import Derived.WalkKit
import Derived.WalkSpells
import Derived.WalkLawsBesides
import Derived.Handy
namespace Go.Proofs.Ytdbfjgmehmbefaa
open Go.RowKit

/-- The flags of a result alone. -/
def zn (r : Int) : Int := if r = 0 then 16 else if 2147483648 ≤ r then 32 else 0
/-- With a carry, and a lost sign. -/
def flg (r : Int) (c v : Bool) : Int := zn r + (if c then 64 else 0) + (if v then 128 else 0)
set_option maxHeartbeats 1000000 in
theorem put_0 (r : Int)  (r0 : 0 ≤ r) (r1 : r < 4294967296) (w : World) :
    Calls Try.prog 128 #[.int .u32 r, .slice none 0 0] w fun e w' => e = .returned (.tuple #[.int .u32 r, .int .u32 (zn r)]) ∧ w' = w := by
  rcases (show r = 0 ∨ (0 < r ∧ r < 2147483648) ∨ 2147483648 ≤ r by omega) with h | ⟨h, h'⟩ | h
  · subst h
    all_goals
      go_enter Try.func128, Try.ntmps128
      go_wp2_with fail
      go_rounds 1
      go_ret2
      refine ⟨?_, rfl⟩
      rfl
  · have hr0 : (r == 0) = false := by simp; omega
    have hr1 : (r / 2147483648 == 1) = false := by simp; omega
    have hz : zn r = 0 := by unfold zn; rw [if_neg (by omega), if_neg (by omega)]
    have HZ : Hid (zn r = 0) := hz
    clear hz
    all_goals
      go_enter Try.func128, Try.ntmps128
      go_wp2_with fail
      go_rounds 1
      go_ret2
      refine ⟨?_, rfl⟩
      rw [HZ.out]; rfl
  · have hr0 : (r == 0) = false := by simp; omega
    have hr1 : (r / 2147483648 == 1) = true := by simp; omega
    have hz : zn r = 32 := by unfold zn; rw [if_neg (by omega), if_pos h]
    have HZ : Hid (zn r = 32) := hz
    clear hz
    all_goals
      go_enter Try.func128, Try.ntmps128
      go_wp2_with fail
      go_rounds 1
      go_ret2
      refine ⟨?_, rfl⟩
      rw [HZ.out]; rfl
set_option maxHeartbeats 1000000 in
theorem put_1 (r : Int) (c : Bool) (r0 : 0 ≤ r) (r1 : r < 4294967296) (w : World) (S : Nat) (hS : w.heap[S]? = some (.cells #[.bool c] 4 (0, 0))) :
    Calls Try.prog 128 #[.int .u32 r, .slice (some ⟨S, 0, none⟩) 1 1] w fun e w' => e = .returned (.tuple #[.int .u32 r, .int .u32 (flg r c false)]) ∧ w' = w := by
  have cS := cell_of hS
  clear hS
  rcases (show r = 0 ∨ (0 < r ∧ r < 2147483648) ∨ 2147483648 ≤ r by omega) with h | ⟨h, h'⟩ | h
  · subst h
    cases c
    all_goals
      go_enter Try.func128, Try.ntmps128
      go_wp2_with fail
      go_rounds 2
      go_ret2
      refine ⟨?_, rfl⟩
      rfl
  · have hr0 : (r == 0) = false := by simp; omega
    have hr1 : (r / 2147483648 == 1) = false := by simp; omega
    have hz : zn r = 0 := by unfold zn; rw [if_neg (by omega), if_neg (by omega)]
    have HZ : Hid (zn r = 0) := hz
    clear hz
    cases c
    all_goals
      go_enter Try.func128, Try.ntmps128
      go_wp2_with fail
      go_rounds 2
      go_ret2
      refine ⟨?_, rfl⟩
      simp only [flg, HZ.out]; rfl
  · have hr0 : (r == 0) = false := by simp; omega
    have hr1 : (r / 2147483648 == 1) = true := by simp; omega
    have hz : zn r = 32 := by unfold zn; rw [if_neg (by omega), if_pos h]
    have HZ : Hid (zn r = 32) := hz
    clear hz
    cases c
    all_goals
      go_enter Try.func128, Try.ntmps128
      go_wp2_with fail
      go_rounds 2
      go_ret2
      refine ⟨?_, rfl⟩
      simp only [flg, HZ.out]; rfl
set_option maxHeartbeats 1000000 in
theorem put_2 (r : Int) (c v : Bool) (r0 : 0 ≤ r) (r1 : r < 4294967296) (w : World) (S : Nat) (hS : w.heap[S]? = some (.cells #[.bool c, .bool v] 4 (0, 0))) :
    Calls Try.prog 128 #[.int .u32 r, .slice (some ⟨S, 0, none⟩) 2 2] w fun e w' => e = .returned (.tuple #[.int .u32 r, .int .u32 (flg r c v)]) ∧ w' = w := by
  have cS := cell_of hS
  clear hS
  rcases (show r = 0 ∨ (0 < r ∧ r < 2147483648) ∨ 2147483648 ≤ r by omega) with h | ⟨h, h'⟩ | h
  · subst h
    cases c <;> cases v
    all_goals
      go_enter Try.func128, Try.ntmps128
      go_wp2_with fail
      go_rounds 3
      go_ret2
      refine ⟨?_, rfl⟩
      rfl
  · have hr0 : (r == 0) = false := by simp; omega
    have hr1 : (r / 2147483648 == 1) = false := by simp; omega
    have hz : zn r = 0 := by unfold zn; rw [if_neg (by omega), if_neg (by omega)]
    have HZ : Hid (zn r = 0) := hz
    clear hz
    cases c <;> cases v
    all_goals
      go_enter Try.func128, Try.ntmps128
      go_wp2_with fail
      go_rounds 3
      go_ret2
      refine ⟨?_, rfl⟩
      simp only [flg, HZ.out]; rfl
  · have hr0 : (r == 0) = false := by simp; omega
    have hr1 : (r / 2147483648 == 1) = true := by simp; omega
    have hz : zn r = 32 := by unfold zn; rw [if_neg (by omega), if_pos h]
    have HZ : Hid (zn r = 32) := hz
    clear hz
    cases c <;> cases v
    all_goals
      go_enter Try.func128, Try.ntmps128
      go_wp2_with fail
      go_rounds 3
      go_ret2
      refine ⟨?_, rfl⟩
      simp only [flg, HZ.out]; rfl
end Go.Proofs.Ytdbfjgmehmbefaa
