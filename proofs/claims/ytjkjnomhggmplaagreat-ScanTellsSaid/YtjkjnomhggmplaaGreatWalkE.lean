/- Package walk: To. -/
import Derived.Test.YtjkjnomhggmplaaGreatWalkD
namespace Go.Proofs.YtjkjnomhggmplaaGreat
open Go.RowKit

/-- Where an access leads. -/
def toL (R : RamAt) (M : List Int) (root ps va : Nat) (kind : Int) : Option Nat :=
  if ps / 4 % 2 = 0 then (if va < 64 * R.n then some va else none) else
  match lookL R M root va with
  | none => none
  | some x => if mayL (x.bits : Nat) kind (decide (ps % 2 = 1)) then some x.at_ else none
theorem bitsN_lt (x y : Nat) : bitsN x y < 32 := by
  unfold bitsN
  refine Nat.or_lt_two_pow (n := 5) (Nat.lt_trans (stepN_lt _ _ (stepN_lt _ _ (by omega))) (by omega)) (Nat.lt_of_le_of_lt Nat.and_le_right (by omega))
theorem lookL_bd {R : RamAt} {M : List Int} {root va : Nat} {x : WayN} (h : lookL R M root va = some x) : x.bits < 32 ∧ x.at_ < 64 * R.n := by
  unfold lookL at h
  split at h
  · cases h
  split at h
  · cases h
  split at h
  · cases h
  split at h
  · cases h
  split at h
  · cases h
  split at h
  · cases h
  rename_i hz
  simp only [Option.some.injEq] at h
  subst h
  exact ⟨bitsN_lt _ _, by simp only; omega⟩
set_option maxRecDepth 100000 in
set_option maxHeartbeats 4000000 in
theorem to_any {R : RamAt} {M : List Int} (w : World) (H : IsRam w R M) (root ps va : Nat) (hr : root < 4294967296) (hp : ps < 4294967296) (hv : va < 4294967296) (kind : Int) (k1 : 1 ≤ kind) (k3 : kind ≤ 3) :
    Calls Tryz.prog 77 #[.pointer (some ⟨R.b, 0, none⟩), .int .u32 root, .int .i64 16, .int .u32 ps, .int .u32 va, .int .i64 kind] w fun x w' => x = .returned (.tuple #[.int .u32 (((toL R M root ps va kind).getD 0 : Nat) : Int), .bool (toL R M root ps va kind).isSome]) ∧ Same w w' := by
  generalize hL : toL R M root ps va kind = L
  unfold toL at hL
  have HL := hidE hL
  clear hL
  have a4 := and_4 (ps : Int) (by omega) (by omega)
  have a1 := and_1 (ps : Int) (by omega) (by omega)
  have HS := hidE (size_ram w H)
  have HK := hidE (look_any w H root va hr hv)
  have n2 := H.n2
  clear H
  by_cases h4 : ps / 4 % 2 = 0
  · have q4 : decide ((ps : Int) / 4 % 2 * 4 = 0) = true := by simp; omega
    by_cases hz : va < 64 * R.n
    · obtain rfl : some va = L := by have h := HL.out; rwa [if_pos h4, if_pos hz] at h
      have q1 : decide ((64 : Int) * R.n ≤ (va : Int)) = false := by simp; omega
      have q2 : decide (kind < 1) = false := by simp; omega
      have q3 : decide (3 < kind) = false := by simp; omega
      go_enter Tryz.func77, Tryz.ntmps77
      go_wp2_with fail
      refine HS.out.mono ?_
      rintro _ w2 ⟨rfl, rfl⟩
      go_wp2
      go_ret2
      exact ⟨rfl, Keeps.refl _ _⟩
    · obtain rfl : none = L := by have h := HL.out; rwa [if_pos h4, if_neg hz] at h
      have q1 : decide ((64 : Int) * R.n ≤ (va : Int)) = true := by simp; omega
      go_enter Tryz.func77, Tryz.ntmps77
      go_wp2_with fail
      refine HS.out.mono ?_
      rintro _ w2 ⟨rfl, rfl⟩
      go_wp2
      go_ret2
      exact ⟨rfl, Keeps.refl _ _⟩
  · have q4 : decide ((ps : Int) / 4 % 2 * 4 = 0) = false := by simp; omega
    cases hx : lookL R M root va with
    | none =>
      rw [hx] at HK
      obtain rfl : none = L := by have h := HL.out; rw [if_neg h4, hx] at h; exact h
      go_enter Tryz.func77, Tryz.ntmps77
      go_wp2_with fail
      refine HK.out.mono ?_
      rintro _ w2 ⟨rfl, hk⟩
      have HH := hidE hk
      clear hk
      simp only [wayA, way0, Option.getD_none, Option.isSome_none]
      go_wp2
      go_ret2
      exact ⟨rfl, HH.out.alloc _⟩
    | some x =>
      rw [hx] at HK
      have hb := lookL_bd hx
      obtain ⟨x1, x2, x3, x4, x5, x6⟩ := x
      simp only at hb
      have HM := hidE (fun u w => walkMay_any (x1 : Int) kind u w (by omega) (by omega))
      have e5 : ((ps : Int) % 2 != 0) = decide (ps % 2 = 1) := by
        by_cases h : ps % 2 = 1
        · simp [bne, h]; omega
        · simp [bne, h]; omega
      obtain ⟨B, hB⟩ : ∃ B, B = decide (ps % 2 = 1) := ⟨_, rfl⟩
      rw [← hB] at e5
      have HB := hidE hB
      clear hB
      cases hm : mayL (x1 : Nat) kind B
      · obtain rfl : none = L := by have h := HL.out; rw [if_neg h4, hx] at h; simpa only [← HB.out, hm, Bool.false_eq_true, if_false] using h
        go_enter Tryz.func77, Tryz.ntmps77
        go_wp2_with fail
        refine HK.out.mono ?_
        rintro _ w2 ⟨rfl, hk⟩
        have HH := hidE hk
        clear hk
        simp only [wayA, Option.getD_some, Option.isSome_some]
        go_wp2_with fail
        refine (HM.out B _).mono ?_
        rintro _ w3 ⟨rfl, rfl⟩
        go_wp2
        go_ret2
        exact ⟨rfl, HH.out.alloc _⟩
      · obtain rfl : some x2 = L := by have h := HL.out; rw [if_neg h4, hx] at h; simpa only [← HB.out, hm, if_true] using h
        go_enter Tryz.func77, Tryz.ntmps77
        go_wp2_with fail
        refine HK.out.mono ?_
        rintro _ w2 ⟨rfl, hk⟩
        have HH := hidE hk
        clear hk
        simp only [wayA, Option.getD_some, Option.isSome_some]
        go_wp2_with fail
        refine (HM.out B _).mono ?_
        rintro _ w3 ⟨rfl, rfl⟩
        go_wp2
        go_ret2
        exact ⟨rfl, HH.out.alloc _⟩
end Go.Proofs.YtjkjnomhggmplaaGreat
