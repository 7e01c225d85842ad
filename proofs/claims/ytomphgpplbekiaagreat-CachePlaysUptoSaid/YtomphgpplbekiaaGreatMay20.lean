/- What both say of an operation's end; the two tests of a block's end. -/
import Derived.Test.YtomphgpplbekiaaGreatRef3
import Derived.Test.YtomphgpplbekiaaGreatKindD
namespace Go.Proofs.YtomphgpplbekiaaGreat
open Go.RowKit

theorem ends_all : ∀ n : Fin 256, decide (3 ≤ (kindM (n.val : Int)).1) = ending3 (n.val : Int) := by decide +kernel
theorem ends_same (op : Int) (h0 : 0 ≤ op) (h1 : op < 256) : decide (3 ≤ (kindM op).1) = ending3 op := by
  obtain ⟨n, rfl⟩ := Int.eq_ofNat_of_zero_le h0
  exact ends_all ⟨n, by omega⟩
/-- Whether a block may end so. -/
def fitsE (op e : Int) (ends : Bool) : Bool :=
  if e = 1 then !ends else if e = 2 then (op == 64 || op == 72) else if e = 3 then (decide (65 ≤ op) && decide (op ≤ 71)) else if e = 4 then (ends && !(op == 64 || op == 72) && !(decide (65 ≤ op) && decide (op ≤ 71))) else false
set_option maxHeartbeats 4000000 in
theorem fits_ok (op e : Int) (ends : Bool) (w : World) : Calls Tryz.prog 100 #[.int .u8 op, .int .i64 e, .bool ends] w fun en w' => en = .returned (.bool (fitsE op e ends)) ∧ w' = w := by
  by_cases e1 : e = 1
  · subst e1
    go_enter Tryz.func100, Tryz.ntmps100
    by_cases c1 : op = 64 <;> by_cases c2 : op = 72 <;> by_cases c3 : 65 ≤ op <;> by_cases c4 : op ≤ 71 <;> first | (exfalso; omega) | skip
    all_goals
      (try subst c1)
      (try subst c2)
      cases ends
    all_goals
      go_wp2
      go_ret
      refine ⟨?_, rfl⟩
      simp [fitsE, *]
  by_cases e2 : e = 2
  · subst e2
    go_enter Tryz.func100, Tryz.ntmps100
    by_cases c1 : op = 64 <;> by_cases c2 : op = 72 <;> by_cases c3 : 65 ≤ op <;> by_cases c4 : op ≤ 71 <;> first | (exfalso; omega) | skip
    all_goals
      (try subst c1)
      (try subst c2)
      cases ends
    all_goals
      go_wp2
      go_ret
      refine ⟨?_, rfl⟩
      simp [fitsE, *]
  by_cases e3 : e = 3
  · subst e3
    go_enter Tryz.func100, Tryz.ntmps100
    by_cases c1 : op = 64 <;> by_cases c2 : op = 72 <;> by_cases c3 : 65 ≤ op <;> by_cases c4 : op ≤ 71 <;> first | (exfalso; omega) | skip
    all_goals
      (try subst c1)
      (try subst c2)
      cases ends
    all_goals
      go_wp2
      go_ret
      refine ⟨?_, rfl⟩
      simp [fitsE, *]
  by_cases e4 : e = 4
  · subst e4
    go_enter Tryz.func100, Tryz.ntmps100
    by_cases c1 : op = 64 <;> by_cases c2 : op = 72 <;> by_cases c3 : 65 ≤ op <;> by_cases c4 : op ≤ 71 <;> first | (exfalso; omega) | skip
    all_goals
      (try subst c1)
      (try subst c2)
      cases ends
    all_goals
      go_wp2
      go_ret
      refine ⟨?_, rfl⟩
      simp [fitsE, *]
  · rw [show fitsE op e ends = false from by simp [fitsE, e1, e2, e3, e4]]
    go_enter Tryz.func100, Tryz.ntmps100
    by_cases c1 : op = 64 <;> by_cases c2 : op = 72 <;> by_cases c3 : 65 ≤ op <;> by_cases c4 : op ≤ 71 <;> first | (exfalso; omega) | skip
    all_goals
      (try subst c1)
      (try subst c2)
    all_goals
      go_wp2
      go_ret
      exact ⟨rfl, rfl⟩
theorem of3Shape (op : Int) : ∃ n0 b1 b2 b3 b4 b5 b6 b7 b8 b9, of3Val op = #[.int .i64 n0, .bool b1, .bool b2, .bool b3, .bool b4, .bool b5, .bool b6, .bool b7, .bool b8, .bool b9, .bool (ending3 op)] := by
  obtain ⟨n0, b1, b2, b3, b4, b5, b6, b7, b8, b9, b10, h⟩ := rowShape op
  exact ⟨n0, b1, b2, b3, b4, b5, b6, b7, b8, b9, by simp [of3Val, h]⟩
set_option maxHeartbeats 8000000 in
theorem right_ok (op e : Int) (o0 : 0 ≤ op) (o1 : op < 256) (w : World) : Calls Tryz.prog 105 #[.int .u8 op, .int .i64 e] w fun en w' => en = .returned (.bool (fitsE op e (ending3 op))) ∧ Same w w' := by
  have HO := hidE  (of3_any op o0 o1)
  obtain ⟨n0, b1, b2, b3, b4, b5, b6, b7, b8, b9, hsh⟩ := of3Shape op
  rw [hsh] at HO
  clear hsh
  generalize ending3 op = ends at *
  have hfd : ∀ w, (Instr.field 194 (.agg #[.int .i64 n0, .bool b1, .bool b2, .bool b3, .bool b4, .bool b5, .bool b6, .bool b7, .bool b8, .bool b9, .bool ends]) 10).run Tryz.prog w = .ok (.bool ends) w := fun _ => by kernel_rfl
  by_cases c1 : op = 64 <;> by_cases c2 : op = 72 <;> by_cases c3 : 65 ≤ op <;> by_cases c4 : op ≤ 71 <;> first | (exfalso; omega) | skip
  all_goals
    (try subst c1)
    (try subst c2)
    by_cases e1 : e = 1 <;> by_cases e2 : e = 2 <;> by_cases e3 : e = 3 <;> by_cases e4 : e = 4 <;> first | (exfalso; omega) | skip
  all_goals
    (try subst e1)
    (try subst e2)
    (try subst e3)
    (try subst e4)
    cases ends
  all_goals
    go_enter Tryz.func105, Tryz.ntmps105
    go_wp2_with fail
    refine (HO.out _).mono ?_
    rintro en w1 ⟨rfl, hk⟩
    go_wp2
    go_ret
    refine ⟨?_, hk⟩
    simp [fitsE, *]
end Go.Proofs.YtomphgpplbekiaaGreat
