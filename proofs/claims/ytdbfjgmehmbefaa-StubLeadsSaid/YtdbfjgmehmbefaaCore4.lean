/- Package core: sums. -/
import Derived.Test.YtdbfjgmehmbefaaCore3
import Derived.Laws.EntriesVeiled
namespace Go.Proofs.Ytdbfjgmehmbefaa
open Go.RowKit

def shlL (a b : Int) : Int × Int := if b % 32 = 0 then (a, zn a) else (upR a (b % 32), flg (upR a (b % 32)) (upC a (b % 32)) false)
def shrL (a b : Int) : Int × Int := if b % 32 = 0 then (a, zn a) else (downR a (b % 32), flg (downR a (b % 32)) (downC a (b % 32)) false)
def rorL (a b : Int) : Int × Int := if b % 32 = 0 then (a, zn a) else (roundR a (b % 32), flg (roundR a (b % 32)) (roundC a (b % 32)) false)
def sarL (a b : Int) : Int × Int := if b % 32 = 0 then (a, zn a) else (sarR a (b % 32), flg (sarR a (b % 32)) (downC a (b % 32)) false)
def andL (a b : Int) : Int × Int := (bits .and .u32 a b, zn (bits .and .u32 a b))
def orL (a b : Int) : Int × Int := (bits .or .u32 a b, zn (bits .or .u32 a b))
def xorL (a b : Int) : Int × Int := (bits .xor .u32 a b, zn (bits .xor .u32 a b))
/-- What an operation of two numbers makes: the number and its flags. -/
def sumL (op a b : Int) : Int × Int :=
  if op = 17 ∨ op = 33 then (addR a b, addF a b) else if op = 18 ∨ op = 26 then (subR a b, subF a b) else if op = 19 ∨ op = 31 then andL a b
  else if op = 20 then orL a b else if op = 21 then xorL a b else if op = 22 then shlL a b else if op = 23 then shrL a b else if op = 24 then (mulR a b, mulF a b)
  else if op = 27 then rorL a b else if op = 28 then sarL a b else if op = 29 then (mulhR a b, zn (mulhR a b)) else (0, 0)
/-- Is an operation one of these? -/
def isSum (op : Int) : Bool := decide ((17 ≤ op ∧ op ≤ 24) ∨ (26 ≤ op ∧ op ≤ 29) ∨ op = 31 ∨ op = 33)
def keepB (op : Int) : Bool := decide (op ≠ 26 ∧ op ≠ 31)
/-- What a function makes of any two numbers. -/
def SumOk (K : Nat) (f : Int → Int → Int × Int) : Prop := ∀ (a b : Int), 0 ≤ a → a < 4294967296 → 0 ≤ b → b < 4294967296 → ∀ w : World,
  Calls Try.prog K #[.int .u32 a, .int .u32 b] w fun e w' => e = .returned (.tuple #[.int .u32 (f a b).1, .int .u32 (f a b).2]) ∧ Same w w'
theorem so_Add : SumOk 103 (fun a b => (addR a b, addF a b)) := fun a b a0 a1 b0 b1 w => fl_Add a b a0 a1 b0 b1 w
theorem so_Sub : SumOk 104 (fun a b => (subR a b, subF a b)) := fun a b a0 a1 b0 b1 w => fl_Sub a b a0 a1 b0 b1 w
theorem so_And : SumOk 105 (andL) := fun a b a0 a1 b0 b1 w => fl_And a b a0 a1 b0 b1 w
theorem so_Or : SumOk 109 (orL) := fun a b a0 a1 b0 b1 w => fl_Or a b a0 a1 b0 b1 w
theorem so_Xor : SumOk 110 (xorL) := fun a b a0 a1 b0 b1 w => fl_Xor a b a0 a1 b0 b1 w
theorem so_Mul : SumOk 113 (fun a b => (mulR a b, mulF a b)) := fun a b a0 a1 b0 b1 w => fl_Mul a b a0 a1 b0 b1 w
theorem so_Mulh : SumOk 108 (fun a b => (mulhR a b, zn (mulhR a b))) := fun a b a0 a1 b0 b1 w => fl_Mulh a b a0 a1 b0 b1 w
theorem so_Shl : SumOk 111 shlL := fun a b a0 a1 b0 b1 w => by
  unfold shlL
  by_cases h : b % 32 = 0
  · rw [if_pos h]; exact fl_Shl_0 a b a0 a1 b0 b1 h w
  · rw [if_neg h]; exact fl_Shl_1 a b a0 a1 b0 b1 h w
theorem so_Shr : SumOk 112 shrL := fun a b a0 a1 b0 b1 w => by
  unfold shrL
  by_cases h : b % 32 = 0
  · rw [if_pos h]; exact fl_Shr_0 a b a0 a1 b0 b1 h w
  · rw [if_neg h]; exact fl_Shr_1 a b a0 a1 b0 b1 h w
theorem so_Ror : SumOk 106 rorL := fun a b a0 a1 b0 b1 w => by
  unfold rorL
  by_cases h : b % 32 = 0
  · rw [if_pos h]; exact fl_Ror_0 a b a0 a1 b0 b1 h w
  · rw [if_neg h]; exact fl_Ror_1 a b a0 a1 b0 b1 h w
theorem so_Sar : SumOk 107 sarL := fun a b a0 a1 b0 b1 w => by
  unfold sarL
  by_cases h : b % 32 = 0
  · rw [if_pos h]; exact fl_Sar_0 a b a0 a1 b0 b1 h w
  · rw [if_neg h]; exact fl_Sar_1 a b a0 a1 b0 b1 h w
/-- The function of an operation. -/
def sumK (op : Int) : Nat := if op = 17 then 103 else if op = 33 then 103 else if op = 18 then 104 else if op = 26 then 104 else if op = 31 then 105 else if op = 27 then 106 else if op = 28 then 107 else if op = 29 then 108 else if op = 19 then 105 else if op = 20 then 109 else if op = 21 then 110 else if op = 22 then 111 else if op = 23 then 112 else if op = 24 then 113 else 0
theorem sum_ways (op : Int) (h : isSum op = true) : op = 17 ∨ op = 18 ∨ op = 19 ∨ op = 20 ∨ op = 21 ∨ op = 22 ∨ op = 23 ∨ op = 24 ∨ op = 26 ∨ op = 27 ∨ op = 28 ∨ op = 29 ∨ op = 31 ∨ op = 33 := by
  unfold isSum at h
  simp only [decide_eq_true_eq] at h
  omega
theorem sumK_ok (op : Int) (h : isSum op = true) : SumOk (sumK op) (sumL op) := by
  rcases sum_ways op h with rfl | rfl | rfl | rfl | rfl | rfl | rfl | rfl | rfl | rfl | rfl | rfl | rfl | rfl
  · exact so_Add
  · exact so_Sub
  · exact so_And
  · exact so_Or
  · exact so_Xor
  · exact so_Shl
  · exact so_Shr
  · exact so_Mul
  · exact so_Sub
  · exact so_Ror
  · exact so_Sar
  · exact so_Mulh
  · exact so_And
  · exact so_Add
set_option maxHeartbeats 2000000 in
set_option maxRecDepth 100000 in
theorem sums_yes (op : Int) (h : isSum op = true) (w : World) :
    Calls Try.prog 78 #[.int .u8 op] w fun e w' => e = .returned (.tuple #[.agg #[.func (.func (sumK op)) #[] #[], .bool (keepB op)], .bool true]) ∧ Same w w' := by
  rcases sum_ways op h with rfl | rfl | rfl | rfl | rfl | rfl | rfl | rfl | rfl | rfl | rfl | rfl | rfl | rfl
  all_goals
    go_enter Try.func78, Try.ntmps78
    go_wp2
    exact bodyPost_ret (results_ct rfl rfl (block_new _ _) Try.underlying148 rfl (by kernel_rfl)) rfl ⟨rfl, (Keeps.refl _ _).alloc _⟩
set_option maxHeartbeats 2000000 in
set_option maxRecDepth 100000 in
theorem sums_no (op : Int) (h : isSum op = false) (w : World) :
    Calls Try.prog 78 #[.int .u8 op] w fun e w' => e = .returned (.tuple #[.agg #[.nilFunc, .bool false], .bool false]) ∧ Same w w' := by
  unfold isSum at h
  simp only [decide_eq_false_iff_not] at h
  have h17 : (op == 17) = false := by simp; omega
  have h18 : (op == 18) = false := by simp; omega
  have h19 : (op == 19) = false := by simp; omega
  have h20 : (op == 20) = false := by simp; omega
  have h21 : (op == 21) = false := by simp; omega
  have h22 : (op == 22) = false := by simp; omega
  have h23 : (op == 23) = false := by simp; omega
  have h24 : (op == 24) = false := by simp; omega
  have h26 : (op == 26) = false := by simp; omega
  have h27 : (op == 27) = false := by simp; omega
  have h28 : (op == 28) = false := by simp; omega
  have h29 : (op == 29) = false := by simp; omega
  have h31 : (op == 31) = false := by simp; omega
  have h33 : (op == 33) = false := by simp; omega
  clear h
  go_enter Try.func78, Try.ntmps78
  go_wp2
  exact bodyPost_ret (results_ct rfl rfl (block_new _ _) Try.underlying148 rfl (by kernel_rfl)) rfl ⟨rfl, (Keeps.refl _ _).alloc _⟩
end Go.Proofs.Ytdbfjgmehmbefaa
