/- Plain Lean, no program: what an operation's form is, and which instructions may be. -/
namespace Go.Proofs.YtomphgpplbekiaaGreat

/-- A form: bytes in all, whether there are A and B, bytes of Imm, and whether Imm may be below 0. -/
structure Fm where
  n : Int
  a : Int
  b : Int
  m : Int
  s : Int
deriving DecidableEq

def fm0 : Fm := ⟨0, 0, 0, 0, 0⟩
/-- The class of an operation: 0 to 10; 11: none. -/
def clsOf (op : Int) (h : Bool) : Nat :=
  if op ≤ 3 then 0
  else if (16 ≤ op ∧ op ≤ 31) ∨ op = 58 ∨ (98 ≤ op ∧ op ≤ 101) then 1
  else if op = 73 ∨ op = 74 ∨ op = 56 ∨ op = 57 ∨ op = 96 ∨ op = 97 then 2
  else if op = 80 ∨ (op = 112 ∧ h = true) then 3
  else if op = 33 then 4
  else if 48 ≤ op ∧ op ≤ 55 then 5
  else if 64 ≤ op ∧ op ≤ 72 then 6
  else if op = 113 ∧ h = true then 7
  else if op = 32 then 8
  else 9
def fmOf : Nat → Fm
  | 0 => ⟨1, 0, 0, 0, 0⟩
  | 1 => ⟨2, 1, 1, 0, 0⟩
  | 2 => ⟨2, 1, 0, 0, 0⟩
  | 3 => ⟨2, 0, 0, 1, 0⟩
  | 4 => ⟨3, 1, 0, 1, 1⟩
  | 5 => ⟨3, 1, 1, 1, 1⟩
  | 6 => ⟨3, 0, 0, 2, 1⟩
  | 7 => ⟨3, 0, 0, 2, 0⟩
  | 8 => ⟨6, 1, 0, 4, 1⟩
  | _ => fm0
def formL (op : Int) (h : Bool) : Fm := fmOf (clsOf op h)

/-- The ways of an operation. -/
theorem cls_ways (op : Int) (h : Bool) :
    (clsOf op h = 0 ∧ op ≤ 3) ∨
    (clsOf op h = 1 ∧ 3 < op ∧ 16 ≤ op ∧ op ≤ 31) ∨ (clsOf op h = 1 ∧ op = 58) ∨ (clsOf op h = 1 ∧ 98 ≤ op ∧ op ≤ 101) ∨
    (clsOf op h = 2 ∧ (op = 73 ∨ op = 74 ∨ op = 56 ∨ op = 57 ∨ op = 96 ∨ op = 97)) ∨
    (clsOf op h = 3 ∧ op = 80) ∨ (clsOf op h = 3 ∧ op = 112 ∧ h = true) ∨
    (clsOf op h = 4 ∧ op = 33) ∨ (clsOf op h = 5 ∧ 48 ≤ op ∧ op ≤ 55) ∨ (clsOf op h = 6 ∧ 64 ≤ op ∧ op ≤ 71) ∨ (clsOf op h = 6 ∧ op = 72) ∨ (clsOf op h = 7 ∧ op = 113 ∧ h = true) ∨ (clsOf op h = 8 ∧ op = 32) ∨
    (clsOf op h = 9 ∧ op = 112 ∧ h = false) ∨ (clsOf op h = 9 ∧ op = 113 ∧ h = false) ∨
    (clsOf op h = 9 ∧ ((3 < op ∧ op < 16) ∨ (33 < op ∧ op < 48) ∨ (58 < op ∧ op < 64) ∨ (74 < op ∧ op < 80) ∨ (80 < op ∧ op < 96) ∨ (101 < op ∧ op < 112) ∨ 113 < op)) := by
  have hc : clsOf op h = clsOf op h := rfl
  conv at hc => rhs; unfold clsOf
  by_cases c0 : op ≤ 3
  · rw [if_pos c0] at hc; exact Or.inl ⟨hc, c0⟩
  rw [if_neg c0] at hc
  by_cases c1 : (16 ≤ op ∧ op ≤ 31) ∨ op = 58 ∨ (98 ≤ op ∧ op ≤ 101)
  · rw [if_pos c1] at hc
    rcases c1 with c1 | c1 | c1
    · exact Or.inr (Or.inl ⟨hc, by omega, c1.1, c1.2⟩)
    · exact Or.inr (Or.inr (Or.inl ⟨hc, c1⟩))
    · exact Or.inr (Or.inr (Or.inr (Or.inl ⟨hc, c1⟩)))
  rw [if_neg c1] at hc
  by_cases c2 : op = 73 ∨ op = 74 ∨ op = 56 ∨ op = 57 ∨ op = 96 ∨ op = 97
  · rw [if_pos c2] at hc; exact Or.inr (Or.inr (Or.inr (Or.inr (Or.inl ⟨hc, c2⟩))))
  rw [if_neg c2] at hc
  by_cases c3 : op = 80 ∨ (op = 112 ∧ h = true)
  · rw [if_pos c3] at hc
    rcases c3 with c3 | c3
    · exact Or.inr (Or.inr (Or.inr (Or.inr (Or.inr (Or.inl ⟨hc, c3⟩)))))
    · exact Or.inr (Or.inr (Or.inr (Or.inr (Or.inr (Or.inr (Or.inl ⟨hc, c3⟩))))))
  rw [if_neg c3] at hc
  by_cases c4 : op = 33
  · rw [if_pos c4] at hc; exact Or.inr (Or.inr (Or.inr (Or.inr (Or.inr (Or.inr (Or.inr (Or.inl ⟨hc, c4⟩)))))))
  rw [if_neg c4] at hc
  by_cases c5 : 48 ≤ op ∧ op ≤ 55
  · rw [if_pos c5] at hc; exact Or.inr (Or.inr (Or.inr (Or.inr (Or.inr (Or.inr (Or.inr (Or.inr (Or.inl ⟨hc, c5⟩))))))))
  rw [if_neg c5] at hc
  by_cases c6 : 64 ≤ op ∧ op ≤ 72
  · rw [if_pos c6] at hc
    by_cases d6 : op = 72
    · exact Or.inr (Or.inr (Or.inr (Or.inr (Or.inr (Or.inr (Or.inr (Or.inr (Or.inr (Or.inr (Or.inl ⟨hc, d6⟩))))))))))
    · exact Or.inr (Or.inr (Or.inr (Or.inr (Or.inr (Or.inr (Or.inr (Or.inr (Or.inr (Or.inl ⟨hc, by omega, by omega⟩)))))))))
  rw [if_neg c6] at hc
  by_cases c7 : op = 113 ∧ h = true
  · rw [if_pos c7] at hc; exact Or.inr (Or.inr (Or.inr (Or.inr (Or.inr (Or.inr (Or.inr (Or.inr (Or.inr (Or.inr (Or.inr (Or.inl ⟨hc, c7⟩)))))))))))
  rw [if_neg c7] at hc
  by_cases c8 : op = 32
  · rw [if_pos c8] at hc; exact Or.inr (Or.inr (Or.inr (Or.inr (Or.inr (Or.inr (Or.inr (Or.inr (Or.inr (Or.inr (Or.inr (Or.inr (Or.inl ⟨hc, c8⟩))))))))))))
  rw [if_neg c8] at hc
  by_cases d1 : op = 112
  · exact Or.inr (Or.inr (Or.inr (Or.inr (Or.inr (Or.inr (Or.inr (Or.inr (Or.inr (Or.inr (Or.inr (Or.inr (Or.inr (Or.inl ⟨hc, d1, by cases h; rfl; exact absurd (Or.inr ⟨d1, rfl⟩) c3⟩)))))))))))))
  by_cases d2 : op = 113
  · exact Or.inr (Or.inr (Or.inr (Or.inr (Or.inr (Or.inr (Or.inr (Or.inr (Or.inr (Or.inr (Or.inr (Or.inr (Or.inr (Or.inr (Or.inl ⟨hc, d2, by cases h; rfl; exact absurd ⟨d2, rfl⟩ c7⟩))))))))))))))
  have c3' : ¬ op = 80 := fun e => c3 (Or.inl e)
  clear c3 c7
  exact Or.inr (Or.inr (Or.inr (Or.inr (Or.inr (Or.inr (Or.inr (Or.inr (Or.inr (Or.inr (Or.inr (Or.inr (Or.inr (Or.inr (Or.inr ⟨hc, by omega⟩))))))))))))))
theorem cls_le (op : Int) (h : Bool) : clsOf op h ≤ 9 := by
  rcases cls_ways op h with h | h | h | h | h | h | h | h | h | h | h | h | h | h | h | h <;> omega
end Go.Proofs.YtomphgpplbekiaaGreat
