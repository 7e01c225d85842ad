/- Two arrays are held against one another, element by element. No program is named here. -/
import Derived.WalkKit
namespace Go.Proofs.YtomphgpplbekiaaGreat

def eqElems (d : Nat) (e : TypeId) (n : Nat) (xs ys : Array Value) : List Nat → Sem Bool
  | [] => pure true
  | i :: l => do
    if !(← Op.equalIn d e (← part e xs (i * n)) (← part e ys (i * n))) then pure false else eqElems d e n xs ys l

theorem run_equalIn_array {P : Program} (w : World) (d : Nat) {t e : TypeId} {m : Nat} {i : TypeInfo} (xs ys : Array Value) (ht : P.underlying t = some (.array m e)) (hi : P.info? e = some i) :
    (Op.equalIn (d + 1) t (.agg xs) (.agg ys)).run P w = (eqElems d e i.size xs ys (List.range' 0 m)).run P w := by
  simp only [Op.equalIn, Sem.run_bind, run_underlying ht, Result.andThen_ok, sizeOf, typeInfo, run_program, hi, Sem.run_pure]
  rw [Std.Legacy.Range.forIn_eq_forIn_range']
  rw [show (Std.Legacy.Range.size { stop := m, step_pos := Nat.zero_lt_one }) = m from by simp [Std.Legacy.Range.size]]
  generalize List.range' 0 m = l
  induction l generalizing w with
  | nil => simp [eqElems]
  | cons j l ih =>
    simp only [List.forIn_cons, eqElems, Sem.run_bind, Sem.run_ite]
    generalize (part e xs (j * i.size)).run P w = r1
    cases r1 with
    | ok a w1 =>
      simp only [Result.andThen_ok]
      generalize (part e ys (j * i.size)).run P w1 = r2
      cases r2 with
      | ok b w2 =>
        simp only [Result.andThen_ok]
        generalize (Op.equalIn d e a b).run P w2 = r3
        cases r3 with
        | ok r w3 =>
          cases r
          · simp only [Result.andThen_ok, Bool.not_false, if_true, Sem.run_pure]
          · simp only [Result.andThen_ok, Bool.not_true, Bool.false_eq_true, if_false, Sem.run_pure]
            exact ih w3
        | halt x w3 => simp [Result.andThen]
      | halt x w2 => simp [Result.andThen]
    | halt x w1 => simp [Result.andThen]

/-- Whole numbers of one kind. -/
def eqInts : List Int → List Int → Bool
  | a :: l, b :: m => a == b && eqInts l m
  | _, _ => true
theorem run_eqElems_ints {P : Program} (w : World) (d : Nat) {e : TypeId} {k : IntKind} (he : P.underlying e = some (.int k)) : ∀ (l m : List Int) (xs ys : Array Value) (o : Nat), l.length = m.length → (∀ j, j < l.length → xs[o + j]? = some (.int k (l.getD j 0))) → (∀ j, j < m.length → ys[o + j]? = some (.int k (m.getD j 0))) →
    (eqElems (d + 1) e 1 xs ys (List.range' o l.length)).run P w = .ok (eqInts l m) w
  | [], [], _, _, _, _, _, _ => by simp [eqElems, eqInts]
  | [], _ :: _, _, _, _, h, _, _ => by simp at h
  | _ :: _, [], _, _, _, h, _, _ => by simp at h
  | a :: l, b :: m, xs, ys, o, h, hx, hy => by
    have h0 := hx 0 (by simp)
    have h1 := hy 0 (by simp)
    simp only [Nat.add_zero, List.getD_cons_zero] at h0 h1
    have ih := run_eqElems_ints w d he l m xs ys (o + 1) (by simpa using h) (fun j hj => by have := hx (j + 1) (by simp; omega); simpa [Nat.add_assoc, Nat.add_comm 1 j] using this) (fun j hj => by have := hy (j + 1) (by simp; omega); simpa [Nat.add_assoc, Nat.add_comm 1 j] using this)
    simp only [List.length_cons, List.range'_succ, eqElems, Nat.mul_one, eqInts]
    simp only [part, isAgg, Sem.run_bind, run_underlying he, Result.andThen_ok, Sem.run_pure, Bool.false_eq_true, if_false, h0, h1, run_equalIn_int w d e k k a b he, Sem.run_ite]
    by_cases hab : a = b
    · subst hab; simp [ih]
    · have : (a == b) = false := by simpa using hab
      simp [this]
theorem eqInts_eq : ∀ (l m : List Int), l.length = m.length → eqInts l m = decide (l = m)
  | [], [], _ => by simp [eqInts]
  | [], _ :: _, h => by simp at h
  | _ :: _, [], h => by simp at h
  | a :: l, b :: m, h => by
    simp only [eqInts, eqInts_eq l m (by simpa using h)]
    by_cases e : a = b <;> by_cases e2 : l = m <;> simp [e, e2]
end Go.Proofs.YtomphgpplbekiaaGreat
