/- The walks through package stub. -/
import Derived.Test.YtomphgpplbekiaaGreatIsaE
import Derived.Laws.BytesArg
namespace Go.Proofs.YtomphgpplbekiaaGreat
open Go.RowKit

/-- A row of bytes behind a row of the call's own. -/
theorem append_row {ops : Array Oper} {rest : List Oper} {o : Oper} {a : Act} {w : World} {Q : Exit → Act → World → Prop} (hgd : o.guard = none) (s x : Operand)
    (ho : o.op = .call { callee := .builtin .append, args := #[s, x], argTypes := #[57, 57] })
    (B : Nat) (v : Value) (xs : List Int) (hs : a.eval s = v) (B2 : Nat) (v2 : Value) (ys : List Int) (hx : a.eval x = v2) (hown : RowB w B v xs)
    (h2 : RowB w B2 v2 ys) (hne : ys ≠ []) (hl : xs.length + ys.length ≤ 20000) (hB : B ≤ w.heap.size)
    (h : ∀ v' w', RowB w' B v' (xs ++ ys) → Keeps (fun k => B ≤ k ∧ some k = v.ownBlock) w w' → wpList Tryz.prog ops Q rest (a.put o.dst v') w') : wpList Tryz.prog ops Q (o :: rest) a w := by
  obtain ⟨i0, hi, hz0, hz1, hz2⟩ : ∃ i, Tryz.prog.info? 5 = some i ∧ i.zero = some (.int .u8 0) ∧ i.size = 1 ∧ i.bytes = 1 := by
    have hb := byte_info
    revert hb
    cases Tryz.prog.info? 5 with
    | none => intro h; cases h
    | some i => intro h; simp only [Option.map_some, Option.some.injEq, Prod.mk.injEq] at h; exact ⟨i, rfl, h.1, h.2.1, h.2.2⟩
  obtain ⟨g, cap, rfl⟩ : ∃ g cap, v2 = .slice (some ⟨g, 0, none⟩) ys.length cap := by
    rcases h2.2 with ⟨-, h0⟩ | ⟨g, cap, cur, hv, -⟩
    · exact absurd (List.eq_nil_of_length_eq_zero h0) hne
    · exact ⟨g, cap, hv⟩
  refine wpList_append_own w hgd s x 57 ho B 5 i0 _ 1 1 Tryz.underlying57 hi hz0 hz1 hz2 rfl (by decide) v xs.length (xs.map (Value.int .u8)) hs hown ⟨g, 0, none⟩ ys.length cap (ys.map (Value.int .u8)) hx (by simp) ?_ ?_ ?_ ?_ hB ?_
  · exact World.ownsRow.cells h2 rfl
  · intro u hu
    simp at hu
    obtain ⟨y, -, rfl⟩ := hu
    rfl
  · simp only [maxLen]; omega
  · omega
  · intro v' w' hv hg _
    refine h v' w' ?_ (keeps_grown hg fun k hk => ⟨(World.ownsRow.lt hown k hk).1, hk.symm⟩)
    unfold RowB
    simpa using hv
def insA : List In → List Value
  | [] => []
  | i :: r => .int .u8 i.op :: .int .u8 i.a :: .int .u8 i.b :: .int .i32 i.imm :: insA r
def bytesL (is : List In) : List Int := is.flatMap fun i => encL i true
def LaidRel (w : World) (is : List In) (k : Nat) (v : Value) (wr : World) : Prop := RowB wr w.heap.size v (bytesL (is.take k)) ∧ Same w wr
def LaidPost (w : World) (is : List In) (e : Ending) (w' : World) : Prop := ∃ v, e = .returned (.tuple #[v, .int .i64 0]) ∧ RowB w' w.heap.size v (bytesL is) ∧ Same w w'
theorem enc_len (i : In) (h : Bool) : (encL i h).length ≤ 10000 := head_len i _ _ (by
  obtain ⟨h, -⟩ := fm_facts i.op h
  omega)
theorem enc_ne (i : In) (h : Bool) : encL i h ≠ [] := by unfold encL headL; simp
theorem laid_next {w wr w1 w2 : World} {is : List In} {k B : Nat} {i : In} {v v1 v' : Value} (h : LaidRel w is k v wr) (hi : is[k]? = some i) (h1 : Same wr w1) (_h2 : RowB w1 B v1 (encL i true))
    (hv : RowB w2 w.heap.size v' (bytesL (is.take k) ++ encL i true)) (hk : Keeps (fun k => w.heap.size ≤ k ∧ some k = v.ownBlock) w1 w2) : LaidRel w is (k + 1) v' w2 := by
  refine ⟨?_, same_then (h.2.trans h1) hk (fun k h => h.1)⟩
  unfold bytesL at hv ⊢
  rw [List.take_add_one, hi, List.flatMap_append]
  simpa using hv
set_option maxHeartbeats 4000000 in
theorem laid_1 (i0 : In) (hi0 : i0.Ok) (hm0 : mayB i0 true = true) (w : World) (S : Nat) (c : Nat) (hS : w.heap[S]? = some (.cells (insA [i0]).toArray 122 (0, 0))) :
    Calls Tryz.prog 89 #[.slice (some ⟨S, 0, none⟩) 1 c] w (LaidPost w [i0]) := by
  have hrel : LaidRel w [i0] 0 (.slice none 0 0) w := ⟨World.ownsRow_nil _ _ _ _, Keeps.refl _ _⟩
  have HS := hidE  hrel
  clear hrel
  have HE0 := hidE  (encode_yes i0 true hi0 hm0)
  clear hm0 hi0
  obtain ⟨L, hL⟩ : ∃ L, L = [i0] := ⟨_, rfl⟩
  rw [← hL] at HS ⊢
  have hL0 : L[0]? = some i0 := by rw [hL]; rfl
  have HL := hidE  hL
  clear hL
  go_enter Tryz.func89, Tryz.ntmps89
  go_wp2_with fail
  go_loopw [4, 11] (fun t4 t11 wr => ∃ k : Nat, t11 = .int .i64 k ∧ k ≤ 1 ∧ LaidRel w L k t4 wr) (fun _ t11 _ => (1 - intOf t11).toNat)
  case atStart => exact ⟨0, rfl, by omega, HS.out⟩
  case round =>
    obtain ⟨k, rfl, hk, hR⟩ := hrel
    have HR := hidE  hR
    clear hR HS
    by_cases hlt : k < 1
    · have cS := cell_of (HR.out.2.get hS id)
      simp only [insA] at cS
      rcases (show k = 0 by omega) with rfl
      · go_wp2_with fail
        refine (HE0.out _).mono ?_
        rintro e w1 ⟨v1, rfl, hv1, hk1⟩
        have hs1 : Same wr w1 := ((Keeps.refl _ _).alloc _).trans hk1
        have ho1 := owns_keeps HR.out.1 hs1 (fun _ _ => id)
        have hsz : w.heap.size ≤ w1.heap.size := Nat.le_trans HR.out.2.size hs1.size
        go_wp2_with (at_builtin; go_loud (refine append_row rfl (.tmp 23) (.tmp 24) rfl w.heap.size _ _ rfl _ _ _ rfl ho1 hv1 (enc_ne _ _) ?h3 hsz ?h2))
        case h3 => rw [HL.out]; have h1 := enc_len i0 true; simp [bytesL]; omega
        case h2 =>
          intro v' w' hv hkk
          have HN := hidE  (laid_next HR.out hL0 hs1 hv1 hv hkk)
          clear hv hkk
          go_wp2
          go_roundw
          case rel => exact ⟨1, by go_num, by omega, HN.out⟩
          case measure => simp [intOf]
    · obtain rfl : k = 1 := by omega
      go_wp2
      go_ret2
      exact ⟨_, rfl, by have h := HR.out.1; rw [HL.out] at h ⊢; exact h, HR.out.2⟩
set_option maxHeartbeats 4000000 in
theorem laid_2 (i0 i1 : In) (hi0 : i0.Ok) (hm0 : mayB i0 true = true) (hi1 : i1.Ok) (hm1 : mayB i1 true = true) (w : World) (S : Nat) (c : Nat) (hS : w.heap[S]? = some (.cells (insA [i0, i1]).toArray 122 (0, 0))) :
    Calls Tryz.prog 89 #[.slice (some ⟨S, 0, none⟩) 2 c] w (LaidPost w [i0, i1]) := by
  have hrel : LaidRel w [i0, i1] 0 (.slice none 0 0) w := ⟨World.ownsRow_nil _ _ _ _, Keeps.refl _ _⟩
  have HS := hidE  hrel
  clear hrel
  have HE0 := hidE  (encode_yes i0 true hi0 hm0)
  clear hm0 hi0
  have HE1 := hidE  (encode_yes i1 true hi1 hm1)
  clear hm1 hi1
  obtain ⟨L, hL⟩ : ∃ L, L = [i0, i1] := ⟨_, rfl⟩
  rw [← hL] at HS ⊢
  have hL0 : L[0]? = some i0 := by rw [hL]; rfl
  have hL1 : L[1]? = some i1 := by rw [hL]; rfl
  have HL := hidE  hL
  clear hL
  go_enter Tryz.func89, Tryz.ntmps89
  go_wp2_with fail
  go_loopw [4, 11] (fun t4 t11 wr => ∃ k : Nat, t11 = .int .i64 k ∧ k ≤ 2 ∧ LaidRel w L k t4 wr) (fun _ t11 _ => (2 - intOf t11).toNat)
  case atStart => exact ⟨0, rfl, by omega, HS.out⟩
  case round =>
    obtain ⟨k, rfl, hk, hR⟩ := hrel
    have HR := hidE  hR
    clear hR HS
    by_cases hlt : k < 2
    · have cS := cell_of (HR.out.2.get hS id)
      simp only [insA] at cS
      rcases (show k = 0 ∨ k = 1 by omega) with rfl | rfl
      · go_wp2_with fail
        refine (HE0.out _).mono ?_
        rintro e w1 ⟨v1, rfl, hv1, hk1⟩
        have hs1 : Same wr w1 := ((Keeps.refl _ _).alloc _).trans hk1
        have ho1 := owns_keeps HR.out.1 hs1 (fun _ _ => id)
        have hsz : w.heap.size ≤ w1.heap.size := Nat.le_trans HR.out.2.size hs1.size
        go_wp2_with (at_builtin; go_loud (refine append_row rfl (.tmp 23) (.tmp 24) rfl w.heap.size _ _ rfl _ _ _ rfl ho1 hv1 (enc_ne _ _) ?h3 hsz ?h2))
        case h3 => rw [HL.out]; have h1 := enc_len i0 true; have h2 := enc_len i1 true; simp [bytesL]; omega
        case h2 =>
          intro v' w' hv hkk
          have HN := hidE  (laid_next HR.out hL0 hs1 hv1 hv hkk)
          clear hv hkk
          go_wp2
          go_roundw
          case rel => exact ⟨1, by go_num, by omega, HN.out⟩
          case measure => simp [intOf]
      · go_wp2_with fail
        refine (HE1.out _).mono ?_
        rintro e w1 ⟨v1, rfl, hv1, hk1⟩
        have hs1 : Same wr w1 := ((Keeps.refl _ _).alloc _).trans hk1
        have ho1 := owns_keeps HR.out.1 hs1 (fun _ _ => id)
        have hsz : w.heap.size ≤ w1.heap.size := Nat.le_trans HR.out.2.size hs1.size
        go_wp2_with (at_builtin; go_loud (refine append_row rfl (.tmp 23) (.tmp 24) rfl w.heap.size _ _ rfl _ _ _ rfl ho1 hv1 (enc_ne _ _) ?h3 hsz ?h2))
        case h3 => rw [HL.out]; have h1 := enc_len i0 true; have h2 := enc_len i1 true; simp [bytesL]; omega
        case h2 =>
          intro v' w' hv hkk
          have HN := hidE  (laid_next HR.out hL1 hs1 hv1 hv hkk)
          clear hv hkk
          go_wp2
          go_roundw
          case rel => exact ⟨2, by go_num, by omega, HN.out⟩
          case measure => simp [intOf]
    · obtain rfl : k = 2 := by omega
      go_wp2
      go_ret2
      exact ⟨_, rfl, by have h := HR.out.1; rw [HL.out] at h ⊢; exact h, HR.out.2⟩
end Go.Proofs.YtomphgpplbekiaaGreat
