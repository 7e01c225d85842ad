/- The walks through package isa: Encode. -/
import Derived.Test.YtomphgpplbekiaaGreatIsaD
namespace Go.Proofs.YtomphgpplbekiaaGreat
open Go.RowKit

/-- A row of bytes of the call's own. -/
def RowB (w : World) (B : Nat) (v : Value) (xs : List Int) : Prop := w.ownsRow B 5 1 v xs.length (xs.map (Value.int .u8))
theorem owns_mono {w : World} {B B' e s n : Nat} {v : Value} {xs : List Value} (h : w.ownsRow B e s v n xs) (hB : B' ≤ B) : w.ownsRow B' e s v n xs := by
  obtain ⟨h1, h2⟩ := h
  refine ⟨h1, ?_⟩
  rcases h2 with h2 | ⟨g, cap, cur, hv, hg, r⟩
  · exact .inl h2
  · exact .inr ⟨g, cap, cur, hv, by omega, r⟩
theorem byte_info : (Tryz.prog.info? 5).map (fun i => (i.zero, i.size, i.bytes)) = some (some (.int .u8 0), 1, 1) := by kernel_rfl
theorem block_at {w : World} (o : Obj) {n : Nat} (h : w.heap.size = n) : (w.alloc o).heap[n]? = some o := by
  subst h
  exact block_new w o
theorem or_pack (a b : Int) (a0 : 0 ≤ a) (a1 : a ≤ 7) (b0 : 0 ≤ b) (b1 : b ≤ 7) : bits .or .u8 (a * 16) b = a * 16 + b := by
  rw [Go.u8_or (a * 16) b (by omega) (by omega) (by omega) (by omega), nat_join 4 (a * 16).toNat b.toNat (by omega) (by omega)]
  omega
/-- One byte more behind a row of the call's own. -/
theorem append_byte {ops : Array Oper} {rest : List Oper} {o : Oper} {a : Act} {w : World} {Q : Exit → Act → World → Prop} (hgd : o.guard = none) (s x : Operand)
    (ho : o.op = .call { callee := .builtin .append, args := #[s, x], argTypes := #[57, 57] })
    (B : Nat) (v : Value) (xs : List Int) (hs : a.eval s = v) (b : Nat) (y : Int) (hx : a.eval x = .slice (some ⟨b, 0, none⟩) 1 1) (hown : RowB w B v xs)
    (hb : w.heap[b]? = some (.cells #[.int .u8 y] 5 (0, 0))) (hl : xs.length ≤ 10000) (hB : B ≤ w.heap.size)
    (h : ∀ v' w', RowB w' B v' (xs ++ [y]) → Keeps (fun k => B ≤ k ∧ some k = v.ownBlock) w w' → wpList Tryz.prog ops Q rest (a.put o.dst v') w') : wpList Tryz.prog ops Q (o :: rest) a w := by
  obtain ⟨i0, hi, hz0, hz1, hz2⟩ : ∃ i, Tryz.prog.info? 5 = some i ∧ i.zero = some (.int .u8 0) ∧ i.size = 1 ∧ i.bytes = 1 := by
    have hb := byte_info
    revert hb
    cases Tryz.prog.info? 5 with
    | none => intro h; cases h
    | some i => intro h; simp only [Option.map_some, Option.some.injEq, Prod.mk.injEq] at h; exact ⟨i, rfl, h.1, h.2.1, h.2.2⟩
  refine wpList_append_own w hgd s x 57 ho B 5 i0 _ 1 1 Tryz.underlying57 hi hz0 hz1 hz2 rfl (by decide) v xs.length (xs.map (Value.int .u8)) hs hown ⟨b, 0, none⟩ 1 1 [.int .u8 y] hx rfl ?_ ?_ ?_ ?_ hB ?_
  · intro j u hj
    match j, hj with
    | 0, hj =>
      simp at hj
      subst hj
      simpa [Addr.add] using cell_of hb 0
  · intro u hu
    simp at hu
    subst hu
    rfl
  · simp only [maxLen]; omega
  · omega
  · intro v' w' hv hg _
    refine h v' w' ?_ (keeps_grown hg fun k hk => ⟨(World.ownsRow.lt hown k hk).1, hk.symm⟩)
    unfold RowB
    simpa using hv
/-- An instruction's bytes. -/
def immL (n : Int) : Nat → List Int
  | 0 => []
  | k + 1 => immL n k ++ [n / 256 ^ k % 256]
def headL (i : In) (f : Fm) : List Int := i.op :: if f.a = 1 then [i.a * 16 + i.b] else []
def encL (i : In) (h : Bool) : List Int := headL i (formL i.op h) ++ immL i.imm (formL i.op h).m.toNat
def EncPost (w : World) (i : In) (h : Bool) (e : Ending) (w' : World) : Prop :=
  ∃ v, e = .returned (.tuple #[v, .int .i64 0]) ∧ RowB w' w.heap.size v (encL i h) ∧ Same w w'

set_option maxHeartbeats 1000000 in
theorem encode_no (i : In) (h : Bool) (hi : i.Ok) (hm : mayB i h = false) (w : World) :
    Calls Tryz.prog 110 #[.agg (inA i), .bool h] w fun e w' => e = .returned (.tuple #[.slice none 0 0, .int .i64 2]) ∧ Same w w' := by
  have HM := hidE  (may_any i h hi)
  rw [hm] at HM
  clear hm
  obtain ⟨op, a, b, imm⟩ := i
  simp only [inA] at *
  go_enter Tryz.func110, Tryz.ntmps110
  go_wp2_with fail
  refine (HM.out _).mono ?_
  rintro e w1 ⟨rfl, hk⟩
  go_wp2
  go_ret2
  exact ⟨rfl, ((Keeps.refl _ _).alloc _).trans hk⟩

def EncRel (w : World) (i : In) (f : Fm) (S B : Nat) (k : Nat) (v : Value) (wr : World) : Prop :=
  RowB wr B v (headL i f ++ immL i.imm k) ∧ Same w wr ∧ B ≤ wr.heap.size ∧ wr.heap[w.heap.size]? = some (.cells (inA i) 122 (0, 0)) ∧ wr.heap[S]? = some (.cells (fmA f) 164 (0, 0))
theorem head_len (i : In) (f : Fm) (k : Nat) (hk : k ≤ 4) : (headL i f ++ immL i.imm k).length ≤ 10000 := by
  have : ∀ k, (immL i.imm k).length = k := fun k => by induction k with
    | zero => rfl
    | succ k ih => simp [immL, ih]
  rw [List.length_append, this]
  unfold headL
  split <;> simp <;> omega
theorem encRel_next {w w' wr : World} {i : In} {f : Fm} {S B k : Nat} {v v' : Value} {x : Int} {o : Obj} (h : EncRel w i f S B k v wr) (hS : S < B) (hB : w.heap.size < B) (hx : x = i.imm / 256 ^ k % 256)
    (hv : RowB w' B v' ((headL i f ++ immL i.imm k) ++ [x])) (hk : Keeps (fun k => B ≤ k ∧ some k = v.ownBlock) (wr.alloc o) w') : EncRel w i f S B (k + 1) v' w' := by
  obtain ⟨-, h2, h3, h4, h5⟩ := h
  subst hx
  refine ⟨by rw [List.append_assoc] at hv; exact hv, same_then (h2.alloc o) hk (fun k h => by omega), ?_, hk.get (block_old o h4) (by omega), hk.get (block_old o h5) (by omega)⟩
  have := hk.size
  simp at this
  omega

set_option maxHeartbeats 8000000 in
theorem encode_yes (i : In) (h : Bool) (hi : i.Ok) (hm : mayB i h = true) (w : World) :
    Calls Tryz.prog 110 #[.agg (inA i), .bool h] w (EncPost w i h) := by
  have HM := hidE  (may_any i h hi)
  rw [hm] at HM
  have HC := hidE  (formOf_any i.op h hi.o0 hi.o1)
  obtain ⟨hfm, -, hfa, hfb, -, -⟩ := fm_facts i.op h
  obtain ⟨L, hL⟩ : ∃ L, L = encL i h := ⟨_, rfl⟩
  unfold EncPost
  rw [← hL]
  unfold encL at hL
  simp only [mayB, Bool.and_eq_true, decide_eq_true_eq] at hm
  obtain ⟨⟨⟨hn1, ha7⟩, hb7⟩, -⟩ := hm
  generalize formL i.op h = f at *
  have HL := hidE  hL
  clear hL
  obtain ⟨op, a, b, imm⟩ := i
  obtain ⟨o0, o1, a0, a1, b0, b1, n0, n1⟩ := hi
  obtain ⟨fn, fa, fb, fm, fs⟩ := f
  simp only [inA, fmA] at *
  have ha7' : a ≤ 7 := by omega
  have hb7' : b ≤ 7 := by omega
  obtain ⟨m, rfl⟩ : ∃ m : Nat, fm = m := ⟨fm.toNat, by omega⟩
  clear hn1 ha7 hb7 hfb
  go_enter Tryz.func110, Tryz.ntmps110
  go_wp2_with fail
  refine (HM.out _).mono ?_
  rintro e w1 ⟨rfl, hk⟩
  have A1 := hk.get (block_new w _) id
  have e1 := cell_of A1
  have hs1 : Same w w1 := ((Keeps.refl _ _).alloc _).trans hk
  go_wp2_with fail
  refine (HC.out _).mono ?_
  rintro e w2 ⟨rfl, hk2⟩
  have A2 := hk2.get A1 id
  have hs2 := hs1.trans hk2
  have hlt := lt_of_block A2
  clear A1 e1 hs1 hk hk2
  have e2 := cell_of A2
  have hor := or_pack a b a0 ha7' b0 hb7'
  have hrow : RowB ((w2.alloc (.cells (fmA ⟨fn, fa, fb, m, fs⟩) 164)).alloc (.cells #[.int .u8 op] 5)) (w2.heap.size + 1) (.slice (some ⟨w2.heap.size + 1, 0, none⟩) 1 1) [op] :=
    ⟨rfl, .inr ⟨w2.heap.size + 1, 1, #[.int .u8 op], rfl, Nat.le_refl _, by have h := block_new (w2.alloc (.cells (fmA ⟨fn, fa, fb, m, fs⟩) 164)) (.cells #[.int .u8 op] 5); simpa using h, Nat.le_refl _, by decide, rfl, rfl⟩⟩
  have HRow := hidE  hrow
  clear hrow
  rcases hfa with rfl | rfl
  · have hrel : EncRel w ⟨op, a, b, imm⟩ ⟨fn, 0, fb, m, fs⟩ w2.heap.size (w2.heap.size + 1) 0 (.slice (some ⟨w2.heap.size + 1, 0, none⟩) 1 1) ((w2.alloc (.cells (fmA ⟨fn, 0, fb, m, fs⟩) 164)).alloc (.cells #[.int .u8 op] 5)) :=
      ⟨HRow.out, (hs2.alloc _).alloc _, by simp, block_old _ (block_old _ A2), block_old _ (block_new _ _)⟩
    have HE := hidE  hrel
    clear hrel
    go_wp2_with fail
    go_loopw [7, 34] (fun t7 t34 wr => ∃ k : Nat, t34 = .int .i64 k ∧ k ≤ m ∧ EncRel w ⟨op, a, b, imm⟩ ⟨fn, 0, fb, m, fs⟩ w2.heap.size (w2.heap.size + 1) k t7 wr) (fun _ t34 _ => (m - intOf t34).toNat)
    case atStart => exact ⟨0, rfl, by omega, HE.out⟩
    case round =>
      obtain ⟨k, rfl, hk, hR⟩ := hrel
      have HR := hidE  hR
      obtain ⟨hv, hs, hB, hi, hf⟩ := hR
      have ci := cell_of hi
      have cf := cell_of hf
      have li := lt_of_block hi
      have lf := lt_of_block hf
      have hl := head_len ⟨op, a, b, imm⟩ ⟨fn, 0, fb, m, fs⟩ k (by omega)
      simp only [inA, fmA] at ci cf
      clear HE HRow hs hi hf
      by_cases hlt : k < m
      · clear hl hv
        rcases (show k = 0 ∨ k = 1 ∨ k = 2 ∨ k = 3 by omega) with rfl | rfl | rfl | rfl
        all_goals
          go_wp2_with (at_builtin; go_loud (refine append_byte rfl (.tmp 37) (.tmp 44) rfl (w2.heap.size + 1) _ _ rfl _ _ rfl (HR.out.1.alloc _) (block_new _ _) (head_len _ _ _ (by omega)) (by simp; omega) ?h2))
          case h2 =>
            intro v' w' hv hk
            have HN := hidE  (encRel_next HR.out (by omega) (by omega) (by simp; try omega) hv hk)
            clear hv hk
            go_wp2
            go_roundw
            case rel => exact ⟨_, by go_num, by omega, HN.out⟩
            case measure => simp [intOf]; omega
      · obtain rfl : k = m := by omega
        clear hv
        go_wp2
        go_ret2
        exact ⟨_, rfl, by rw [HL.out]; exact owns_mono HR.out.1 (by omega), HR.out.2.1⟩
  · go_wp2_with (at_builtin; go_loud (refine append_byte rfl (.tmp 23) (.tmp 30) rfl (w2.heap.size + 1) _ [op] rfl (w2.heap.size + 2) (a * 16 + b) rfl ?h1 (block_at _ (by simp)) (by simp) (by simp) ?h2))
    case h1 => exact HRow.out.alloc _
    case h2 =>
      intro v' w' hv hk
      have hrel : EncRel w ⟨op, a, b, imm⟩ ⟨fn, 1, fb, m, fs⟩ w2.heap.size (w2.heap.size + 1) 0 v' w' :=
        ⟨hv, same_then (((hs2.alloc _).alloc _).alloc _) hk (fun k h => by omega), by have := hk.size; simp at this; omega, hk.get (block_old _ (block_old _ (block_old _ A2))) (by omega), hk.get (block_old _ (block_old _ (block_new _ _))) (by omega)⟩
      have HE := hidE  hrel
      clear hrel
      have cf1 := cell_of HE.out.2.2.2.2
      simp only [fmA] at cf1
      go_wp2_with fail
      clear cf1
      go_loopw [7, 34] (fun t7 t34 wr => ∃ k : Nat, t34 = .int .i64 k ∧ k ≤ m ∧ EncRel w ⟨op, a, b, imm⟩ ⟨fn, 1, fb, m, fs⟩ w2.heap.size (w2.heap.size + 1) k t7 wr) (fun _ t34 _ => (m - intOf t34).toNat)
      case atStart => exact ⟨0, rfl, by omega, HE.out⟩
      case round =>
        obtain ⟨k, rfl, hk, hR⟩ := hrel
        have HR := hidE  hR
        obtain ⟨hv, hs, hB, hi, hf⟩ := hR
        have ci := cell_of hi
        have cf := cell_of hf
        have li := lt_of_block hi
        have lf := lt_of_block hf
        have hl := head_len ⟨op, a, b, imm⟩ ⟨fn, 1, fb, m, fs⟩ k (by omega)
        simp only [inA, fmA] at ci cf
        clear HE HRow hs hi hf
        by_cases hlt : k < m
        · clear hl hv
          rcases (show k = 0 ∨ k = 1 ∨ k = 2 ∨ k = 3 by omega) with rfl | rfl | rfl | rfl
          all_goals
            go_wp2_with (at_builtin; go_loud (refine append_byte rfl (.tmp 37) (.tmp 44) rfl (w2.heap.size + 1) _ _ rfl _ _ rfl (HR.out.1.alloc _) (block_new _ _) (head_len _ _ _ (by omega)) (by simp; omega) ?h2))
            case h2 =>
              intro v' w' hv hk
              have HN := hidE  (encRel_next HR.out (by omega) (by omega) (by simp; try omega) hv hk)
              clear hv hk
              go_wp2
              go_roundw
              case rel => exact ⟨_, by go_num, by omega, HN.out⟩
              case measure => simp [intOf]; omega
        · obtain rfl : k = m := by omega
          clear hv
          go_wp2
          go_ret2
          exact ⟨_, rfl, by rw [HL.out]; exact owns_mono HR.out.1 (by omega), HR.out.2.1⟩
end Go.Proofs.YtomphgpplbekiaaGreat
