/- The walk of the reference's Encode. -/
import Derived.Test.YtomphgpplbekiaaGreatMay2
import Derived.Test.YtomphgpplbekiaaGreatIsaE
namespace Go.Proofs.YtomphgpplbekiaaGreat
open Go.RowKit

/-- A number, divided by 256 so many times. -/
def dv (n : Int) : Nat → Int
  | 0 => n
  | k + 1 => dv n k / 256
theorem dv_bd (n : Int) (h0 : 0 ≤ n) (h1 : n < 4294967296) : ∀ k, 0 ≤ dv n k ∧ dv n k < 4294967296
  | 0 => ⟨h0, h1⟩
  | k + 1 => by
    have := dv_bd n h0 h1 k
    simp only [dv]
    omega
/-- A number's upper form. -/
def upN (n : Int) : Int := if n < 0 then n + 4294967296 else n
theorem dv_byte (n : Int) (_h0 : -2147483648 ≤ n) (_h1 : n ≤ 2147483647) (k : Nat) (hk : k < 4) : dv (upN n) k % 256 = n / 256 ^ k % 256 := by
  unfold upN
  rcases (show k = 0 ∨ k = 1 ∨ k = 2 ∨ k = 3 by omega) with rfl | rfl | rfl | rfl <;> simp only [dv] <;> split <;> omega
def fmB (f : Fm) : Array Value := #[.int .i64 f.n, .bool (decide (f.a = 1)), .bool (decide (f.b = 1)), .int .i64 f.m, .bool (decide (f.s = 1))]
def EncRel2 (w : World) (i : In) (f : Fm) (S B : Nat) (k : Nat) (v : Value) (wr : World) : Prop :=
  RowB wr B v (headL i f ++ immL i.imm k) ∧ Same w wr ∧ B ≤ wr.heap.size ∧ wr.heap[S]? = some (.cells (fmB f) 236 (0, 0))
theorem encRel2_next {w w' wr : World} {i : In} {f : Fm} {S B k : Nat} {v v' : Value} {x : Int} {o : Obj} (h : EncRel2 w i f S B k v wr) (hS : S < B) (hB : w.heap.size < B) (hx : x = i.imm / 256 ^ k % 256)
    (hv : RowB w' B v' ((headL i f ++ immL i.imm k) ++ [x])) (hk : Keeps (fun k => B ≤ k ∧ some k = v.ownBlock) (wr.alloc o) w') : EncRel2 w i f S B (k + 1) v' w' := by
  obtain ⟨-, h2, h3, h5⟩ := h
  subst hx
  refine ⟨by rw [List.append_assoc] at hv; exact hv, same_then (h2.alloc o) hk (fun k h => by omega), ?_, hk.get (block_old o h5) (by omega)⟩
  have := hk.size
  simp at this
  omega
set_option maxHeartbeats 4000000 in
set_option maxRecDepth 100000 in
theorem enc2_yes (i : In) (h : Bool) (hi : i.Ok) (hm : mayB i h = true) (w : World) :
    Calls Tryz.prog 127 #[.agg (inA i), .bool h] w fun e w' => ∃ v, e = .returned v ∧ RowB w' w.heap.size v (encL i h) ∧ Same w w' := by
  have hO := of2_any i.op h hi.o0 hi.o1
  rw [of2_form i.op h hi.o0 hi.o1] at hO
  obtain ⟨hfm, -, hfa, hfb, -, -⟩ := fm_facts i.op h
  obtain ⟨L, hL⟩ : ∃ L, L = encL i h := ⟨_, rfl⟩
  rw [← hL]
  unfold encL at hL
  simp only [mayB, Bool.and_eq_true, decide_eq_true_eq] at hm
  obtain ⟨⟨⟨hn1, ha7⟩, hb7⟩, -⟩ := hm
  generalize formL i.op h = f at *
  have HL := hidE hL
  have HC := hidE hO
  clear hL hO
  obtain ⟨op, a, b, imm⟩ := i
  obtain ⟨o0, o1, a0, a1, b0, b1, n0, n1⟩ := hi
  obtain ⟨fn, fa, fb, fm, fs⟩ := f
  simp only [inA] at *
  have ha7' : a ≤ 7 := by omega
  have hb7' : b ≤ 7 := by omega
  obtain ⟨m, rfl⟩ : ∃ m : Nat, fm = m := ⟨fm.toNat, by omega⟩
  clear hn1 ha7 hb7 hfb
  have HBY := hidE (dv_byte imm n0 n1)
  have hbd := dv_bd (upN imm) (by unfold upN; split <;> omega) (by unfold upN; split <;> omega)
  have HBD := hidE hbd
  clear hbd
  have hww : IntKind.u8.wrap (a * 16) = a * 16 := by rw [IntKind.wrap_u8']; omega
  have hww2 : IntKind.u8.wrap (a * 16 + b) = a * 16 + b := by rw [IntKind.wrap_u8']; omega
  have hup : Hid (upN imm = if imm < 0 then imm + 4294967296 else imm) := hidE rfl
  generalize hU : upN imm = U at *
  clear hU
  by_cases hneg : imm < 0
  all_goals
    have HUP := hidE (show U = _ from by have := hup.out; simp only [hneg, if_true, if_false] at this; exact this)
    clear hup
    rcases hfa with rfl | rfl
  all_goals
    go_enter Tryz.func127, Tryz.ntmps127
    go_wp2_with fail
    refine (HC.out _).mono ?_
    rintro e w2 ⟨rfl, hk⟩
    have A2 := hk.get (block_new w _) id
    have e2 := cell_of A2
    have hs2 : Same w w2 := ((Keeps.refl _ _).alloc _).trans hk
    have hlt := lt_of_block A2
    have HA2 := hidE A2
    clear hk A2
    simp only [decide_true, decide_false, Int.reduceEq] at *
    have HS2 := hidE hs2
    clear hs2
  · have hrow : RowB ((w2.alloc (.cells #[.int .i64 fn, .bool false, .bool (decide (fb = 1)), .int .i64 m, .bool (decide (fs = 1))] 236)).alloc (.cells #[.int .u8 op] 5)) (w2.heap.size + 1) (.slice (some ⟨w2.heap.size + 1, 0, none⟩) 1 1) [op] :=
      ⟨rfl, .inr ⟨w2.heap.size + 1, 1, #[.int .u8 op], rfl, Nat.le_refl _, block_at _ (by simp), Nat.le_refl _, by decide, rfl, rfl⟩⟩
    have HRow := hidE hrow
    clear hrow
    have HE : Hid (EncRel2 w ⟨op, a, b, imm⟩ ⟨fn, 0, fb, m, fs⟩ w2.heap.size (w2.heap.size + 1) 0 (.slice (some ⟨w2.heap.size + 1, 0, none⟩) 1 1) ((w2.alloc (.cells #[.int .i64 fn, .bool false, .bool (decide (fb = 1)), .int .i64 m, .bool (decide (fs = 1))] 236)).alloc (.cells #[.int .u8 op] 5))) :=
      hidE ⟨HRow.out, (HS2.out.alloc _).alloc _, by simp, block_old _ (block_new _ _)⟩
    go_wp2_with fail
    go_loopw [6, 7, 8] (fun t6 t7 t8 wr => ∃ k : Nat, t8 = .int .i64 k ∧ k ≤ m ∧ t7 = .int .i64 (dv U k) ∧ EncRel2 w ⟨op, a, b, imm⟩ ⟨fn, 0, fb, m, fs⟩ w2.heap.size (w2.heap.size + 1) k t6 wr) (fun _ _ t8 _ => (m - intOf t8).toNat)
    case atStart => exact ⟨0, rfl, by omega, by rw [HUP.out]; rfl, HE.out⟩
    case round =>
      obtain ⟨k, rfl, hk, rfl, hR⟩ := hrel
      have HR := hidE hR
      obtain ⟨hv, hs, hB, hf⟩ := hR
      have cf := cell_of hf
      have lf := lt_of_block hf
      have hl := head_len ⟨op, a, b, imm⟩ ⟨fn, 0, fb, m, fs⟩ k (by omega)
      simp only [fmB] at cf
      simp only [decide_false, Int.reduceEq] at cf
      have hd := HBD.out k
      clear HE HRow hs hf HUP
      by_cases hlt : k < m
      · have HD := hidE (HBY.out k (by omega))
        have HDV := hidE (show dv U (k + 1) = dv U k / 256 from rfl)
        generalize dv U k = d at *
        have hw8 : IntKind.u8.wrap (d % 256) = d % 256 := by rw [IntKind.wrap_u8']; omega
        clear hl hv
        go_wp2_with (at_builtin; go_loud (refine append_byte rfl (.tmp 40) (.tmp 44) rfl (w2.heap.size + 1) _ _ rfl _ _ rfl (HR.out.1.alloc _) (block_new _ _) (head_len _ _ _ (by omega)) (by simp; omega) ?h2))
        case h2 =>
          intro v' w' hv hk
          have HN := hidE (encRel2_next HR.out (by omega) (by omega) HD.out hv hk)
          clear hv hk
          go_wp2
          go_roundw
          case rel => exact ⟨_, by go_num, by omega, by rw [HDV.out], HN.out⟩
          case measure => simp [intOf]; omega
      · obtain rfl : k = m := by omega
        clear hv
        go_wp2
        go_ret
        exact ⟨_, rfl, by rw [HL.out]; exact owns_mono HR.out.1 (by omega), HR.out.2.1⟩
  · have hrow : RowB ((w2.alloc (.cells #[.int .i64 fn, .bool true, .bool (decide (fb = 1)), .int .i64 m, .bool (decide (fs = 1))] 236)).alloc (.cells #[.int .u8 op] 5)) (w2.heap.size + 1) (.slice (some ⟨w2.heap.size + 1, 0, none⟩) 1 1) [op] :=
      ⟨rfl, .inr ⟨w2.heap.size + 1, 1, #[.int .u8 op], rfl, Nat.le_refl _, block_at _ (by simp), Nat.le_refl _, by decide, rfl, rfl⟩⟩
    have HRow := hidE hrow
    clear hrow
    go_wp2_with (at_builtin; go_loud (refine append_byte rfl (.tmp 18) (.tmp 25) rfl (w2.heap.size + 1) _ [op] rfl (w2.heap.size + 2) (a * 16 + b) rfl (HRow.out.alloc _) (block_at _ (by simp)) (by simp) (by simp) ?h1))
    case h1 =>
      intro v' w' hv hk
      have HE : Hid (EncRel2 w ⟨op, a, b, imm⟩ ⟨fn, 1, fb, m, fs⟩ w2.heap.size (w2.heap.size + 1) 0 v' w') :=
        hidE ⟨hv, same_then (((HS2.out.alloc _).alloc _).alloc _) hk (fun k h => by omega), by have := hk.size; simp at this; omega, hk.get (block_old _ (block_old _ (block_new _ _))) (by omega)⟩
      have cf1 := hk.get (block_old _ (block_old _ (block_old _ HA2.out))) (by omega)
      clear hv hk
      have ce := cell_of cf1
      have le := lt_of_block cf1
      clear cf1
      go_wp2_with fail
      go_loopw [6, 7, 8] (fun t6 t7 t8 wr => ∃ k : Nat, t8 = .int .i64 k ∧ k ≤ m ∧ t7 = .int .i64 (dv U k) ∧ EncRel2 w ⟨op, a, b, imm⟩ ⟨fn, 1, fb, m, fs⟩ w2.heap.size (w2.heap.size + 1) k t6 wr) (fun _ _ t8 _ => (m - intOf t8).toNat)
      case atStart => exact ⟨0, rfl, by omega, by rw [HUP.out]; rfl, HE.out⟩
      case round =>
        obtain ⟨k, rfl, hk, rfl, hR⟩ := hrel
        have HR := hidE hR
        obtain ⟨hv, hs, hB, hf⟩ := hR
        have cf := cell_of hf
        have lf := lt_of_block hf
        have hl := head_len ⟨op, a, b, imm⟩ ⟨fn, 1, fb, m, fs⟩ k (by omega)
        simp only [fmB] at cf
        simp only [decide_true] at cf
        have hd := HBD.out k
        clear HE HRow hs hf HUP
        by_cases hlt : k < m
        · have HD := hidE (HBY.out k (by omega))
          have HDV := hidE (show dv U (k + 1) = dv U k / 256 from rfl)
          generalize dv U k = d at *
          have hw8 : IntKind.u8.wrap (d % 256) = d % 256 := by rw [IntKind.wrap_u8']; omega
          clear hl hv
          go_wp2_with (at_builtin; go_loud (refine append_byte rfl (.tmp 40) (.tmp 44) rfl (w2.heap.size + 1) _ _ rfl _ _ rfl (HR.out.1.alloc _) (block_new _ _) (head_len _ _ _ (by omega)) (by simp; omega) ?h2))
          case h2 =>
            intro v' w' hv hk
            have HN := hidE (encRel2_next HR.out (by omega) (by omega) HD.out hv hk)
            clear hv hk
            go_wp2
            go_roundw
            case rel => exact ⟨_, by go_num, by omega, by rw [HDV.out], HN.out⟩
            case measure => simp [intOf]; omega
        · obtain rfl : k = m := by omega
          clear hv
          go_wp2
          go_ret
          exact ⟨_, rfl, by rw [HL.out]; exact owns_mono HR.out.1 (by omega), HR.out.2.1⟩
  · have hrow : RowB ((w2.alloc (.cells #[.int .i64 fn, .bool false, .bool (decide (fb = 1)), .int .i64 m, .bool (decide (fs = 1))] 236)).alloc (.cells #[.int .u8 op] 5)) (w2.heap.size + 1) (.slice (some ⟨w2.heap.size + 1, 0, none⟩) 1 1) [op] :=
      ⟨rfl, .inr ⟨w2.heap.size + 1, 1, #[.int .u8 op], rfl, Nat.le_refl _, block_at _ (by simp), Nat.le_refl _, by decide, rfl, rfl⟩⟩
    have HRow := hidE hrow
    clear hrow
    have HE : Hid (EncRel2 w ⟨op, a, b, imm⟩ ⟨fn, 0, fb, m, fs⟩ w2.heap.size (w2.heap.size + 1) 0 (.slice (some ⟨w2.heap.size + 1, 0, none⟩) 1 1) ((w2.alloc (.cells #[.int .i64 fn, .bool false, .bool (decide (fb = 1)), .int .i64 m, .bool (decide (fs = 1))] 236)).alloc (.cells #[.int .u8 op] 5))) :=
      hidE ⟨HRow.out, (HS2.out.alloc _).alloc _, by simp, block_old _ (block_new _ _)⟩
    go_wp2_with fail
    go_loopw [6, 7, 8] (fun t6 t7 t8 wr => ∃ k : Nat, t8 = .int .i64 k ∧ k ≤ m ∧ t7 = .int .i64 (dv U k) ∧ EncRel2 w ⟨op, a, b, imm⟩ ⟨fn, 0, fb, m, fs⟩ w2.heap.size (w2.heap.size + 1) k t6 wr) (fun _ _ t8 _ => (m - intOf t8).toNat)
    case atStart => exact ⟨0, rfl, by omega, by rw [HUP.out]; rfl, HE.out⟩
    case round =>
      obtain ⟨k, rfl, hk, rfl, hR⟩ := hrel
      have HR := hidE hR
      obtain ⟨hv, hs, hB, hf⟩ := hR
      have cf := cell_of hf
      have lf := lt_of_block hf
      have hl := head_len ⟨op, a, b, imm⟩ ⟨fn, 0, fb, m, fs⟩ k (by omega)
      simp only [fmB] at cf
      simp only [decide_false, Int.reduceEq] at cf
      have hd := HBD.out k
      clear HE HRow hs hf HUP
      by_cases hlt : k < m
      · have HD := hidE (HBY.out k (by omega))
        have HDV := hidE (show dv U (k + 1) = dv U k / 256 from rfl)
        generalize dv U k = d at *
        have hw8 : IntKind.u8.wrap (d % 256) = d % 256 := by rw [IntKind.wrap_u8']; omega
        clear hl hv
        go_wp2_with (at_builtin; go_loud (refine append_byte rfl (.tmp 40) (.tmp 44) rfl (w2.heap.size + 1) _ _ rfl _ _ rfl (HR.out.1.alloc _) (block_new _ _) (head_len _ _ _ (by omega)) (by simp; omega) ?h2))
        case h2 =>
          intro v' w' hv hk
          have HN := hidE (encRel2_next HR.out (by omega) (by omega) HD.out hv hk)
          clear hv hk
          go_wp2
          go_roundw
          case rel => exact ⟨_, by go_num, by omega, by rw [HDV.out], HN.out⟩
          case measure => simp [intOf]; omega
      · obtain rfl : k = m := by omega
        clear hv
        go_wp2
        go_ret
        exact ⟨_, rfl, by rw [HL.out]; exact owns_mono HR.out.1 (by omega), HR.out.2.1⟩
  · have hrow : RowB ((w2.alloc (.cells #[.int .i64 fn, .bool true, .bool (decide (fb = 1)), .int .i64 m, .bool (decide (fs = 1))] 236)).alloc (.cells #[.int .u8 op] 5)) (w2.heap.size + 1) (.slice (some ⟨w2.heap.size + 1, 0, none⟩) 1 1) [op] :=
      ⟨rfl, .inr ⟨w2.heap.size + 1, 1, #[.int .u8 op], rfl, Nat.le_refl _, block_at _ (by simp), Nat.le_refl _, by decide, rfl, rfl⟩⟩
    have HRow := hidE hrow
    clear hrow
    go_wp2_with (at_builtin; go_loud (refine append_byte rfl (.tmp 18) (.tmp 25) rfl (w2.heap.size + 1) _ [op] rfl (w2.heap.size + 2) (a * 16 + b) rfl (HRow.out.alloc _) (block_at _ (by simp)) (by simp) (by simp) ?h1))
    case h1 =>
      intro v' w' hv hk
      have HE : Hid (EncRel2 w ⟨op, a, b, imm⟩ ⟨fn, 1, fb, m, fs⟩ w2.heap.size (w2.heap.size + 1) 0 v' w') :=
        hidE ⟨hv, same_then (((HS2.out.alloc _).alloc _).alloc _) hk (fun k h => by omega), by have := hk.size; simp at this; omega, hk.get (block_old _ (block_old _ (block_new _ _))) (by omega)⟩
      have cf1 := hk.get (block_old _ (block_old _ (block_old _ HA2.out))) (by omega)
      clear hv hk
      have ce := cell_of cf1
      have le := lt_of_block cf1
      clear cf1
      go_wp2_with fail
      go_loopw [6, 7, 8] (fun t6 t7 t8 wr => ∃ k : Nat, t8 = .int .i64 k ∧ k ≤ m ∧ t7 = .int .i64 (dv U k) ∧ EncRel2 w ⟨op, a, b, imm⟩ ⟨fn, 1, fb, m, fs⟩ w2.heap.size (w2.heap.size + 1) k t6 wr) (fun _ _ t8 _ => (m - intOf t8).toNat)
      case atStart => exact ⟨0, rfl, by omega, by rw [HUP.out]; rfl, HE.out⟩
      case round =>
        obtain ⟨k, rfl, hk, rfl, hR⟩ := hrel
        have HR := hidE hR
        obtain ⟨hv, hs, hB, hf⟩ := hR
        have cf := cell_of hf
        have lf := lt_of_block hf
        have hl := head_len ⟨op, a, b, imm⟩ ⟨fn, 1, fb, m, fs⟩ k (by omega)
        simp only [fmB] at cf
        simp only [decide_true] at cf
        have hd := HBD.out k
        clear HE HRow hs hf HUP
        by_cases hlt : k < m
        · have HD := hidE (HBY.out k (by omega))
          have HDV := hidE (show dv U (k + 1) = dv U k / 256 from rfl)
          generalize dv U k = d at *
          have hw8 : IntKind.u8.wrap (d % 256) = d % 256 := by rw [IntKind.wrap_u8']; omega
          clear hl hv
          go_wp2_with (at_builtin; go_loud (refine append_byte rfl (.tmp 40) (.tmp 44) rfl (w2.heap.size + 1) _ _ rfl _ _ rfl (HR.out.1.alloc _) (block_new _ _) (head_len _ _ _ (by omega)) (by simp; omega) ?h2))
          case h2 =>
            intro v' w' hv hk
            have HN := hidE (encRel2_next HR.out (by omega) (by omega) HD.out hv hk)
            clear hv hk
            go_wp2
            go_roundw
            case rel => exact ⟨_, by go_num, by omega, by rw [HDV.out], HN.out⟩
            case measure => simp [intOf]; omega
        · obtain rfl : k = m := by omega
          clear hv
          go_wp2
          go_ret
          exact ⟨_, rfl, by rw [HL.out]; exact owns_mono HR.out.1 (by omega), HR.out.2.1⟩
end Go.Proofs.YtomphgpplbekiaaGreat
