/- The walk of a guest's Laid. -/
import Derived.Test.YtjkjnomhggmplaaGreatGuest
import Derived.Test.YtjkjnomhggmplaaGreatEnc2f
import Derived.Test.YtjkjnomhggmplaaGreatRef5
import Derived.Test.YtjkjnomhggmplaaGreatMay2b
namespace Go.Proofs.YtjkjnomhggmplaaGreat
open Go.RowKit

structure LdSt (W0 : World) (N : Nat) (G : Array Value) (L : Nat) (wr : World) : Prop where
  box : wr.heap[N]? = some (.cells G 31 (0, 0))
  blk : ∃ M : List Int, M.length = L ∧ Bytes8 M ∧ wr.heap[N + 1]? = some (.cells (bytesV M) 5 (0, 0))
  keep : Keeps (fun k => k = N + 1) W0 wr
theorem LdSt.set {W0 wr : World} {N L : Nat} {G : Array Value} (h : LdSt W0 N G L wr) {o : Nat} (_ho : o < L) {x : Int} (hx : 0 ≤ x ∧ x < 256) : LdSt W0 N G L (wr.setCell ⟨N + 1, o, none⟩ (.int .u8 x)) := by
  obtain ⟨M, hM, hb, hc⟩ := h.blk
  refine ⟨block_other _ h.box (by simp), ⟨M.set o x, by simp [hM], fun y hy => ?_, (block_set hc o _).trans (by simp [bytesV])⟩, h.keep.setCell (p := ⟨N + 1, o, none⟩) (fun _ => rfl) _⟩
  rcases List.mem_or_eq_of_mem_set hy with h | rfl
  · exact hb y h
  · exact hx
theorem LdSt.other {W0 wr w' : World} {N L : Nat} {G : Array Value} (h : LdSt W0 N G L wr) (k : Same wr w') : LdSt W0 N G L w' := by
  obtain ⟨M, hM, hb, hc⟩ := h.blk
  exact ⟨k.get h.box id, ⟨M, hM, hb, k.get hc id⟩, h.keep.trans (k.mono fun _ _ h => h.elim)⟩
theorem ldSt_new (w : World) (G : Array Value) (n : Nat) : LdSt ((w.alloc (.cells G 31)).alloc (.cells (zeros (64 * n)) 5)) w.heap.size G (64 * n) ((w.alloc (.cells G 31)).alloc (.cells (zeros (64 * n)) 5)) :=
  ⟨block_old _ (block_new _ _), ⟨List.replicate (64 * n) 0, by simp, fun y hy => by simp at hy; obtain ⟨_, rfl⟩ := hy; omega, block_atR _ (by simp)⟩, Keeps.refl _ _⟩
def frN (fr : Int) : Nat := 1 + (fr % 18446744073709551616 % 24).toNat
theorem frN_bd (fr : Int) : 1 ≤ frN fr ∧ frN fr ≤ 24 := by unfold frN; omega
theorem encL_len (i : In) : (encL i false).length ≤ 6 := by
  obtain ⟨h1, -, h3, -, -, -⟩ := fm_facts i.op false
  have hl : ∀ k, (immL i.imm k).length = k := fun k => by induction k with
    | zero => rfl
    | succ k ih => simp [immL, ih]
  unfold encL headL
  simp only [List.length_cons, List.length_append, hl]
  have : ((if (formL i.op false).a = 1 then [i.a * 16 + i.b] else []) : List Int).length ≤ 1 := by split <;> simp
  rcases h1 with h | h | h | h <;> rw [h] <;> simp <;> omega
theorem immL_bytes (n : Int) : ∀ k, ∀ y ∈ immL n k, 0 ≤ y ∧ y < 256
  | 0, y, h => by simp [immL] at h
  | k + 1, y, h => by
    rcases List.mem_append.1 h with h | h
    · exact immL_bytes n k y h
    · simp at h
      subst h
      exact ⟨Int.emod_nonneg _ (by omega), Int.emod_lt_of_pos _ (by omega)⟩
theorem encL_bytes (i : In) (hi : i.Ok) (hm : mayB i false = true) : ∀ y ∈ encL i false, 0 ≤ y ∧ y < 256 := by
  simp only [mayB, Bool.and_eq_true, decide_eq_true_eq] at hm
  obtain ⟨⟨⟨hn1, ha7⟩, hb7⟩, -⟩ := hm
  obtain ⟨o0, o1, a0, a1, b0, b1, n0, n1⟩ := hi
  obtain ⟨-, -, -, hb01, -, -⟩ := fm_facts i.op false
  intro y hy
  unfold encL at hy
  rcases List.mem_append.1 hy with h | h
  · unfold headL at h
    rcases List.mem_cons.1 h with rfl | h
    · exact ⟨o0, o1⟩
    · split at h
      · simp at h
        subst h
        omega
      · simp at h
  · exact immL_bytes _ _ y h
theorem rowB_at {w : World} {B : Nat} {p : Option Addr} {c : Nat} {E : List Int} (h : RowB w B (.slice p E.length c) E) {j : Nat} (hj : j < E.length) (hb : ∀ y ∈ E, 0 ≤ y ∧ y < 256) : ∃ g, p = some ⟨g, 0, none⟩ ∧ 0 ≤ E[j] ∧ E[j] < 256 ∧ w.cell? ⟨g, j, none⟩ = some (.int .u8 E[j]) := by
  obtain ⟨-, ⟨h1, h0⟩ | ⟨g', cap, cur, h1, hB, hg, hc1, hc2, hc3, hc4⟩⟩ := h
  · omega
  · cases h1
    have hm := hb E[j] (by simp)
    refine ⟨g', rfl, hm.1, hm.2, ?_⟩
    rw [cell_of hg]
    have := congrArg (fun l => l[j]?) hc4
    simp only [List.getElem?_take] at this
    rw [if_pos (by omega)] at this
    simpa [hj] using this
set_option maxRecDepth 100000 in
set_option maxHeartbeats 4000000 in
theorem laid_any {w : World} {G : Array Value} {fr : Int} {ia : Option Addr} {il ic : Nat} {X : Nat → Int} {ca : Option Addr} {cl cc : Nat} {Y : Nat → In} {en root ps pc : Nat} (h : GuestOk w G fr ia il ic X ca cl cc Y en root ps pc) :
    Calls Tryz.prog 15 #[.agg G] w fun e w' => e = .returned (.tuple #[.slice (some ⟨w.heap.size + 1, 0, none⟩) (64 * frN fr) (64 * frN fr), .int .i64 (frN fr : Nat)]) ∧ Same w w' ∧ ∃ M : List Int, M.length = 64 * frN fr ∧ Bytes8 M ∧ w'.heap[w.heap.size + 1]? = some (.cells (bytesV M) 5 (0, 0)) := by
  have hsz := h.size
  obtain ⟨_, q0⟩ := Array.getElem?_eq_some_iff.1 h.g0
  obtain ⟨_, q1⟩ := Array.getElem?_eq_some_iff.1 h.g1
  obtain ⟨_, q2⟩ := Array.getElem?_eq_some_iff.1 h.g2
  obtain ⟨_, q3⟩ := Array.getElem?_eq_some_iff.1 h.g3
  have HH := hidE h
  have hfr := frN_bd fr
  have e0 : IntKind.u64.wrap fr = fr % 18446744073709551616 := by simp [IntKind.wrap, IntKind.bits, IntKind.signed]
  have e1 : (fr % 18446744073709551616).tmod 24 = fr % 18446744073709551616 % 24 := Int.tmod_eq_emod_of_nonneg (by omega)
  have e2 := wrapI (fr % 18446744073709551616 % 24) (by omega) (by omega)
  have e3 : IntKind.i64.wrap (1 + fr % 18446744073709551616 % 24) = (frN fr : Nat) := by rw [wrapI _ (by omega) (by omega)]; unfold frN; omega
  clear h
  generalize frN fr = n at *
  have e4 := wrapI ((n : Int) * 64) (by omega) (by omega)
  have hmk : Hid (∀ u : World, _) := hidE (run_zeros (64 * n) (by omega))
  rw [show ((64 * n : Nat) : Int) = (n : Int) * 64 from by omega] at hmk
  have hmk := hmk.out
  obtain ⟨Z, hZ⟩ : ∃ Z, Z = zeros (64 * n) := ⟨_, rfl⟩
  rw [← hZ] at hmk
  have HZ := hidE hZ
  clear hZ
  go_enter Tryz.func15, Tryz.ntmps15
  go_wp2_with fail
  have HL0 := hidE (ldSt_new w G n)
  rw [← HZ.out] at HL0
  generalize hW0 : (w.alloc (.cells G 31)).alloc (.cells Z 5) = W0 at *
  have HK0 : Hid (Same w W0) := hidE (by rw [← hW0]; exact ((Keeps.refl _ _).alloc _).alloc _)
  have hlt := HH.out.hX
  clear hW0 hmk
  go_loopw [6] (fun t6 wr => ∃ k : Nat, t6 = .int .i64 k ∧ k ≤ 64 * n ∧ LdSt W0 w.heap.size G (64 * n) wr) (fun t6 _ => 64 * n - (intOf t6).toNat)
  case atStart => exact ⟨0, rfl, by omega, HL0.out⟩
  case round =>
    obtain ⟨k, rfl, hk, hL⟩ := hrel
    have c1 := cell_of hL.box
    have HL := hidE hL
    have e5 := wrapI ((k : Int) + 1) (by omega) (by omega)
    clear hL
    by_cases hlt : k < il ∧ k < 64 * n
    · obtain ⟨hk1, hk2⟩ := hlt
      have p1 : decide ((k : Int) < (il : Int)) = true := by simpa using hk1
      have p2 : decide ((k : Int) < (n : Int) * 64) = true := by simp; omega
      have p3 : k < n * 64 := by omega
      obtain ⟨Sb, o, rfl, hSb, hBy⟩ := HH.out.hX.resolve_left (by omega)
      obtain ⟨x0, x1, xc⟩ := hBy k hk1
      have xc := cell_keeps HL.out.keep (Nat.lt_of_lt_of_le hSb HK0.out.size) (by omega) (cell_keeps HK0.out hSb id xc)
      obtain ⟨M, hM, hMb, hMc⟩ := HL.out.blk
      have d1 : wr.cell? ⟨w.heap.size + 1, k, none⟩ = some (.int .u8 (M.getD k 0)) := by
        rw [cell_of hMc]; simp [bytesV, show k < M.length by omega]
      have d2 := frozen_of hMc k
      have HS := hidE (HL.out.set hk2 ⟨x0, x1⟩)
      clear hMc hBy
      go_wp2
      go_roundw
      case rel => exact ⟨k + 1, by go_num, by omega, HS.out⟩
      case measure => simp only [intOf]; omega
    · rcases (show (¬ k < il) ∨ (k < il ∧ ¬ k < 64 * n) by omega) with hx | ⟨hx, hy⟩
      · have p1 : decide ((k : Int) < (il : Int)) = false := by simpa using hx
        clear hlt
        have e7 := wrapI (en : Int) (by omega) (by have := HH.out.he; omega)
        go_wp2_with fail
        go_loopw [7, 8] (fun t7 t8 wr => ∃ k a : Nat, t8 = .int .i64 k ∧ t7 = .int .i64 a ∧ k ≤ 200 ∧ a ≤ 65536 + 6 * k ∧ LdSt W0 w.heap.size G (64 * n) wr) (fun _ t8 _ => 200 - (intOf t8).toNat)
        case atStart => exact ⟨0, en, rfl, rfl, by omega, by have := HH.out.he; omega, HL.out⟩
        case round =>
          clear HL
          obtain ⟨k, a, rfl, rfl, hk2, ha, hL⟩ := hrel
          have c1 := cell_of hL.box
          have HL := hidE hL
          have e6 := wrapI ((k : Int) + 1) (by omega) (by omega)
          clear hL
          by_cases hlt : k < cl ∧ k < 200
          · obtain ⟨hk1, hk2'⟩ := hlt
            have p1 : decide ((k : Int) < (cl : Int)) = true := by simpa using hk1
            have p2 : decide ((k : Int) < 200) = true := by simp; omega
            obtain ⟨Sc, oc, rfl, hSc, hIn⟩ := HH.out.hY.resolve_left (by omega)
            obtain ⟨hio, i0, i1, i2, i3⟩ := hIn k hk1
            have lift : ∀ {o : Nat} {v : Value}, w.cell? ⟨Sc, o, none⟩ = some v → wr.cell? ⟨Sc, o, none⟩ = some v := fun hc => cell_keeps HL.out.keep (Nat.lt_of_lt_of_le hSc HK0.out.size) (by omega) (cell_keeps HK0.out hSc id hc)
            have i0 := lift i0
            have i1 := lift i1
            have i2 := lift i2
            have i3 := lift i3
            have HMay := hidE (fun u => may2_any (Y k) false hio u)
            have HEnc := hidE (fun (hm : mayB (Y k) false = true) u => enc2_yes (Y k) false hio hm u)
            have hel := encL_len (Y k)
            have HX := hidE (fun hm => encL_bytes (Y k) hio hm)
            generalize encL (Y k) false = E at *
            generalize mayB (Y k) false = mb at *
            generalize Y k = y at *
            obtain ⟨y1, y2, y3, y4⟩ := y
            simp only [inA] at HMay HEnc i0 i1 i2 i3
            clear hIn hio lift
            go_wp2_with fail
            refine (HMay.out _).mono ?_
            rintro _ w3 ⟨rfl, hk3⟩
            have HL3 := hidE (HL.out.other hk3)
            have j0 := cell_same hk3 i0
            have j1 := cell_same hk3 i1
            have j2 := cell_same hk3 i2
            have j3 := cell_same hk3 i3
            have c3 := cell_of HL3.out.box
            clear hk3
            cases mb with
            | false =>
              go_wp2_with fail
              go_roundw
              case rel => exact ⟨k + 1, a, by go_num, rfl, by omega, by omega, HL3.out⟩
              case measure => simp only [intOf]; omega
            | true =>
              have HE := hidE (HEnc.out rfl)
              clear HEnc
              go_wp2_with fail
              refine (HE.out _).mono ?_
              rintro _ w4 ⟨v, rfl, hrow, hk4⟩
              have HL4 := hidE (HL3.out.other hk4)
              obtain ⟨pv, cv, rfl⟩ := owns_sl hrow
              have HR := hidE hrow
              have hs3 := lt_of_block HL3.out.box
              have hs3' : w.heap.size + 1 < w3.heap.size := by obtain ⟨M, -, -, hM⟩ := HL3.out.blk; exact lt_of_block hM
              clear hrow hk4
              go_wp2_with fail
              go_loopw [7, 10] (fun t7 t10 wr => ∃ j a' : Nat, t10 = .int .i64 j ∧ t7 = .int .i64 a' ∧ j ≤ E.length ∧ a' = a + j ∧ LdSt W0 w.heap.size G (64 * n) wr ∧ Keeps (fun k => k = w.heap.size + 1) w4 wr) (fun _ t10 _ => E.length - (intOf t10).toNat)
              case atStart => exact ⟨0, a, rfl, rfl, by omega, rfl, HL4.out, Keeps.refl _ _⟩
              case round =>
                obtain ⟨j, a', rfl, rfl, hj, ha', hL5, hk5⟩ := hrel
                have HL5 := hidE hL5
                have HK5 := hidE hk5
                have e8 := wrapI ((j : Int) + 1) (by omega) (by omega)
                have e9 := wrapI ((a' : Int) + 1) (by omega) (by omega)
                have HA' := hidE ha'
                clear ha' hL5 hk5 i0 i1 i2 i3 j0 j1 j2 j3 c1 c3
                by_cases hjl : j < E.length
                · have p5 : decide ((j : Int) < (E.length : Int)) = true := by simpa using hjl
                  obtain ⟨gv, hpv, x0, x1, hxc⟩ := rowB_at (owns_stay HR.out HK5.out (fun g e e' => by have := (owns_lt HR.out g e).1; omega)) hjl (HX.out (by trivial))
                  obtain rfl : pv = some ⟨gv, 0, none⟩ := hpv
                  by_cases hat : a' < 64 * n
                  · have p6 : decide ((a' : Int) < (n : Int) * 64) = true := by simp; omega
                    have p7 : a' < n * 64 := by omega
                    obtain ⟨M, hM, hMb, hMc⟩ := HL5.out.blk
                    have d1 : wr.cell? ⟨w.heap.size + 1, a', none⟩ = some (.int .u8 (M.getD a' 0)) := by
                      rw [cell_of hMc]; simp [bytesV, show a' < M.length by omega]
                    have d2 := frozen_of hMc a'
                    have HS := hidE (HL5.out.set hat ⟨x0, x1⟩)
                    have HS2 := hidE (HK5.out.setCell (p := ⟨w.heap.size + 1, a', none⟩) (fun _ => rfl) (.int .u8 (E[j])))
                    clear hMc
                    go_wp2
                    go_roundw
                    case rel => exact ⟨j + 1, a' + 1, by go_num, by go_num, by omega, by have := HA'.out; omega, HS.out, HS2.out⟩
                    case measure => simp only [intOf]; omega
                  · have p6 : decide ((a' : Int) < (n : Int) * 64) = false := by simp; omega
                    go_wp2
                    go_roundw
                    case rel => exact ⟨j + 1, a' + 1, by go_num, by go_num, by omega, by have := HA'.out; omega, HL5.out, HK5.out⟩
                    case measure => simp only [intOf]; omega
                · have p5 : decide ((j : Int) < (E.length : Int)) = false := by simpa using hjl
                  go_wp2
                  go_roundw
                  case rel => exact ⟨k + 1, a', by go_num, rfl, by omega, by have := HA'.out; omega, HL5.out⟩
                  case measure => simp only [intOf]; omega
          · rcases (show (¬ k < cl) ∨ (k < cl ∧ ¬ k < 200) by omega) with hx | ⟨hx, hy⟩
            · have p1 : decide ((k : Int) < (cl : Int)) = false := by simpa using hx
              go_wp2
              go_ret2
              exact ⟨rfl, (HK0.out.trans2 HL.out.keep fun j hj e => by omega), HL.out.blk⟩
            · have p1 : decide ((k : Int) < (cl : Int)) = true := by simpa using hx
              have p2 : decide ((k : Int) < 200) = false := by simp; omega
              go_wp2
              go_ret2
              exact ⟨rfl, (HK0.out.trans2 HL.out.keep fun j hj e => by omega), HL.out.blk⟩
      · have p1 : decide ((k : Int) < (il : Int)) = true := by simpa using hx
        have p2 : decide ((k : Int) < (n : Int) * 64) = false := by simp; omega
        clear hlt
        have e7 := wrapI (en : Int) (by omega) (by have := HH.out.he; omega)
        go_wp2_with fail
        go_loopw [7, 8] (fun t7 t8 wr => ∃ k a : Nat, t8 = .int .i64 k ∧ t7 = .int .i64 a ∧ k ≤ 200 ∧ a ≤ 65536 + 6 * k ∧ LdSt W0 w.heap.size G (64 * n) wr) (fun _ t8 _ => 200 - (intOf t8).toNat)
        case atStart => exact ⟨0, en, rfl, rfl, by omega, by have := HH.out.he; omega, HL.out⟩
        case round =>
          clear HL
          obtain ⟨k, a, rfl, rfl, hk2, ha, hL⟩ := hrel
          have c1 := cell_of hL.box
          have HL := hidE hL
          have e6 := wrapI ((k : Int) + 1) (by omega) (by omega)
          clear hL
          by_cases hlt : k < cl ∧ k < 200
          · obtain ⟨hk1, hk2'⟩ := hlt
            have p1 : decide ((k : Int) < (cl : Int)) = true := by simpa using hk1
            have p2 : decide ((k : Int) < 200) = true := by simp; omega
            obtain ⟨Sc, oc, rfl, hSc, hIn⟩ := HH.out.hY.resolve_left (by omega)
            obtain ⟨hio, i0, i1, i2, i3⟩ := hIn k hk1
            have lift : ∀ {o : Nat} {v : Value}, w.cell? ⟨Sc, o, none⟩ = some v → wr.cell? ⟨Sc, o, none⟩ = some v := fun hc => cell_keeps HL.out.keep (Nat.lt_of_lt_of_le hSc HK0.out.size) (by omega) (cell_keeps HK0.out hSc id hc)
            have i0 := lift i0
            have i1 := lift i1
            have i2 := lift i2
            have i3 := lift i3
            have HMay := hidE (fun u => may2_any (Y k) false hio u)
            have HEnc := hidE (fun (hm : mayB (Y k) false = true) u => enc2_yes (Y k) false hio hm u)
            have hel := encL_len (Y k)
            have HX := hidE (fun hm => encL_bytes (Y k) hio hm)
            generalize encL (Y k) false = E at *
            generalize mayB (Y k) false = mb at *
            generalize Y k = y at *
            obtain ⟨y1, y2, y3, y4⟩ := y
            simp only [inA] at HMay HEnc i0 i1 i2 i3
            clear hIn hio lift
            go_wp2_with fail
            refine (HMay.out _).mono ?_
            rintro _ w3 ⟨rfl, hk3⟩
            have HL3 := hidE (HL.out.other hk3)
            have j0 := cell_same hk3 i0
            have j1 := cell_same hk3 i1
            have j2 := cell_same hk3 i2
            have j3 := cell_same hk3 i3
            have c3 := cell_of HL3.out.box
            clear hk3
            cases mb with
            | false =>
              go_wp2_with fail
              go_roundw
              case rel => exact ⟨k + 1, a, by go_num, rfl, by omega, by omega, HL3.out⟩
              case measure => simp only [intOf]; omega
            | true =>
              have HE := hidE (HEnc.out rfl)
              clear HEnc
              go_wp2_with fail
              refine (HE.out _).mono ?_
              rintro _ w4 ⟨v, rfl, hrow, hk4⟩
              have HL4 := hidE (HL3.out.other hk4)
              obtain ⟨pv, cv, rfl⟩ := owns_sl hrow
              have HR := hidE hrow
              have hs3 := lt_of_block HL3.out.box
              have hs3' : w.heap.size + 1 < w3.heap.size := by obtain ⟨M, -, -, hM⟩ := HL3.out.blk; exact lt_of_block hM
              clear hrow hk4
              go_wp2_with fail
              go_loopw [7, 10] (fun t7 t10 wr => ∃ j a' : Nat, t10 = .int .i64 j ∧ t7 = .int .i64 a' ∧ j ≤ E.length ∧ a' = a + j ∧ LdSt W0 w.heap.size G (64 * n) wr ∧ Keeps (fun k => k = w.heap.size + 1) w4 wr) (fun _ t10 _ => E.length - (intOf t10).toNat)
              case atStart => exact ⟨0, a, rfl, rfl, by omega, rfl, HL4.out, Keeps.refl _ _⟩
              case round =>
                obtain ⟨j, a', rfl, rfl, hj, ha', hL5, hk5⟩ := hrel
                have HL5 := hidE hL5
                have HK5 := hidE hk5
                have e8 := wrapI ((j : Int) + 1) (by omega) (by omega)
                have e9 := wrapI ((a' : Int) + 1) (by omega) (by omega)
                have HA' := hidE ha'
                clear ha' hL5 hk5 i0 i1 i2 i3 j0 j1 j2 j3 c1 c3
                by_cases hjl : j < E.length
                · have p5 : decide ((j : Int) < (E.length : Int)) = true := by simpa using hjl
                  obtain ⟨gv, hpv, x0, x1, hxc⟩ := rowB_at (owns_stay HR.out HK5.out (fun g e e' => by have := (owns_lt HR.out g e).1; omega)) hjl (HX.out (by trivial))
                  obtain rfl : pv = some ⟨gv, 0, none⟩ := hpv
                  by_cases hat : a' < 64 * n
                  · have p6 : decide ((a' : Int) < (n : Int) * 64) = true := by simp; omega
                    have p7 : a' < n * 64 := by omega
                    obtain ⟨M, hM, hMb, hMc⟩ := HL5.out.blk
                    have d1 : wr.cell? ⟨w.heap.size + 1, a', none⟩ = some (.int .u8 (M.getD a' 0)) := by
                      rw [cell_of hMc]; simp [bytesV, show a' < M.length by omega]
                    have d2 := frozen_of hMc a'
                    have HS := hidE (HL5.out.set hat ⟨x0, x1⟩)
                    have HS2 := hidE (HK5.out.setCell (p := ⟨w.heap.size + 1, a', none⟩) (fun _ => rfl) (.int .u8 (E[j])))
                    clear hMc
                    go_wp2
                    go_roundw
                    case rel => exact ⟨j + 1, a' + 1, by go_num, by go_num, by omega, by have := HA'.out; omega, HS.out, HS2.out⟩
                    case measure => simp only [intOf]; omega
                  · have p6 : decide ((a' : Int) < (n : Int) * 64) = false := by simp; omega
                    go_wp2
                    go_roundw
                    case rel => exact ⟨j + 1, a' + 1, by go_num, by go_num, by omega, by have := HA'.out; omega, HL5.out, HK5.out⟩
                    case measure => simp only [intOf]; omega
                · have p5 : decide ((j : Int) < (E.length : Int)) = false := by simpa using hjl
                  go_wp2
                  go_roundw
                  case rel => exact ⟨k + 1, a', by go_num, rfl, by omega, by have := HA'.out; omega, HL5.out⟩
                  case measure => simp only [intOf]; omega
          · rcases (show (¬ k < cl) ∨ (k < cl ∧ ¬ k < 200) by omega) with hx | ⟨hx, hy⟩
            · have p1 : decide ((k : Int) < (cl : Int)) = false := by simpa using hx
              go_wp2
              go_ret2
              exact ⟨rfl, (HK0.out.trans2 HL.out.keep fun j hj e => by omega), HL.out.blk⟩
            · have p1 : decide ((k : Int) < (cl : Int)) = true := by simpa using hx
              have p2 : decide ((k : Int) < 200) = false := by simp; omega
              go_wp2
              go_ret2
              exact ⟨rfl, (HK0.out.trans2 HL.out.keep fun j hj e => by omega), HL.out.blk⟩
end Go.Proofs.YtjkjnomhggmplaaGreat
