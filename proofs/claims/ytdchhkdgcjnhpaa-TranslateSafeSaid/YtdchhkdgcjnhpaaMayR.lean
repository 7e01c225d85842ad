/- The walk of the reference's May over a block. -/
import Derived.Test.YtdchhkdgcjnhpaaMayW
import Derived.StillTailTactics
namespace Go.Proofs.Ytdchhkdgcjnhpaa
open Go.RowKit

def MayRelR (w : World) (A : Array Value) (n : Nat) (_e : Int) (X : Nat → In) (k : Nat) (wr : World) : Prop := Same w wr ∧ wr.heap[w.heap.size]? = some (.cells A 41 (0, 0)) ∧ mayTo2 n X k = true
theorem mayRelR_next {w wr w1 : World} {A : Array Value} {n : Nat} {e : Int} {X : Nat → In} {k : Nat} (h : MayRelR w A n e X k wr) (h1 : Same wr w1) (hs : stepC n (X k) k = true) : MayRelR w A n e X (k + 1) w1 := by
  obtain ⟨r1, r2, r3⟩ := h
  exact ⟨r1.trans h1, h1.get r2 id, by simp [mayTo2, r3, hs]⟩
set_option maxHeartbeats 8000000 in
set_option maxRecDepth 100000 in
theorem mayR_any (b : Bk) (w : World) (hb : b.Ok w) :
    Calls Try.prog 28 #[.agg (bkA b)] w fun e w' => e = .returned (.bool (mayBlk b)) ∧ Same w w' := by
  have HB := hidE hb
  obtain ⟨hI, -, hn, hcn, hm, hcm, -, -, -, -, e0, e1⟩ := hb
  by_cases c1 : b.n < 1
  · rw [show mayBlk b = false from by simp [mayBlk]; omega]
    clear HB hI
    obtain ⟨ia, n, cn, aa, m, cm, next, to, fin, fr, tb, X, Y⟩ := b
    simp only [bkA] at *
    go_enter Try.func28, Try.ntmps28
    go_wp2
    go_ret
    exact ⟨rfl, (Keeps.refl _ _).alloc _⟩
  by_cases c2 : 32 < b.n
  · rw [show mayBlk b = false from by simp [mayBlk]; omega]
    clear HB hI
    obtain ⟨ia, n, cn, aa, m, cm, next, to, fin, fr, tb, X, Y⟩ := b
    simp only [bkA] at *
    go_enter Try.func28, Try.ntmps28
    go_wp2
    go_ret
    exact ⟨rfl, (Keeps.refl _ _).alloc _⟩
  by_cases c3n : ¬ b.m = b.n
  · rw [show mayBlk b = false from by simp [mayBlk, c3n]]
    clear HB hI
    obtain ⟨ia, n, cn, aa, m, cm, next, to, fin, fr, tb, X, Y⟩ := b
    simp only [bkA] at *
    have c3' : ((m : Int) != (n : Int)) = true := by simp; omega
    go_enter Try.func28, Try.ntmps28
    go_wp2
    go_ret
    exact ⟨rfl, (Keeps.refl _ _).alloc _⟩
  have c3 : b.m = b.n := Decidable.not_not.1 c3n
  clear c3n
  have hbk : mayBlk b = mayTo b.n b.fin b.X b.n := by simp [mayBlk, c3]; omega
  rw [hbk]
  rcases hI with hI | ⟨S, o, ha, hS, hI⟩
  · omega
  have HI : Hid (∀ k, k < b.n → (b.X k).Ok ∧ w.cell? ⟨S, o + k * 4, none⟩ = some (.int .u8 (b.X k).op) ∧ w.cell? ⟨S, o + k * 4 + 1, none⟩ = some (.int .u8 (b.X k).a) ∧ w.cell? ⟨S, o + k * 4 + 2, none⟩ = some (.int .u8 (b.X k).b) ∧ w.cell? ⟨S, o + k * 4 + 3, none⟩ = some (.int .i32 (b.X k).imm)) := hidE hI
  clear hI hbk HB
  obtain ⟨ia, n, cn, aa, m, cm, next, to, fin, fr, tb, X, Y⟩ := b
  simp only at hn hcn hm hcm e0 e1 c1 c2 c3 ha HI ⊢
  subst ha c3
  simp only [bkA]
  have c3' : ((m : Int) != (m : Int)) = false := by simp
  have hrel : MayRelR w #[.slice (some ⟨S, o, none⟩) m cn, .slice aa m cm, .int .u32 next, .int .u32 to, .int .i64 fin, fr, tb] m fin X 0 (w.alloc (.cells #[.slice (some ⟨S, o, none⟩) m cn, .slice aa m cm, .int .u32 next, .int .u32 to, .int .i64 fin, fr, tb] 41)) := ⟨(Keeps.refl _ _).alloc _, block_new _ _, rfl⟩
  have HR0 := hidE hrel
  clear hrel
  go_enter Try.func28, Try.ntmps28
  go_wp2_with fail
  go_loopw [4] (fun t4 wr => ∃ k : Nat, t4 = .int .i64 k ∧ k ≤ m ∧ MayRelR w #[.slice (some ⟨S, o, none⟩) m cn, .slice aa m cm, .int .u32 next, .int .u32 to, .int .i64 fin, fr, tb] m fin X k wr) (fun t4 _ => (m - intOf t4).toNat)
  case atStart => exact ⟨0, rfl, by omega, HR0.out⟩
  case round =>
    obtain ⟨k, rfl, hkm, hR⟩ := hrel
    have HR := hidE hR
    clear HR0
    obtain ⟨r4, r5, r7⟩ := hR
    have cb := cell_of r5
    have hlb := lt_of_block r5
    by_cases hlt : k < m
    · obtain ⟨hok, d0, d1, d2, d3⟩ := HI.out k hlt
      have c0 := cell_keeps r4 hS id d0
      have c1 := cell_keeps r4 hS id d1
      have c2 := cell_keeps r4 hS id d2
      have c3 := cell_keeps r4 hS id d3
      clear d0 d1 d2 d3
      generalize hMb : mayB (X k) false = M
      obtain ⟨n0, b1, b2, b3, b4, b5, b6, b7, b8, b9, hsh⟩ := of3Shape (X k).op
      generalize hEb : ending3 (X k).op = E at hsh
      have hfd : ∀ w, (Instr.field 91 (.agg #[.int .i64 n0, .bool b1, .bool b2, .bool b3, .bool b4, .bool b5, .bool b6, .bool b7, .bool b8, .bool b9, .bool E]) 10).run Try.prog w = .ok (.bool E) w := fun _ => by kernel_rfl
      have HM : Hid (∀ w, _) := hidE (fun w => by have h := may2_any (X k) false hok w; rw [hMb] at h; exact h)
      have HE := hidE (fun (w' : World) => by have h := of3_any (X k).op hok.o0 hok.o1 w'; rw [hsh] at h; exact h)
      have HX : Hid (stepC m (X k) k = (M && if k + 1 < m then !E else true)) := hidE (by simp only [stepC, hMb, hEb])
      clear hMb hEb hok r7 r4 hsh
      go_wp2_with fail
      refine (HM.out _).mono ?_
      rintro e w2 ⟨rfl, hk2⟩
      have B2 := hk2.get r5 id
      have cb2 := cell_of B2
      have HK2 := hidE hk2
      clear cb B2 hk2 HM c0 c1 c2 c3 r5
      cases M
      · have HN := hidE (mayTo2_no (e := fin) (show stepC m (X k) k = false by rw [HX.out]; rfl) hlt)
        clear HX HE
        go_wp2
        go_ret
        exact ⟨by rw [HN.out]; rfl, HR.out.1.trans HK2.out⟩
      · by_cases hl : k + 1 < m
        · have q1 : decide ((k : Int) < (m : Int) - 1) = true := by simp; omega
          have q1' : (k : Int) < (m : Int) - 1 := by omega
          go_wp2_with fail
          refine (HE.out _).mono ?_
          rintro e w3 ⟨rfl, hk3⟩
          have HK3 := hidE hk3
          clear hk3 HE
          cases E
          · have HN := hidE (mayRelR_next HR.out (HK2.out.trans HK3.out) (show stepC m (X k) k = true by rw [HX.out]; simp [hl]))
            clear HX
            go_wp2
            go_roundw
            case rel => exact ⟨k + 1, by go_num, by omega, HN.out⟩
            case measure => simp [intOf]; omega
          · have HN := hidE (mayTo2_no (e := fin) (show stepC m (X k) k = false by rw [HX.out]; simp [hl]) hlt)
            clear HX
            go_wp2
            go_ret
            exact ⟨by rw [HN.out]; rfl, HR.out.1.trans (HK2.out.trans HK3.out)⟩
        · have q1 : decide ((k : Int) < (m : Int) - 1) = false := by simp; omega
          have q1' : ¬ (k : Int) < (m : Int) - 1 := by omega
          have HN := hidE (mayRelR_next HR.out HK2.out (show stepC m (X k) k = true by rw [HX.out]; simp [hl]))
          clear HX HE
          go_wp2
          go_roundw
          case rel => exact ⟨k + 1, by go_num, by omega, HN.out⟩
          case measure => simp [intOf]; omega
    · obtain rfl : k = m := by omega
      obtain ⟨j, rfl⟩ : ∃ j, k = j + 1 := ⟨k - 1, by omega⟩
      obtain ⟨hok, d0, d1, d2, d3⟩ := HI.out j (by omega)
      have c0 := cell_keeps r4 hS id d0
      have HQ := hidE (right_ok (X j).op fin hok.o0 hok.o1)
      have HN := hidE (mayTo_last (e := fin) r7)
      have q9 : IntKind.i64.wrap (j : Int) = j := by rw [wrapI] <;> omega
      have q8 : IntKind.i64.wrap ((j : Int) + 1 - 1) = j := by rw [wrapI] <;> omega
      have HK := hidE r4
      have qb : (0 : Int) ≤ j := by omega
      have qb2 : (j : Int) < (j : Int) + 1 := by omega
      have qb3 : (j : Int) < ((j + 1 : Nat) : Int) := by omega
      have qb4 : j < j + 1 := by omega
      clear r7 hok d0 d1 d2 d3 r4 HR r5
      go_wp2_with fail
      go_still_tail 9, (by kernel_rfl)
      change wpList _ _ _ _ _ wr.drew
      go_wp2_with fail
      refine (HQ.out _).mono ?_
      rintro e w2 ⟨rfl, hk2⟩
      go_wp2
      go_ret
      exact ⟨by rw [HN.out]; rfl, (HK.out.drew).trans hk2⟩
end Go.Proofs.Ytdchhkdgcjnhpaa
