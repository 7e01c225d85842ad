/- The walk of translate's May over a block. The walk of the reference's May over a block. -/
import Derived.Test.YtomphgpplbekiaaGreatBlk
import Derived.StillTailTactics
namespace Go.Proofs.YtomphgpplbekiaaGreat
open Go.RowKit

/-- What is known of an operation, as the reference says it. -/
theorem ends_ref (w : World) (tb : Nat) (op : Int) (h0 : 0 ≤ op) (h1 : op < 256) (ht : TabOk w tb) (E : Bool) (hE : ending3 op = E) :
    Calls Tryz.prog 99 #[.pointer (some ⟨tb, 0, none⟩), .int .u8 op] w fun e w' => e = .returned (.bool E) ∧ Keeps (fun k => k = tb) w w' ∧ TabHas w' tb := by
  have := ends_ok w tb op h0 h1 ht
  rw [ends_same op h0 h1, hE] at this
  exact this
def MayRel (w : World) (A : Array Value) (n : Nat) (e : Int) (X : Nat → In) (tb k : Nat) (wr : World) : Prop := TabOk wr tb ∧ w.heap.size ≤ tb ∧ tb < wr.heap.size ∧ Same w wr ∧ wr.heap[w.heap.size]? = some (.cells A 36 (0, 0)) ∧ w.heap.size < tb ∧ mayTo n e X k = true
theorem TabOk.keeps {F : Nat → Prop} {w w' : World} {tb : Nat} (h : TabOk w tb) (hk : Keeps F w w') (hF : ∀ b, ¬ F b) : TabOk w' tb := by
  rcases h with h | h
  · exact .inl (hk.get h (hF _))
  · exact .inr (h.keeps hk hF)
/-- Behind one round. -/
theorem mayRel_next {w wr w1 w2 : World} {A : Array Value} {n : Nat} {e : Int} {X : Nat → In} {tb k : Nat} {o : Obj} (h : MayRel w A n e X tb k wr) (h1 : Keeps (fun k => k = tb) (wr.alloc o) w1) (ht : TabHas w1 tb) (h2 : Same w1 w2) (hs : stepB n e (X k) k = true) : MayRel w A n e X tb (k + 1) w2 := by
  obtain ⟨r1, r2, r3, r4, r5, r6, r7⟩ := h
  have hs1 := h1.size
  have hs2 := h2.size
  simp at hs1
  refine ⟨.inr (ht.keeps h2 (fun _ => id)), r2, by omega, ((same_then (r4.alloc o) h1 (fun k e => by omega))).trans h2, h2.get (h1.get (block_old _ r5) (by omega)) id, r6, by simp [mayTo, r7, hs]⟩
theorem mayRel_same {w wr w1 w2 : World} {A : Array Value} {n : Nat} {e : Int} {X : Nat → In} {tb k : Nat} {o : Obj} (h : MayRel w A n e X tb k wr) (h1 : Keeps (fun k => k = tb) (wr.alloc o) w1) (h2 : Same w1 w2) : Same w w2 := by
  obtain ⟨r1, r2, r3, r4, r5, r6, r7⟩ := h
  exact (same_then (r4.alloc o) h1 (fun k e => by omega)).trans h2
set_option maxHeartbeats 8000000 in
set_option maxRecDepth 100000 in
theorem mayT_any (b : Bk) (w : World) (hb : b.Ok w) :
    Calls Tryz.prog 72 #[.agg (bkA b)] w fun e w' => e = .returned (.bool (mayBlk b)) ∧ Same w w' := by
  have HB := hidE hb
  obtain ⟨hI, -, hn, hcn, hm, hcm, -, -, -, -, e0, e1⟩ := hb
  by_cases c1 : b.n < 1
  · rw [show mayBlk b = false from by simp [mayBlk]; omega]
    clear HB hI
    obtain ⟨ia, n, cn, aa, m, cm, next, to, fin, fr, tb, X, Y⟩ := b
    simp only [bkA] at *
    go_enter Tryz.func72, Tryz.ntmps72
    go_wp2
    go_ret
    exact ⟨rfl, (Keeps.refl _ _).alloc _⟩
  by_cases c2 : 32 < b.n
  · rw [show mayBlk b = false from by simp [mayBlk]; omega]
    clear HB hI
    obtain ⟨ia, n, cn, aa, m, cm, next, to, fin, fr, tb, X, Y⟩ := b
    simp only [bkA] at *
    go_enter Tryz.func72, Tryz.ntmps72
    go_wp2
    go_ret
    exact ⟨rfl, (Keeps.refl _ _).alloc _⟩
  by_cases c3n : ¬ b.m = b.n
  · rw [show mayBlk b = false from by simp [mayBlk, c3n]]
    clear HB hI
    obtain ⟨ia, n, cn, aa, m, cm, next, to, fin, fr, tb, X, Y⟩ := b
    simp only [bkA] at *
    have c3' : ((m : Int) != (n : Int)) = true := by simp; omega
    go_enter Tryz.func72, Tryz.ntmps72
    go_wp2
    go_ret
    exact ⟨rfl, (Keeps.refl _ _).alloc _⟩
  have c3 : b.m = b.n := Decidable.not_not.1 c3n
  clear c3n
  have hbk : mayBlk b = mayTo b.n b.fin b.X b.n := by simp [mayBlk, c3]; omega
  rw [hbk]
  rcases hI with hI | ⟨S, o, ha, hS, hI⟩
  · omega
  have HI : Hid (∀ k, k < b.n → (b.X k).Ok ∧ w.cell? ⟨S, o + k * 4, none⟩ = some (.int .u8 (b.X k).op) ∧ w.cell? ⟨S, o + k * 4 + 1, none⟩ = some (.int .u8 (b.X k).a) ∧ w.cell? ⟨S, o + k * 4 + 2, none⟩ = some (.int .u8 (b.X k).b) ∧ w.cell? ⟨S, o + k * 4 + 3, none⟩ = some (.int .i32 (b.X k).imm)) := hidE hI
  clear hI hbk HB
  obtain ⟨ia, n, cn, aa, m, cm, next, to, fin, fr, tb, X, Y⟩ := b
  simp only at hn hcn hm hcm e0 e1 c1 c2 c3 ha HI ⊢
  subst ha c3
  simp only [bkA]
  have c3' : ((m : Int) != (m : Int)) = false := by simp
  go_enter Tryz.func72, Tryz.ntmps72
  go_wp2_with fail
  refine (kind_new _).mono ?_
  rintro e w1 ⟨rfl, hT, hk⟩
  have A1 := hk.get (block_new w _) id
  have q1 := cell_of A1
  have hsz := hk.size
  simp at hsz
  have hrel : MayRel w _ m fin X (w.heap.size + 1) 0 w1 := ⟨.inl (by simpa using hT), by omega, by have := lt_of_block hT; simpa using this, ((Keeps.refl _ _).alloc _).trans hk, A1, by omega, rfl⟩
  have HR0 := hidE hrel
  clear hrel hT hk A1
  go_wp2_with fail
  clear q1
  go_loopw [28] (fun t28 wr => ∃ k : Nat, t28 = .int .i64 k ∧ k ≤ m ∧ MayRel w #[.slice (some ⟨S, o, none⟩) m cn, .slice aa m cm, .int .u32 next, .int .u32 to, .int .i64 fin, fr, tb] m fin X (w.heap.size + 1) k wr) (fun t28 _ => (m - intOf t28).toNat)
  case atStart => exact ⟨0, rfl, by omega, HR0.out⟩
  case round =>
    obtain ⟨k, rfl, hkm, hR⟩ := hrel
    have HR := hidE hR
    clear HR0
    obtain ⟨ht, -, r3, r4, r5, -, r7⟩ := hR
    by_cases hlt : k < m
    · obtain ⟨hok, d0, d1, d2, d3⟩ := HI.out k hlt
      have c0 := cell_keeps r4 hS id d0
      have c1 := cell_keeps r4 hS id d1
      have c2 := cell_keeps r4 hS id d2
      have c3 := cell_keeps r4 hS id d3
      clear d0 d1 d2 d3
      generalize hMb : mayB (X k) false = M
      generalize hEb : ending3 (X k).op = E
      generalize hFb : fitsE (X k).op fin E = F
      have HO := hidE hok
      have HM : Hid (∀ w, _) := hidE (fun w => by have h := may_any (X k) false hok w; rw [hMb] at h; exact h)
      have HE := hidE (fun (w' : World) ht => ends_ref w' (w.heap.size + 1) (X k).op hok.o0 hok.o1 ht E hEb)
      have HF := hidE (fun w => by have h := fits_ok (X k).op fin E w; rw [hFb] at h; exact h)
      have HT := hidE (ht.keeps ((Keeps.refl (fun _ => False) wr).alloc (.cells (inA (X k)) 122)) (fun _ => id))
      have HX : Hid (stepB m fin (X k) k = (M && if k + 1 < m then !E else F)) := hidE (by simp only [stepB, hMb, hEb, hFb])
      have cb := cell_of r5
      have hlb := lt_of_block r5
      clear hMb hEb hFb hok ht r7
      go_wp2_with fail
      refine (HE.out _ HT.out).mono ?_
      rintro e w1 ⟨rfl, hk1, ht1⟩
      have A1 := hk1.get (block_new wr (.cells (inA (X k)) 122)) (by omega)
      have B1 := hk1.get (block_old (.cells (inA (X k)) 122) r5) (by omega)
      simp only [inA] at A1
      have ca := cell_of A1
      have cb1 := cell_of B1
      have HK1 := hidE hk1
      have HT1 := hidE ht1
      clear c0 c1 c2 c3 cb r4 r5 hk1 ht1 HE HT
      go_wp2_with fail
      refine (HM.out _).mono ?_
      rintro e w2 ⟨rfl, hk2⟩
      have A2 := hk2.get A1 id
      have B2 := hk2.get B1 id
      have ca2 := cell_of A2
      have cb2 := cell_of B2
      have HK2 := hidE hk2
      clear ca cb1 A1 B1 A2 B2 hk2 HM
      cases M
      · have HN := hidE (mayTo_no (show stepB m fin (X k) k = false by rw [HX.out]; rfl) m hlt)
        clear HF HX
        go_wp2
        go_ret
        exact ⟨by rw [HN.out]; rfl, mayRel_same HR.out HK1.out HK2.out⟩
      · by_cases hl : k + 1 < m
        · have q1 : decide ((k : Int) < (m : Int) - 1) = true := by simp; omega
          have q1' : (k : Int) < (m : Int) - 1 := by omega
          cases E
          · have HN := hidE (mayRel_next HR.out HK1.out HT1.out HK2.out (show stepB m fin (X k) k = true by rw [HX.out]; simp [hl]))
            have q2 : ((k : Int) == (m : Int) - 1) = false := by simp; omega
            clear HF HX
            go_wp2
            go_roundw
            case rel => exact ⟨k + 1, by go_num, by omega, HN.out⟩
            case measure => simp [intOf]; omega
          · have HN := hidE (mayTo_no (show stepB m fin (X k) k = false by rw [HX.out]; simp [hl]) m hlt)
            clear HF HX
            go_wp2
            go_ret
            exact ⟨by rw [HN.out]; rfl, mayRel_same HR.out HK1.out HK2.out⟩
        · have q1 : decide ((k : Int) < (m : Int) - 1) = false := by simp; omega
          have q1' : ¬ (k : Int) < (m : Int) - 1 := by omega
          have q2 : ((k : Int) == (m : Int) - 1) = true := by simp; omega
          go_wp2_with fail
          refine (HF.out _).mono ?_
          rintro e w3 ⟨rfl, rfl⟩
          cases F
          · have HN := hidE (mayTo_no (show stepB m fin (X k) k = false by rw [HX.out]; simp [hl]) m hlt)
            clear HF HX
            go_wp2
            go_ret
            exact ⟨by rw [HN.out]; rfl, mayRel_same HR.out HK1.out HK2.out⟩
          · have HN := hidE (mayRel_next HR.out HK1.out HT1.out HK2.out (show stepB m fin (X k) k = true by rw [HX.out]; simp [hl]))
            clear HF HX
            go_wp2
            go_roundw
            case rel => exact ⟨k + 1, by go_num, by omega, HN.out⟩
            case measure => simp [intOf]; omega
    · obtain rfl : k = m := by omega
      have HN := hidE r7
      clear r7
      go_wp2
      go_ret
      exact ⟨by rw [HN.out]; rfl, r4⟩
end Go.Proofs.YtomphgpplbekiaaGreat
namespace Go.Proofs.YtomphgpplbekiaaGreat
open Go.RowKit

def MayRelR (w : World) (A : Array Value) (n : Nat) (_e : Int) (X : Nat → In) (k : Nat) (wr : World) : Prop := Same w wr ∧ wr.heap[w.heap.size]? = some (.cells A 36 (0, 0)) ∧ mayTo2 n X k = true
theorem mayRelR_next {w wr w1 : World} {A : Array Value} {n : Nat} {e : Int} {X : Nat → In} {k : Nat} (h : MayRelR w A n e X k wr) (h1 : Same wr w1) (hs : stepC n (X k) k = true) : MayRelR w A n e X (k + 1) w1 := by
  obtain ⟨r1, r2, r3⟩ := h
  exact ⟨r1.trans h1, h1.get r2 id, by simp [mayTo2, r3, hs]⟩
set_option maxHeartbeats 8000000 in
set_option maxRecDepth 100000 in
theorem mayR_any (b : Bk) (w : World) (hb : b.Ok w) :
    Calls Tryz.prog 75 #[.agg (bkA b)] w fun e w' => e = .returned (.bool (mayBlk b)) ∧ Same w w' := by
  have HB := hidE hb
  obtain ⟨hI, -, hn, hcn, hm, hcm, -, -, -, -, e0, e1⟩ := hb
  by_cases c1 : b.n < 1
  · rw [show mayBlk b = false from by simp [mayBlk]; omega]
    clear HB hI
    obtain ⟨ia, n, cn, aa, m, cm, next, to, fin, fr, tb, X, Y⟩ := b
    simp only [bkA] at *
    go_enter Tryz.func75, Tryz.ntmps75
    go_wp2
    go_ret
    exact ⟨rfl, (Keeps.refl _ _).alloc _⟩
  by_cases c2 : 32 < b.n
  · rw [show mayBlk b = false from by simp [mayBlk]; omega]
    clear HB hI
    obtain ⟨ia, n, cn, aa, m, cm, next, to, fin, fr, tb, X, Y⟩ := b
    simp only [bkA] at *
    go_enter Tryz.func75, Tryz.ntmps75
    go_wp2
    go_ret
    exact ⟨rfl, (Keeps.refl _ _).alloc _⟩
  by_cases c3n : ¬ b.m = b.n
  · rw [show mayBlk b = false from by simp [mayBlk, c3n]]
    clear HB hI
    obtain ⟨ia, n, cn, aa, m, cm, next, to, fin, fr, tb, X, Y⟩ := b
    simp only [bkA] at *
    have c3' : ((m : Int) != (n : Int)) = true := by simp; omega
    go_enter Tryz.func75, Tryz.ntmps75
    go_wp2
    go_ret
    exact ⟨rfl, (Keeps.refl _ _).alloc _⟩
  have c3 : b.m = b.n := Decidable.not_not.1 c3n
  clear c3n
  have hbk : mayBlk b = mayTo b.n b.fin b.X b.n := by simp [mayBlk, c3]; omega
  rw [hbk]
  rcases hI with hI | ⟨S, o, ha, hS, hI⟩
  · omega
  have HI : Hid (∀ k, k < b.n → (b.X k).Ok ∧ w.cell? ⟨S, o + k * 4, none⟩ = some (.int .u8 (b.X k).op) ∧ w.cell? ⟨S, o + k * 4 + 1, none⟩ = some (.int .u8 (b.X k).a) ∧ w.cell? ⟨S, o + k * 4 + 2, none⟩ = some (.int .u8 (b.X k).b) ∧ w.cell? ⟨S, o + k * 4 + 3, none⟩ = some (.int .i32 (b.X k).imm)) := hidE hI
  clear hI hbk HB
  obtain ⟨ia, n, cn, aa, m, cm, next, to, fin, fr, tb, X, Y⟩ := b
  simp only at hn hcn hm hcm e0 e1 c1 c2 c3 ha HI ⊢
  subst ha c3
  simp only [bkA]
  have c3' : ((m : Int) != (m : Int)) = false := by simp
  have hrel : MayRelR w #[.slice (some ⟨S, o, none⟩) m cn, .slice aa m cm, .int .u32 next, .int .u32 to, .int .i64 fin, fr, tb] m fin X 0 (w.alloc (.cells #[.slice (some ⟨S, o, none⟩) m cn, .slice aa m cm, .int .u32 next, .int .u32 to, .int .i64 fin, fr, tb] 36)) := ⟨(Keeps.refl _ _).alloc _, block_new _ _, rfl⟩
  have HR0 := hidE hrel
  clear hrel
  go_enter Tryz.func75, Tryz.ntmps75
  go_wp2_with fail
  go_loopw [4] (fun t4 wr => ∃ k : Nat, t4 = .int .i64 k ∧ k ≤ m ∧ MayRelR w #[.slice (some ⟨S, o, none⟩) m cn, .slice aa m cm, .int .u32 next, .int .u32 to, .int .i64 fin, fr, tb] m fin X k wr) (fun t4 _ => (m - intOf t4).toNat)
  case atStart => exact ⟨0, rfl, by omega, HR0.out⟩
  case round =>
    obtain ⟨k, rfl, hkm, hR⟩ := hrel
    have HR := hidE hR
    clear HR0
    obtain ⟨r4, r5, r7⟩ := hR
    have cb := cell_of r5
    have hlb := lt_of_block r5
    by_cases hlt : k < m
    · obtain ⟨hok, d0, d1, d2, d3⟩ := HI.out k hlt
      have c0 := cell_keeps r4 hS id d0
      have c1 := cell_keeps r4 hS id d1
      have c2 := cell_keeps r4 hS id d2
      have c3 := cell_keeps r4 hS id d3
      clear d0 d1 d2 d3
      generalize hMb : mayB (X k) false = M
      obtain ⟨n0, b1, b2, b3, b4, b5, b6, b7, b8, b9, hsh⟩ := of3Shape (X k).op
      generalize hEb : ending3 (X k).op = E at hsh
      have hfd : ∀ w, (Instr.field 194 (.agg #[.int .i64 n0, .bool b1, .bool b2, .bool b3, .bool b4, .bool b5, .bool b6, .bool b7, .bool b8, .bool b9, .bool E]) 10).run Tryz.prog w = .ok (.bool E) w := fun _ => by kernel_rfl
      have HM : Hid (∀ w, _) := hidE (fun w => by have h := may2_any (X k) false hok w; rw [hMb] at h; exact h)
      have HE := hidE (fun (w' : World) => by have h := of3_any (X k).op hok.o0 hok.o1 w'; rw [hsh] at h; exact h)
      have HX : Hid (stepC m (X k) k = (M && if k + 1 < m then !E else true)) := hidE (by simp only [stepC, hMb, hEb])
      clear hMb hEb hok r7 r4 hsh
      go_wp2_with fail
      refine (HM.out _).mono ?_
      rintro e w2 ⟨rfl, hk2⟩
      have B2 := hk2.get r5 id
      have cb2 := cell_of B2
      have HK2 := hidE hk2
      clear cb B2 hk2 HM c0 c1 c2 c3 r5
      cases M
      · have HN := hidE (mayTo2_no (e := fin) (show stepC m (X k) k = false by rw [HX.out]; rfl) hlt)
        clear HX HE
        go_wp2
        go_ret
        exact ⟨by rw [HN.out]; rfl, HR.out.1.trans HK2.out⟩
      · by_cases hl : k + 1 < m
        · have q1 : decide ((k : Int) < (m : Int) - 1) = true := by simp; omega
          have q1' : (k : Int) < (m : Int) - 1 := by omega
          go_wp2_with fail
          refine (HE.out _).mono ?_
          rintro e w3 ⟨rfl, hk3⟩
          have HK3 := hidE hk3
          clear hk3 HE
          cases E
          · have HN := hidE (mayRelR_next HR.out (HK2.out.trans HK3.out) (show stepC m (X k) k = true by rw [HX.out]; simp [hl]))
            clear HX
            go_wp2
            go_roundw
            case rel => exact ⟨k + 1, by go_num, by omega, HN.out⟩
            case measure => simp [intOf]; omega
          · have HN := hidE (mayTo2_no (e := fin) (show stepC m (X k) k = false by rw [HX.out]; simp [hl]) hlt)
            clear HX
            go_wp2
            go_ret
            exact ⟨by rw [HN.out]; rfl, HR.out.1.trans (HK2.out.trans HK3.out)⟩
        · have q1 : decide ((k : Int) < (m : Int) - 1) = false := by simp; omega
          have q1' : ¬ (k : Int) < (m : Int) - 1 := by omega
          have HN := hidE (mayRelR_next HR.out HK2.out (show stepC m (X k) k = true by rw [HX.out]; simp [hl]))
          clear HX HE
          go_wp2
          go_roundw
          case rel => exact ⟨k + 1, by go_num, by omega, HN.out⟩
          case measure => simp [intOf]; omega
    · obtain rfl : k = m := by omega
      obtain ⟨j, rfl⟩ : ∃ j, k = j + 1 := ⟨k - 1, by omega⟩
      obtain ⟨hok, d0, d1, d2, d3⟩ := HI.out j (by omega)
      have c0 := cell_keeps r4 hS id d0
      have HQ := hidE (right_ok (X j).op fin hok.o0 hok.o1)
      have HN := hidE (mayTo_last (e := fin) r7)
      have q9 : IntKind.i64.wrap (j : Int) = j := by rw [wrapI] <;> omega
      have q8 : IntKind.i64.wrap ((j : Int) + 1 - 1) = j := by rw [wrapI] <;> omega
      have HK := hidE r4
      have qb : (0 : Int) ≤ j := by omega
      have qb2 : (j : Int) < (j : Int) + 1 := by omega
      have qb3 : (j : Int) < ((j + 1 : Nat) : Int) := by omega
      have qb4 : j < j + 1 := by omega
      clear r7 hok d0 d1 d2 d3 r4 HR r5
      go_wp2_with fail
      go_still_tail 9, (by kernel_rfl)
      change wpList _ _ _ _ _ wr.drew
      go_wp2_with fail
      refine (HQ.out _).mono ?_
      rintro e w2 ⟨rfl, hk2⟩
      go_wp2
      go_ret
      exact ⟨by rw [HN.out]; rfl, (HK.out.drew).trans hk2⟩
end Go.Proofs.YtomphgpplbekiaaGreat
