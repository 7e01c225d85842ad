/- The walk of the statement TlbLast: it answers true, and turns nothing that was there. -/
import Derived.Test.YtebponllpjpbeaaTlbB
namespace Go.Proofs.Ytebponllpjpbeaa
open Go.RowKit

/-- Whether a step leaves what was put for the page p. -/
def leaves (n : Nat) (p : Int) (x : Int × Int × Int × Int) : Bool := !(x.1 == 2 || (x.1 == 0 && x.2.1 % n == p % n) || (x.1 == 1 && x.2.1 == p))
theorem leaves_doT {n : Nat} {p : Int} {x : Int × Int × Int × Int} {T : Nat → Slot} {s : Slot} (h : leaves n p x = true) (hs : T (p % n).toNat = s) (hp : s.page = p) (h0 : 0 ≤ x.2.1 % n) (h1 : 0 ≤ p % n) : doT T n x.1 x.2.1 x.2.2.1 x.2.2.2 (p % n).toNat = s := by
  obtain ⟨kind, page, bits, frame⟩ := x
  simp [leaves] at h
  obtain ⟨⟨k2, k0⟩, k1⟩ := h
  simp only at *
  unfold doT
  by_cases e0 : kind = 0
  · subst e0
    have := k0.resolve_left (fun h => h rfl)
    rw [if_pos rfl, upd, if_neg (by omega), hs]
  · rw [if_neg e0]
    by_cases e1 : kind = 1
    · subst e1
      have hne := k1.resolve_left (fun h => h rfl)
      rw [if_pos rfl]
      unfold dropT
      by_cases e : (T (page % n).toNat).page = page
      · rw [if_pos e, upd]
        by_cases e2 : (p % n).toNat = (page % n).toNat
        · rw [← e2, hs] at e; omega
        · rw [if_neg e2, hs]
      · rw [if_neg e, hs]
    · rw [if_neg e1, if_neg k2, hs]

def LastRel (w : World) (n : Nat) (p1 b1 f1 k1 : Int) (a : Option Addr) (l : Nat) (X : Nat → Int × Int × Int × Int) (wr : World) : Prop :=
  ∃ T, IsTLB wr (w.heap.size + 1 + 1) (w.heap.size + 1) n 0 0 T ∧ T (p1 % n).toNat = ⟨true, p1, b1, f1⟩ ∧ Below w.heap.size w wr ∧ IsSteps wr a l X ∧
    wr.heap[w.heap.size]? = some (.cells #[.int .i64 k1, .int .u32 p1, .int .u32 b1, .int .i64 f1] 24)
/-- Behind the loop: still there, or not. -/
def LastEnd (w : World) (n : Nat) (p1 b1 f1 k1 : Int) (th : Bool) (wr : World) : Prop :=
  ∃ T, IsTLB wr (w.heap.size + 1 + 1) (w.heap.size + 1) n 0 0 T ∧ (th = true → T (p1 % n).toNat = ⟨true, p1, b1, f1⟩) ∧ Below w.heap.size w wr ∧
    wr.heap[w.heap.size]? = some (.cells #[.int .i64 k1, .int .u32 p1, .int .u32 b1, .int .i64 f1] 24)

set_option maxHeartbeats 2000000 in
theorem tlbLast_walk (w : World) (x0 : Int) (_ : RdV Try.prog w 3 [.int .i64 x0]) (s1 : Array Value) (h1 : RdV Try.prog w 24 s1.toList) (a2 : Option Addr) (l2 c2 : Nat) (h2 : RdV Try.prog w 38 [.slice a2 l2 c2]) :
    Calls Try.prog 5 #[.int .i64 x0, .agg s1, .slice a2 l2 c2] w fun e w' => e = .returned (.bool true) ∧ Below w.heap.size w w' := by
  obtain ⟨k1, p1, b1, f1, rfl, p10, p11⟩ := step_open h1
  obtain ⟨⟨X, hX⟩, _⟩ := steps_open h2
  clear h1 h2
  have hn := madeN_pos x0
  have hn2 : madeN x0 ≤ 64 := by have := madeN_le x0; omega
  generalize hm : madeN x0 = n at hn hn2
  have HM := hidE  hm
  clear hm
  go_enter Try.func5, Try.ntmps5
  go_wp2_with fail
  refine (made_any x0 _).mono ?_
  rw [HM.out]
  rintro e w1 ⟨rfl, hk, hT⟩
  simp only [World.size_alloc] at hT
  have A1 := hk.get (block_new w _) id
  have c1 := cell_of A1
  go_wp2_with fail
  refine (put_any _ _ n 0 0 p1 b1 f1 _ _ hn hn2 p10 p11 hT).mono ?_
  rintro e w2 ⟨rfl, hk2, hT2⟩
  have A2 := hk2.get A1 (by omega)
  have hb : Below w.heap.size w w2 := by
    have := hk.size
    simp only [World.size_alloc] at this
    exact (((Below.refl _ w).alloc (Nat.le_refl _) _).trans (Keeps.below hk (by simp) (fun _ _ => id))).trans (Keeps.below hk2 (by omega) (fun k hk' => by omega))
  have hstart : LastRel w n p1 b1 f1 k1 a2 l2 X w2 := ⟨_, hT2, by simp [upd], hb, hX.below hb, A2⟩
  clear hb A1 A2 c1 hk hT hk2 hT2 w1
  go_wp2_with fail
  go_loopw [9, 10] (fun t9 t10 wr => ∃ k : Nat, t9 = .bool true ∧ t10 = .int .i64 k ∧ k ≤ l2 ∧ k ≤ 50 ∧ LastRel w n p1 b1 f1 k1 a2 l2 X wr) (fun _ t10 _ => (50 - intOf t10).toNat)
  case atStart => exact ⟨0, rfl, rfl, by omega, by omega, hstart⟩
  case round =>
    obtain ⟨k, rfl, rfl, hkl, hk50, hR⟩ := hrel
    by_cases hlt : k < l2 ∧ k < 50
    · obtain ⟨hlt1, hlt2⟩ := hlt
      obtain ⟨T, hT, hTi, hb, hS, hA⟩ := hR
      have hS' := hS
      rcases hS' with h0 | ⟨b, off, rfl, hbl, hc⟩
      · omega
      obtain ⟨p0, p2, d0, d1, d2, d3⟩ := hc k hlt1
      clear hc
      have hTd : ∀ (T' : Nat → Slot), T' = doT T n (X k).1 (X k).2.1 (X k).2.2.1 (X k).2.2.2 → leaves n p1 (X k) = true → T' (p1 % n).toNat = ⟨true, p1, b1, f1⟩ := fun T' h1 h2 => by
        rw [h1]; exact leaves_doT h2 hTi rfl (Int.emod_nonneg _ (by omega)) (Int.emod_nonneg _ (by omega))
      have HX := hidE  (rfl : X k = X k)
      generalize hx : X k = x at *
      obtain ⟨kd, pg, bt, fr⟩ := x
      simp only at p0 p2 d0 d1 d2 d3
      have hT' := fun o => hT.keeps ((Keeps.refl (fun _ => False) wr).alloc o) id id
      have HTD := hidE  hTd
      clear hTd hx HX
      go_wp2_with fail
      refine (do_any _ _ n 0 0 kd pg bt fr T _ hn hn2 p0 p2 (hT' _)).mono ?_
      rintro e w3 ⟨rfl, hk3, hT3⟩
      have B1 := hk3.get (block_new wr _) (by have := hT.hS; have := lt_of_block this; omega)
      have B2 := hk3.get (block_old _ hA) (by omega)
      have hb3 : Below w.heap.size w w3 := (hb.alloc hb.size _).trans (Keeps.below hk3 (by simp; have := hb.size; omega) (fun k hk' => by omega))
      have hS3 : IsSteps w3 (some ⟨b, off, none⟩) l2 X := hX.below hb3
      have e1 := cell_of B1
      have e2 := cell_of B2
      have q1 : 0 ≤ p1 % n := Int.emod_nonneg _ (by omega)
      have q2 : 0 ≤ pg % n := Int.emod_nonneg _ (by omega)
      have hnz : ((n : Int) == 0) = false := by simp; omega
      have g1 : p1 % n < n := Int.emod_lt_of_pos _ (by omega)
      have g2 : pg % n < n := Int.emod_lt_of_pos _ (by omega)
      have v1 := wrapI p1 (by omega) (by omega)
      have v2 := wrapI pg (by omega) (by omega)
      have t1 : p1.tmod n = p1 % n := Int.tmod_eq_emod_of_nonneg p10
      have t2 : pg.tmod n = pg % n := Int.tmod_eq_emod_of_nonneg p0
      have wt1 := wrapI (p1 % n) (by omega) (by omega)
      have wt2 := wrapI (pg % n) (by omega) (by omega)
      have hstop : ∀ q, LastEnd w n p1 b1 f1 k1 false (w3.drewN q) := fun q => ⟨_, hT3.keeps ((Keeps.refl (fun _ => False) _).drewN _) id id, by simp, below_drewN hb3 _, B2⟩
      have hgo : leaves n p1 (kd, pg, bt, fr) = true → ∀ q, LastRel w n p1 b1 f1 k1 (some ⟨b, off, none⟩) l2 X (w3.drewN q) := fun hl q => ⟨_, hT3.keeps ((Keeps.refl (fun _ => False) _).drewN _) id id, HTD.out _ rfl hl, below_drewN hb3 _, hX.below (below_drewN hb3 _), B2⟩
      have HS := hidE  hstop
      have HG := hidE  hgo
      clear hstop hgo hk3 hT3 B1 B2 hb3 hS3 hT hTi hb hS hA d0 d1 d2 d3 hT' hX HTD
      go_wp2_with fail
      go_quiet (fail)
      rename_i nq
      clear v1 v2 t1 t2 wt1 wt2
      have ways : kd = 2 ∨ (kd = 0 ∧ pg % n = p1 % n) ∨ (kd = 0 ∧ ¬ pg % n = p1 % n) ∨ (kd = 1 ∧ pg = p1) ∨ (kd = 1 ∧ ¬ pg = p1) ∨ (¬ kd = 2 ∧ ¬ kd = 0 ∧ ¬ kd = 1) := by omega
      rcases ways with rfl | ⟨rfl, e⟩ | ⟨rfl, e⟩ | ⟨rfl, e⟩ | ⟨rfl, e⟩ | ⟨ea, eb, ec⟩
      · have HE := hidE  (HS.out nq)
        clear HS HG
        obtain ⟨T', hT', _, hb', hA'⟩ := HE.out
        have c1 := cell_of hA'
        go_wp2_with fail
        refine (look_any _ _ n 0 0 p1 _ _ hn hn2 p10 p11 (by omega) (by omega) (by omega) (by omega) hT').mono ?_
        rintro e w5 ⟨hk5, hr⟩
        have hb5 := hidE  (hb'.trans (Keeps.below hk5 hb'.size (fun k hk' => by omega)))
        clear hk5 hb' hA' hT'
        split at hr
        all_goals
          obtain ⟨rfl, _⟩ := hr
          go_wp2
          go_ret
          exact ⟨rfl, hb5.out⟩
      · have HE := hidE  (HS.out nq)
        have e5 : (pg % n == p1 % n) = true := by simpa using e
        clear HS HG e
        obtain ⟨T', hT', _, hb', hA'⟩ := HE.out
        have c1 := cell_of hA'
        go_wp2_with fail
        refine (look_any _ _ n 0 0 p1 _ _ hn hn2 p10 p11 (by omega) (by omega) (by omega) (by omega) hT').mono ?_
        rintro e w5 ⟨hk5, hr⟩
        have hb5 := hidE  (hb'.trans (Keeps.below hk5 hb'.size (fun k hk' => by omega)))
        clear hk5 hb' hA' hT'
        split at hr
        all_goals
          obtain ⟨rfl, _⟩ := hr
          go_wp2
          go_ret
          exact ⟨rfl, hb5.out⟩
      · have HE := hidE  (HG.out (by simp [leaves]; exact e) nq)
        have e5 : (pg % n == p1 % n) = false := by simpa using e
        clear HS HG e
        go_wp2
        go_roundw
        case rel => exact ⟨k + 1, rfl, by go_num, by omega, by omega, HE.out⟩
        case measure => simp [intOf]; omega
      · have HE := hidE  (HS.out nq)
        obtain rfl := e.symm
        clear HS HG
        obtain ⟨T', hT', _, hb', hA'⟩ := HE.out
        have c1 := cell_of hA'
        go_wp2_with fail
        refine (look_any _ _ n 0 0 p1 _ _ hn hn2 p10 p11 (by omega) (by omega) (by omega) (by omega) hT').mono ?_
        rintro e w5 ⟨hk5, hr⟩
        have hb5 := hidE  (hb'.trans (Keeps.below hk5 hb'.size (fun k hk' => by omega)))
        clear hk5 hb' hA' hT'
        split at hr
        all_goals
          obtain ⟨rfl, _⟩ := hr
          go_wp2
          go_ret
          exact ⟨rfl, hb5.out⟩
      · have HE := hidE  (HG.out (by simp [leaves]; exact e) nq)
        have e5 : (pg == p1) = false := by simpa using e
        clear HS HG e
        go_wp2
        go_roundw
        case rel => exact ⟨k + 1, rfl, by go_num, by omega, by omega, HE.out⟩
        case measure => simp [intOf]; omega
      · have HE := hidE  (HG.out (by simp [leaves, ea, eb, ec]) nq)
        have e5 : (kd == 2) = false := by simpa using ea
        have e6 : (kd == 0) = false := by simpa using eb
        have e7 : (kd == 1) = false := by simpa using ec
        clear HS HG ea eb ec
        go_wp2
        go_roundw
        case rel => exact ⟨k + 1, rfl, by go_num, by omega, by omega, HE.out⟩
        case measure => simp [intOf]; omega
    · have HE : Hid (LastEnd w n p1 b1 f1 k1 true wr) := by
        obtain ⟨T, hT, hTi, hb, _, hA⟩ := hR
        exact hidE  ⟨T, hT, fun _ => hTi, hb, hA⟩
      clear hR hX
      by_cases hlt1 : k < l2
      · have hlt2 : ¬ k < 50 := fun h => hlt ⟨hlt1, h⟩
        clear hlt
        obtain ⟨T', hT', hTi', hb', hA'⟩ := HE.out
        have c1 := cell_of hA'
        go_wp2_with fail
        refine (look_any _ _ n 0 0 p1 _ _ hn hn2 p10 p11 (by omega) (by omega) (by omega) (by omega) hT').mono ?_
        rintro e w5 ⟨hk5, hr⟩
        rw [hTi' (by trivial), if_pos ⟨rfl, rfl⟩] at hr
        obtain ⟨rfl, _⟩ := hr
        have A5 := hk5.get hA' (by omega)
        have c5 := cell_of A5
        have hb5 := hidE  (hb'.trans (Keeps.below hk5 hb'.size (fun k hk' => by omega)))
        clear hk5 hb' hA' hT' A5 c1 hTi'
        go_wp2
        go_ret
        exact ⟨rfl, hb5.out⟩
      · clear hlt
        obtain ⟨T', hT', hTi', hb', hA'⟩ := HE.out
        have c1 := cell_of hA'
        go_wp2_with fail
        refine (look_any _ _ n 0 0 p1 _ _ hn hn2 p10 p11 (by omega) (by omega) (by omega) (by omega) hT').mono ?_
        rintro e w5 ⟨hk5, hr⟩
        rw [hTi' (by trivial), if_pos ⟨rfl, rfl⟩] at hr
        obtain ⟨rfl, _⟩ := hr
        have A5 := hk5.get hA' (by omega)
        have c5 := cell_of A5
        have hb5 := hidE  (hb'.trans (Keeps.below hk5 hb'.size (fun k hk' => by omega)))
        clear hk5 hb' hA' hT' A5 c1 hTi'
        go_wp2
        go_ret
        exact ⟨rfl, hb5.out⟩
end Go.Proofs.Ytebponllpjpbeaa
