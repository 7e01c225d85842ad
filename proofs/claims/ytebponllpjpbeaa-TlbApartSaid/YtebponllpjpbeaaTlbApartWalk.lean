/- The walk of the statement TlbApart: it answers true, and turns nothing that was there. -/
import Derived.Test.YtebponllpjpbeaaTlbB
namespace Go.Proofs.Ytebponllpjpbeaa
open Go.RowKit

set_option maxHeartbeats 1000000 in
theorem tlbApart_walk (w : World) (x0 : Int) (_ : RdV Try.prog w 3 [.int .i64 x0]) (s1 : Array Value) (h1 : RdV Try.prog w 24 s1.toList) (s2 : Array Value) (h2 : RdV Try.prog w 24 s2.toList) :
    Calls Try.prog 3 #[.int .i64 x0, .agg s1, .agg s2] w fun e w' => e = .returned (.bool true) ∧ Below w.heap.size w w' := by
  obtain ⟨k1, p1, b1, f1, rfl, p10, p11⟩ := step_open h1
  obtain ⟨k2, p2, b2, f2, rfl, p20, p21⟩ := step_open h2
  clear h1 h2
  have hn := madeN_pos x0
  have hn2 : madeN x0 ≤ 64 := by have := madeN_le x0; omega
  generalize hm : madeN x0 = n at hn hn2
  have HM := hidE  hm
  clear hm
  go_enter Try.func3, Try.ntmps3
  go_wp2_with fail
  refine (made_any x0 _).mono ?_
  rw [HM.out]
  rintro e w1 ⟨rfl, hk, hT⟩
  simp only [World.size_alloc] at hT
  have A1 := hk.get (block_old _ (block_new w _)) id
  have A2 := hk.get (block_new (w.alloc _) _) id
  rw [World.size_alloc] at A2
  have c1 := cell_of A1
  have c2 := cell_of A2
  go_wp2_with fail
  refine (put_any _ _ n 0 0 p1 b1 f1 _ _ hn hn2 p10 p11 hT).mono ?_
  rintro e w2 ⟨rfl, hk2, hT2⟩
  have A1' := hk2.get A1 (by omega)
  have A2' := hk2.get A2 (by omega)
  clear A1 A2 c1 c2
  have c1 := cell_of A1'
  have c2 := cell_of A2'
  go_wp2_with fail
  refine (put_any _ _ n 0 0 p2 b2 f2 _ _ hn hn2 p20 p21 hT2).mono ?_
  rintro e w3 ⟨rfl, hk3, hT3⟩
  have A1 := hk3.get A1' (by omega)
  have A2 := hk3.get A2' (by omega)
  clear A1' A2' c1 c2
  have c1 := cell_of A1
  have c2 := cell_of A2
  go_wp2_with fail
  refine (look_any _ _ n 0 0 p2 _ _ hn hn2 p20 p21 (by omega) (by omega) (by omega) (by omega) hT3).mono ?_
  rintro e w4 ⟨hk4, hr⟩
  rw [if_pos (by simp [upd])] at hr
  obtain ⟨rfl, hT4⟩ := hr
  have A1' := hk4.get A1 (by omega)
  have A2' := hk4.get A2 (by omega)
  clear A1 A2 c1 c2
  have c1 := cell_of A1'
  have c2 := cell_of A2'
  have u1 : (upd (upd (fun _ => blankS) (p1 % n).toNat ⟨true, p1, b1, f1⟩) (p2 % n).toNat ⟨true, p2, b2, f2⟩ (p2 % n).toNat).bits = b2 := by simp [upd]
  have u2 : (upd (upd (fun _ => blankS) (p1 % n).toNat ⟨true, p1, b1, f1⟩) (p2 % n).toNat ⟨true, p2, b2, f2⟩ (p2 % n).toNat).frame = f2 := by simp [upd]
  rw [u1, u2]
  clear u1 u2
  go_wp2_with fail
  refine (look_any _ _ n 1 0 p1 _ _ hn hn2 p10 p11 (by omega) (by omega) (by omega) (by omega) hT4).mono ?_
  rintro e w5 ⟨hk5, hr⟩
  have A1 := hk5.get A1' (by omega)
  have A2 := hk5.get A2' (by omega)
  clear A1' A2' c1 c2
  have c1 := cell_of A1
  have c2 := cell_of A2
  have hb : Below w.heap.size w w5 := by
    have := hk.size
    have := hk2.size
    have := hk3.size
    have := hk4.size
    simp only [World.size_alloc] at *
    exact (((((Below.refl _ w).alloc (Nat.le_refl _) _).alloc (by simp) _).trans (Keeps.below hk (by simp; omega) (fun _ _ => id))).trans (Keeps.below hk2 (by omega) (fun k hk' => by omega))).trans ((Keeps.below hk3 (by omega) (fun k hk' => by omega)).trans ((Keeps.below hk4 (by omega) (fun k hk' => by omega)).trans (Keeps.below hk5 (by omega) (fun k hk' => by omega))))
  have q1 : 0 ≤ p1 % n := Int.emod_nonneg _ (by omega)
  have q2 : 0 ≤ p2 % n := Int.emod_nonneg _ (by omega)
  have hnz : ((n : Int) == 0) = false := by simp; omega
  have HB := hidE  hb
  clear hb hk hk2 hk3 hk4 hk5 hT hT2 hT3 hT4 A1 A2
  have l1 : p1 % n < n := Int.emod_lt_of_pos _ (by omega)
  have l2 : p2 % n < n := Int.emod_lt_of_pos _ (by omega)
  have w1 := wrapI p1 (by omega) (by omega)
  have w2 := wrapI p2 (by omega) (by omega)
  have t1 : p1.tmod n = p1 % n := Int.tmod_eq_emod_of_nonneg p10
  have t2 : p2.tmod n = p2 % n := Int.tmod_eq_emod_of_nonneg p20
  have wt1 := wrapI (p1 % n) (by omega) (by omega)
  have wt2 := wrapI (p2 % n) (by omega) (by omega)
  by_cases e : p1 % n = p2 % n
  · by_cases e2 : p1 = p2
    · subst e2
      rw [if_pos (by simp [upd])] at hr
      obtain ⟨rfl, _⟩ := hr
      go_wp2
      go_quiet (fail)
      go_wp2
      go_ret
      exact ⟨rfl, below_drewN HB.out _⟩
    · rw [if_neg (by rw [e]; simp [upd]; omega)] at hr
      obtain ⟨rfl, _⟩ := hr
      have e3 : (p1 == p2) = false := by simpa using e2
      have e4 : (p1 % n == p2 % n) = true := by simpa using e
      have e5 : (p1 % n != p2 % n) = false := by simpa using e
      clear e e2
      go_wp2
      go_quiet (fail)
      go_wp2
      go_ret
      exact ⟨rfl, below_drewN HB.out _⟩
  · have e1 : ¬ (p1 % n).toNat = (p2 % n).toNat := by omega
    rw [show (upd (upd (fun _ => blankS) (p1 % n).toNat ⟨true, p1, b1, f1⟩) (p2 % n).toNat ⟨true, p2, b2, f2⟩ (p1 % n).toNat) = ⟨true, p1, b1, f1⟩ from by simp [upd, e1]] at hr
    rw [if_pos (by simp)] at hr
    obtain ⟨rfl, _⟩ := hr
    have e5 : (p1 % n != p2 % n) = true := by simpa using e
    clear e e1
    go_wp2
    go_quiet (fail)
    go_wp2
    go_ret
    exact ⟨rfl, below_drewN HB.out _⟩
end Go.Proofs.Ytebponllpjpbeaa
