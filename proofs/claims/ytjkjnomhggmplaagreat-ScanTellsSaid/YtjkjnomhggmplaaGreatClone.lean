/- slices.Clone at []uint32; rows of unlike types lie apart. -/
import Derived.Test.YtjkjnomhggmplaaGreatPutU
import Derived.Test.YtjkjnomhggmplaaGreatPutI
namespace Go.Proofs.YtjkjnomhggmplaaGreat
open Go.RowKit

theorem owns_apart {w : World} {B B' : Nat} {e e' : TypeId} {s s' n n' : Nat} {v v' : Value} {xs xs' : List Value} (h : w.ownsRow B e s v n xs) (h' : w.ownsRow B' e' s' v' n' xs') (he : e ≠ e') : ∀ k, some k = v.ownBlock → some k ≠ v'.ownBlock := by
  intro k hk hk'
  obtain ⟨-, ⟨rfl, -⟩ | ⟨g, cap, cur, rfl, -, hg, -⟩⟩ := h
  · simp [Value.ownBlock] at hk
  obtain ⟨-, ⟨rfl, -⟩ | ⟨g', cap', cur', rfl, -, hg', -⟩⟩ := h'
  · simp [Value.ownBlock] at hk'
  simp only [Value.ownBlock, Option.some.injEq] at hk hk'
  subst hk
  subst hk'
  rw [hg] at hg'
  cases hg'
  exact he rfl
theorem owns_sl {w : World} {B : Nat} {e : TypeId} {s n : Nat} {v : Value} {xs : List Value} (h : w.ownsRow B e s v n xs) : ∃ p c, v = .slice p n c := by
  obtain ⟨-, ⟨rfl, rfl⟩ | ⟨g, cap, cur, rfl, -⟩⟩ := h
  · exact ⟨none, 0, rfl⟩
  · exact ⟨_, _, rfl⟩
theorem owns_lt {w : World} {B : Nat} {e : TypeId} {s n : Nat} {v : Value} {xs : List Value} (h : w.ownsRow B e s v n xs) : ∀ k, some k = v.ownBlock → B ≤ k ∧ k < w.heap.size := by
  intro k hk
  obtain ⟨-, ⟨rfl, -⟩ | ⟨g, cap, cur, rfl, hB, hg, -⟩⟩ := h
  · simp [Value.ownBlock] at hk
  · simp only [Value.ownBlock, Option.some.injEq] at hk
    subst hk
    exact ⟨hB, lt_of_block hg⟩
/-- A row stays, where what turns is not its block. -/
theorem owns_stay {F : Nat → Prop} {w w' : World} {B : Nat} {e : TypeId} {s n : Nat} {v : Value} {xs : List Value} (h : w.ownsRow B e s v n xs) (k : Keeps F w w') (hF : ∀ g, some g = v.ownBlock → ¬ F g) : w'.ownsRow B e s v n xs := by
  obtain ⟨h1, h2⟩ := h
  refine ⟨h1, ?_⟩
  rcases h2 with h2 | ⟨g, cap, cur, hv, hg, hh, r⟩
  · exact .inl h2
  · exact .inr ⟨g, cap, cur, hv, hg, k.get hh (hF g (by rw [hv]; rfl)), r⟩
theorem owns_base {w : World} {B B' : Nat} {e : TypeId} {s n : Nat} {v : Value} {xs : List Value} (h : w.ownsRow B e s v n xs) (hB : ∀ k, some k = v.ownBlock → B' ≤ k) : w.ownsRow B' e s v n xs := by
  obtain ⟨h1, h2⟩ := h
  refine ⟨h1, ?_⟩
  rcases h2 with h2 | ⟨g, cap, cur, hv, hg, r⟩
  · exact .inl h2
  · exact .inr ⟨g, cap, cur, hv, hB g (by rw [hv]; rfl), r⟩
theorem eql_nil0 (w : World) : (binOp .eql 37 (.slice none 0 0) (.slice none 0 0)).run Tryz.prog w = .ok (.bool true) w := by kernel_rfl
theorem eql_nil1 (a : Addr) (n c : Nat) (w : World) : (binOp .eql 37 (.slice (some a) n c) (.slice none 0 0)).run Tryz.prog w = .ok (.bool false) w := by kernel_rfl
set_option maxRecDepth 100000 in
set_option maxHeartbeats 4000000 in
theorem cloneU (w : World) (B : Nat) (v : Value) (xs : List Int) (h : rowU w B v xs) (h0 : xs = [] → v = .slice none 0 0) (hl : xs.length ≤ 10000) :
    Calls Tryz.prog 23 #[v] w fun e w' => ∃ v', e = .returned v' ∧ rowU w' w.heap.size v' xs ∧ Same w w' ∧ (xs = [] → v' = .slice none 0 0) := by
  by_cases hx : xs = []
  · obtain rfl := h0 hx
    subst hx
    clear h h0
    have e1 := eql_nil0
    go_enter Tryz.func23, Tryz.ntmps23
    go_wp2
    go_ret
    exact ⟨_, rfl, World.ownsRow_nil _ _ _ _, Keeps.refl _ _, fun _ => rfl⟩
  · have hpos : 0 < xs.length := List.length_pos_iff.2 hx
    obtain ⟨g, cap, rfl, hc1, hc2, -, hgl, hc⟩ := rowU_get h hpos
    have hnews : ∀ j u, (xs.map (Value.int .u32))[j]? = some u → w.cell? ((⟨g, 0, none⟩ : Addr).add j) = some u := fun j u hj => by
      have hjl : j < xs.length := by
        rcases Nat.lt_or_ge j xs.length with h | h
        · exact h
        · rw [List.getElem?_eq_none (by simpa using h)] at hj; cases hj
      rw [Addr.add_lit, Nat.zero_add, hc j hjl, ← hj]; simp [hjl]
    have HC := hidE hnews
    clear h h0 hc hnews
    obtain ⟨i0, hi, hz0, hz1, hz2⟩ := infoS_of infoU
    have HI := hidE (And.intro hi (And.intro hz0 (And.intro hz1 hz2)))
    clear hi hz0 hz1 hz2
    obtain ⟨n, hn⟩ : ∃ n, n = xs.length := ⟨_, rfl⟩
    rw [← hn] at hl hpos hc1 ⊢
    have HN := hidE hn
    clear hn
    have e1 := eql_nil1
    go_enter Tryz.func23, Tryz.ntmps23
    have hown : (w.alloc (.cells #[] 25)).ownsRow w.heap.size 25 1 (.slice (some ⟨w.heap.size, 0, none⟩) 0 0) 0 [] :=
      ⟨rfl, .inr ⟨w.heap.size, 0, #[], rfl, Nat.le_refl _, block_new _ _, Nat.le_refl _, Nat.zero_le _, rfl, rfl⟩⟩
    have g1 : (xs.map (Value.int .u32)).length = n * 1 := by rw [List.length_map, ← HN.out, Nat.mul_one]
    have g2 : ∀ u ∈ xs.map (Value.int .u32), u.oneCell' = true := by
      intro u hu
      obtain ⟨a, -, rfl⟩ := List.mem_map.1 hu
      rfl
    have g3 : 0 + n ≤ maxLen := by unfold maxLen; omega
    have g4 : (0 + n) * 4 ≤ 140737488355328 := by omega
    have g5 : w.heap.size ≤ (w.alloc (.cells #[] 25)).heap.size := by simp
    have g6 : ∀ j u, (xs.map (Value.int .u32))[j]? = some u → (w.alloc (.cells #[] 25)).cell? ((⟨g, 0, none⟩ : Addr).add j) = some u := fun j u hj => by
      have q := HC.out j u hj
      rw [Addr.add_lit] at q ⊢
      exact (World.cell?_alloc_past _ g _ hgl).trans q
    have HO := hidE (And.intro hown (And.intro g1 (And.intro g2 (And.intro g3 (And.intro g4 (And.intro g5 g6))))))
    clear hown g1 g2 g3 g4 g5 g6
    go_wp2_with (at_builtin; go_loud (refine wpList_append_lies _ rfl (.tmp 5) (.tmp 6) 37 rfl w.heap.size 25 i0 _ 1 4 Tryz.underlying37 HI.out.1 HI.out.2.1 HI.out.2.2.1 HI.out.2.2.2 rfl (by decide) _ 0 [] rfl HO.out.1 ⟨g, 0, none⟩ n cap (xs.map (Value.int .u32)) rfl HO.out.2.1 HO.out.2.2.2.2.2.2 HO.out.2.2.1 hpos HO.out.2.2.2.1 HO.out.2.2.2.2.1 HO.out.2.2.2.2.2.1 _ rfl ?_; intro g1 cap1 w1 h1 h2 h3 h4; have H1 := hidE h1; have H2 := hidE h2; have H3 := hidE h3; clear h1 h2 h3))
    go_ret
    refine ⟨_, rfl, ?_, ?_, fun e => absurd e hx⟩
    · have h := H1.out
      simp only [Nat.zero_add, List.nil_append] at h
      unfold rowU
      rw [← HN.out]
      exact h
    · refine same_then ((Keeps.refl _ _).alloc _) (keeps_grown H2.out (F := fun k => k = w.heap.size) fun k hk => ?_) (fun k hk => by omega)
      have hk : some w.heap.size = some k := hk
      simp only [Option.some.injEq] at hk
      exact hk.symm
end Go.Proofs.YtjkjnomhggmplaaGreat
