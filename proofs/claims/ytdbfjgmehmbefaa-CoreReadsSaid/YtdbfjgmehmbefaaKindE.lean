/- Package kind: letters. -/
import Derived.Test.YtdbfjgmehmbefaaKindD
import Derived.LoopTactic
namespace Go.Proofs.Ytdbfjgmehmbefaa
open Go.RowKit

/-- Is a letter among them? -/
def hasB (s : ByteArray) (c : Int) : Bool := s.data.toList.any fun b => (b.toNat : Int) == c
/-- It is not among the first k. -/
def NotIn (s : ByteArray) (c : Int) (k : Nat) : Prop := ∀ b ∈ s.data.toList.take k, ((b.toNat : Int) == c) = false
theorem notIn_all {s : ByteArray} {c : Int} (h : NotIn s c s.size) : hasB s c = false := by
  unfold hasB
  rw [List.any_eq_false]
  intro b hb
  have := h b (by rw [List.take_of_length_le (by simp)]; exact hb)
  simp [this]
theorem notIn_next {s : ByteArray} {c : Int} {k : Nat} (h : NotIn s c k) (hk : k < s.size) (hn : ((s[k].toNat : Int) == c) = false) : NotIn s c (k + 1) := by
  intro b hb
  rw [List.take_succ_eq_append_getElem (by simpa using hk)] at hb
  rcases List.mem_append.1 hb with hb | hb
  · exact h b hb
  · simp at hb; subst hb; exact hn
theorem hasB_at {s : ByteArray} {c : Int} {k : Nat} (hk : k < s.size) (hn : ((s[k].toNat : Int) == c) = true) : hasB s c = true := by
  unfold hasB
  rw [List.any_eq_true]
  exact ⟨s[k], List.getElem_mem (by simpa using hk), hn⟩
set_option maxHeartbeats 2000000 in
set_option maxRecDepth 100000 in
theorem has_any (n : Int) (s : ByteArray) (c : Int) (hs : s.size ≤ 1000) (w : World) :
    Calls Try.prog 50 #[.agg #[.int .i64 n, .string s], .int .u8 c] w fun e w' => e = .returned (.bool (hasB s c)) ∧ Same w w' := by
  obtain ⟨B, hB⟩ : ∃ B, hasB s c = B := ⟨_, rfl⟩
  rw [hB]
  have HB := hidE hB
  clear hB
  go_enter Try.func50, Try.ntmps50
  go_wp2
  go_loop [9] (fun i => ∃ k : Nat, k ≤ s.size ∧ i = .int .i64 k ∧ Hid (NotIn s c k)) (fun i => s.size - (intOf i).toNat)
  case atStart => exact ⟨0, Nat.zero_le _, rfl, hidE (fun b hb => by simp at hb)⟩
  case round =>
    obtain ⟨k, hk, rfl, H⟩ := hrel
    by_cases hlt : k < s.size
    · cases hn : ((s[k].toNat : Int) == c)
      · go_wp2
        go_round
        case rel => exact ⟨k + 1, by omega, by go_num, hidE (notIn_next H.out hlt hn)⟩
        case measure => simp [intOf]; omega
      · go_wp2
        go_ret
        refine ⟨by rw [← HB.out, hasB_at hlt hn]; rfl, (Keeps.refl _ _).alloc _⟩
    · obtain rfl : k = s.size := by omega
      go_wp2
      go_ret
      refine ⟨by rw [← HB.out, notIn_all H.out]; rfl, (Keeps.refl _ _).alloc _⟩
theorem kind_size_all : ∀ n : Fin 256, (kindM (n.val : Int)).2.size ≤ 5 := by decide +kernel
theorem kind_size (op : Int) (h0 : 0 ≤ op) (h1 : op < 256) : (kindM op).2.size ≤ 1000 := by
  obtain ⟨n, rfl⟩ := Int.eq_ofNat_of_zero_le h0
  have := kind_size_all ⟨n, by omega⟩
  simp only at this
  exact Nat.le_trans this (by decide)
set_option maxRecDepth 100000 in
theorem turns_ok (w : World) (tb : Nat) (op : Int) (h0 : 0 ≤ op) (h1 : op < 256) (ht : TabOk w tb) :
    Calls Try.prog 23 #[.pointer (some ⟨tb, 0, none⟩), .int .u8 op] w fun e w' => e = .returned (.bool (hasB (kindM op).2 102)) ∧ Keeps (fun k => k = tb) w w' ∧ TabHas w' tb := by
  have HO := hidE (of_ok w tb op h0 h1 ht)
  have HS := hidE (has_any (kindM op).1 (kindM op).2 102 (kind_size op h0 h1))
  clear ht
  generalize kindM op = x at *
  obtain ⟨x1, x2⟩ := x
  simp only [knV] at *
  go_enter Try.func23, Try.ntmps23
  go_wp2_with fail
  refine HO.out.mono ?_
  rintro e w1 ⟨rfl, hk, ht⟩
  have HK := hidE hk
  have HT := hidE ht
  clear hk ht
  go_wp2_with fail
  refine (HS.out _).mono ?_
  rintro e w2 ⟨rfl, hk⟩
  have HK2 := hidE hk
  clear hk
  go_wp2
  go_ret
  exact ⟨rfl, HK.out.trans (HK2.out.mono fun _ _ h => h.elim), HT.out.keeps (F := fun _ => False) HK2.out (fun _ => id)⟩
set_option maxRecDepth 100000 in
theorem fails_ok (w : World) (tb : Nat) (op : Int) (h0 : 0 ≤ op) (h1 : op < 256) (ht : TabOk w tb) :
    Calls Try.prog 21 #[.pointer (some ⟨tb, 0, none⟩), .int .u8 op] w fun e w' => e = .returned (.bool (hasB (kindM op).2 120)) ∧ Keeps (fun k => k = tb) w w' ∧ TabHas w' tb := by
  have HO := hidE (of_ok w tb op h0 h1 ht)
  have HS := hidE (has_any (kindM op).1 (kindM op).2 120 (kind_size op h0 h1))
  clear ht
  generalize kindM op = x at *
  obtain ⟨x1, x2⟩ := x
  simp only [knV] at *
  go_enter Try.func21, Try.ntmps21
  go_wp2_with fail
  refine HO.out.mono ?_
  rintro e w1 ⟨rfl, hk, ht⟩
  have HK := hidE hk
  have HT := hidE ht
  clear hk ht
  go_wp2_with fail
  refine (HS.out _).mono ?_
  rintro e w2 ⟨rfl, hk⟩
  have HK2 := hidE hk
  clear hk
  go_wp2
  go_ret
  exact ⟨rfl, HK.out.trans (HK2.out.mono fun _ _ h => h.elim), HT.out.keeps (F := fun _ => False) HK2.out (fun _ => id)⟩
end Go.Proofs.Ytdbfjgmehmbefaa
