/- The walks through package tlb's statements' helpers: made and do. -/
import Derived.Test.YtebponllpjpbeaaTlb
import Derived.Test.YtebponllpjpbeaaRead
namespace Go.Proofs.Ytebponllpjpbeaa
open Go.RowKit

def madeN (x : Int) : Nat := ((x % 18446744073709551616) % 9).toNat + 1
theorem madeN_pos (x : Int) : 0 < madeN x := by unfold madeN; omega
theorem madeN_le (x : Int) : madeN x ≤ 9 := by unfold madeN; omega
theorem madeN_eq (x : Int) : (1 : Int) + (x % 18446744073709551616) % 9 = madeN x := by unfold madeN; omega

def MadePost (w : World) (n : Nat) (e : Ending) (w' : World) : Prop :=
  e = .returned (.tuple #[.pointer (some ⟨w.heap.size + 1, 0, none⟩), .int .i64 n]) ∧ Same w w' ∧ IsTLB w' (w.heap.size + 1) w.heap.size n 0 0 fun _ => blankS

theorem madeN_wrap (x : Int) : wrap64 (1 + wrap64 ((IntKind.u64.wrap x).tmod 9)) = (madeN x : Int) := by
  rw [show IntKind.u64.wrap x = x % 18446744073709551616 from by rw [IntKind.wrap_u64]]
  rw [Int.tmod_eq_emod_of_nonneg (by omega)]
  unfold madeN wrap64; omega
set_option maxHeartbeats 1000000 in
theorem made_any (x : Int) (w : World) : Calls Try.prog 8 #[.int .i64 x] w (MadePost w (madeN x)) := by
  have HW := hidE  (madeN_wrap x)
  have hp := madeN_pos x
  have hl := madeN_le x
  go_enter Try.func8, Try.ntmps8
  go_wp2_with fail
  simp only [HW.out]
  refine (new_any (madeN x) w hp (by omega)).mono ?_
  rintro e w1 ⟨rfl, hk, hT⟩
  go_wp2
  go_ret2
  exact ⟨rfl, hk, hT⟩

/-- What a step of the statements does to the slots. -/
def doT (T : Nat → Slot) (n : Nat) (kind page bits frame : Int) : Nat → Slot :=
  if kind = 0 then upd T (page % n).toNat ⟨true, page, bits, frame⟩ else if kind = 1 then dropT T n page else if kind = 2 then fun _ => blankS else T

set_option maxHeartbeats 1000000 in
theorem do_any (b S n : Nat) (h m kind page bits frame : Int) (T : Nat → Slot) (w : World) (hn : 0 < n) (hn2 : n ≤ 64) (hp : 0 ≤ page) (hp2 : page < 4294967296) (H : IsTLB w b S n h m T) :
    Calls Try.prog 13 #[.pointer (some ⟨b, 0, none⟩), .agg #[.int .i64 kind, .int .u32 page, .int .u32 bits, .int .i64 frame]] w (TlbPost w b S n h m (doT T n kind page bits frame)) := by
  obtain ⟨T', hT'⟩ : ∃ T', T' = doT T n kind page bits frame := ⟨_, rfl⟩
  rw [← hT']
  have H' := fun o => H.keeps ((Keeps.refl (fun _ => False) w).alloc o) id id
  by_cases k0 : kind = 0
  · subst k0
    rw [doT, if_pos rfl] at hT'
    have HT := hidE  hT'
    clear hT'
    go_enter Try.func13, Try.ntmps13
    go_wp2_with (go_at_call 9; refine (put_any b S n h m page bits frame T _ hn hn2 hp hp2 (H' _)).mono ?_; rintro e w1 ⟨rfl, hk, hT⟩)
    go_end0
    rw [HT.out]
    exact ⟨rfl, ((Keeps.refl _ _).alloc _).trans hk, hT⟩
  · by_cases k1 : kind = 1
    · subst k1
      rw [doT, if_neg (by omega), if_pos rfl] at hT'
      have HT := hidE  hT'
      clear hT'
      go_enter Try.func13, Try.ntmps13
      go_wp2_with (go_at_call 19; refine (drop_any b S n h m page T _ hn hn2 hp hp2 (H' _)).mono ?_; rintro e w1 ⟨rfl, hk, hT⟩)
      go_end0
      rw [HT.out]
      exact ⟨rfl, ((Keeps.refl _ _).alloc _).trans hk, hT⟩
    · by_cases k2 : kind = 2
      · subst k2
        rw [doT, if_neg (by omega), if_neg (by omega), if_pos rfl] at hT'
        have HT := hidE  hT'
        clear hT'
        go_enter Try.func13, Try.ntmps13
        go_wp2_with (go_at_call 20; refine (flush_any b S n h m T _ hn (H' _)).mono ?_; rintro e w1 ⟨rfl, hk, hT⟩)
        go_end0
        rw [HT.out]
        exact ⟨rfl, ((Keeps.refl _ _).alloc _).trans hk, hT⟩
      · have e0 : (kind == 0) = false := by simpa using k0
        have e1 : (kind == 1) = false := by simpa using k1
        have e2 : (kind == 2) = false := by simpa using k2
        rw [doT, if_neg k0, if_neg k1, if_neg k2] at hT'
        have HT := hidE  hT'
        clear hT' k0 k1 k2
        go_enter Try.func13, Try.ntmps13
        go_wp2
        go_end0
        rw [HT.out]
        exact ⟨rfl, (Keeps.refl _ _).alloc _, H' _⟩
/-- A step, as it came in. -/
theorem step_open {w : World} {s : Array Value} (h : RdV Try.prog w 24 s.toList) :
    ∃ kind page bits frame, s = #[.int .i64 kind, .int .u32 page, .int .u32 bits, .int .i64 frame] ∧ 0 ≤ page ∧ page < 4294967296 := by
  obtain ⟨hl, hf⟩ := h.struct Try.underlying24
  rw [show Try.prog.cellsOf 24 = 4 from by kernel_rfl] at hl
  obtain ⟨s⟩ := s
  match s, hl with
  | [c0, c1, c2, c3], _ =>
  have e3 : Try.prog.cellsOf 3 = 1 := by kernel_rfl
  have e22 : Try.prog.cellsOf 22 = 1 := by kernel_rfl
  simp [e3, e22] at hf
  obtain ⟨h0, h1, h2, h3⟩ := hf
  obtain ⟨a, ha, _, _⟩ := h0.int Try.underlying3
  obtain ⟨b, hb, b1, b2⟩ := h1.int Try.underlying22
  obtain ⟨c, hc, _, _⟩ := h2.int Try.underlying22
  obtain ⟨d, hd, _, _⟩ := h3.int Try.underlying3
  simp at ha hb hc hd
  subst ha hb hc hd
  simp [IntKind.min, IntKind.max, IntKind.signed, IntKind.bits] at b1 b2
  exact ⟨a, b, c, d, rfl, b1, by omega⟩


/-- A TLB that is not there, or that no call made. -/
def NoTLB (w : World) (v : Value) : Prop := v = .pointer none ∨ ∃ b, v = .pointer (some ⟨b, 0, none⟩) ∧ w.heap[b]? = some (.cells #[.slice none 0 0, .int .i64 0, .int .i64 0] 52 (0, 0))
theorem NoTLB.keeps {F : Nat → Prop} {w w' : World} {v : Value} (h : NoTLB w v) (k : Keeps F w w') (hF : ∀ b, ¬ F b) : NoTLB w' v := by
  rcases h with h | ⟨b, h, hb⟩
  · exact .inl h
  · exact .inr ⟨b, h, k.get hb (hF b)⟩
theorem none_no {w : World} {v : Value} (h : NoTLB w v) :
    Calls Try.prog 15 #[v] w fun e w' => e = .returned (.bool true) ∧ w = w' := by
  rcases h with rfl | ⟨b, rfl, hb⟩
  · exact none_nil w
  · exact none_bare b w (by rw [cell_of hb]; rfl)
set_option maxHeartbeats 1000000 in
theorem put_no {w : World} {v : Value} (h : NoTLB w v) (page bits frame : Int) :
    Calls Try.prog 9 #[v, .int .u32 page, .int .u32 bits, .int .i64 frame] w fun e w' => e = .returned (.tuple #[]) ∧ w = w' := by
  go_enter Try.func9, Try.ntmps9
  go_wp2_with (go_at_call 15; refine (none_no h).mono ?_; rintro e w' ⟨rfl, rfl⟩)
  go_end0
  exact ⟨rfl, rfl⟩
set_option maxHeartbeats 1000000 in
theorem drop_no {w : World} {v : Value} (h : NoTLB w v) (page : Int) :
    Calls Try.prog 19 #[v, .int .u32 page] w fun e w' => e = .returned (.tuple #[]) ∧ w = w' := by
  go_enter Try.func19, Try.ntmps19
  go_wp2_with (go_at_call 15; refine (none_no h).mono ?_; rintro e w' ⟨rfl, rfl⟩)
  (try simp only [Exit.inBlock, Exit.then]); refine bodyPost_ret (results_none rfl _ _ _) rfl ?_
  exact ⟨rfl, rfl⟩
set_option maxHeartbeats 1000000 in
theorem flush_no {w : World} {v : Value} (h : NoTLB w v) :
    Calls Try.prog 20 #[v] w fun e w' => e = .returned (.tuple #[]) ∧ w = w' := by
  go_enter Try.func20, Try.ntmps20
  go_wp2_with (go_at_call 15; refine (none_no h).mono ?_; rintro e w' ⟨rfl, rfl⟩)
  go_end0
  exact ⟨rfl, rfl⟩
set_option maxHeartbeats 1000000 in
theorem look_no {w : World} {v : Value} (h : NoTLB w v) (page : Int) :
    Calls Try.prog 10 #[v, .int .u32 page] w fun e w' => e = .returned (.tuple #[.int .u32 0, .int .i64 0, .bool false]) ∧ w = w' := by
  go_enter Try.func10, Try.ntmps10
  go_wp2_with (go_at_call 15; refine (none_no h).mono ?_; rintro e w' ⟨rfl, rfl⟩)
  go_ret3
  exact ⟨rfl, rfl⟩
set_option maxHeartbeats 1000000 in
theorem counts_no {w : World} {v : Value} (h : NoTLB w v) :
    Calls Try.prog 12 #[v] w fun e w' => e = .returned (.tuple #[.int .i64 0, .int .i64 0]) ∧ w = w' := by
  go_enter Try.func12, Try.ntmps12
  go_wp2_with (go_at_call 15; refine (none_no h).mono ?_; rintro e w' ⟨rfl, rfl⟩)
  go_ret2
  exact ⟨rfl, rfl⟩
set_option maxHeartbeats 1000000 in
theorem do_no {w : World} {v : Value} (h : NoTLB w v) (kind page bits frame : Int) :
    Calls Try.prog 13 #[v, .agg #[.int .i64 kind, .int .u32 page, .int .u32 bits, .int .i64 frame]] w fun e w' => e = .returned (.tuple #[]) ∧ Same w w' := by
  have h' := fun o => h.keeps ((Keeps.refl (fun _ => False) w).alloc o) (fun _ => id)
  by_cases k0 : kind = 0
  · subst k0
    go_enter Try.func13, Try.ntmps13
    go_wp2_with (go_at_call 9; refine (put_no (h' _) _ _ _).mono ?_; rintro e w1 ⟨rfl, rfl⟩)
    go_end0
    exact ⟨rfl, (Keeps.refl _ _).alloc _⟩
  · by_cases k1 : kind = 1
    · subst k1
      go_enter Try.func13, Try.ntmps13
      go_wp2_with (go_at_call 19; refine (drop_no (h' _) _).mono ?_; rintro e w1 ⟨rfl, rfl⟩)
      go_end0
      exact ⟨rfl, (Keeps.refl _ _).alloc _⟩
    · by_cases k2 : kind = 2
      · subst k2
        go_enter Try.func13, Try.ntmps13
        go_wp2_with (go_at_call 20; refine (flush_no (h' _)).mono ?_; rintro e w1 ⟨rfl, rfl⟩)
        go_end0
        exact ⟨rfl, (Keeps.refl _ _).alloc _⟩
      · have e0 : (kind == 0) = false := by simpa using k0
        have e1 : (kind == 1) = false := by simpa using k1
        have e2 : (kind == 2) = false := by simpa using k2
        clear k0 k1 k2
        go_enter Try.func13, Try.ntmps13
        go_wp2
        go_end0
        exact ⟨rfl, (Keeps.refl _ _).alloc _⟩

/-- Steps, as they came in: a slice of them. -/
def IsSteps (w : World) (a : Option Addr) (l : Nat) (X : Nat → Int × Int × Int × Int) : Prop :=
  (l = 0) ∨ ∃ b off, a = some ⟨b, off, none⟩ ∧ b < w.heap.size ∧ ∀ i, i < l → 0 ≤ (X i).2.1 ∧ (X i).2.1 < 4294967296 ∧
    w.cell? ⟨b, off + i * 4, none⟩ = some (.int .i64 (X i).1) ∧ w.cell? ⟨b, off + i * 4 + 1, none⟩ = some (.int .u32 (X i).2.1) ∧ w.cell? ⟨b, off + i * 4 + 2, none⟩ = some (.int .u32 (X i).2.2.1) ∧ w.cell? ⟨b, off + i * 4 + 3, none⟩ = some (.int .i64 (X i).2.2.2)
theorem IsSteps.below {w w' : World} {a : Option Addr} {l : Nat} {X : Nat → Int × Int × Int × Int} (h : IsSteps w a l X) (hb : Below w.heap.size w w') : IsSteps w' a l X := by
  rcases h with h | ⟨b, off, ha, hlt, hc⟩
  · exact .inl h
  · refine .inr ⟨b, off, ha, Nat.lt_of_lt_of_le hlt hb.size, fun i hi => ?_⟩
    obtain ⟨h1, h2, h3, h4, h5, h6⟩ := hc i hi
    exact ⟨h1, h2, by rw [hb.cell hlt, h3], by rw [hb.cell hlt, h4], by rw [hb.cell hlt, h5], by rw [hb.cell hlt, h6]⟩
theorem lt_of_cell {w : World} {p : Addr} {v : Value} (h : w.cell? p = some v) : p.block < w.heap.size := by
  rcases Nat.lt_or_ge p.block w.heap.size with h1 | h1
  · exact h1
  · simp [World.cell?, Array.getElem?_eq_none h1] at h
theorem steps_open {w : World} {a : Option Addr} {l c : Nat} (h : RdV Try.prog w 38 [.slice a l c]) : (∃ X, IsSteps w a l X) ∧ (a = none → l = 0) := by
  rcases h.slice Try.underlying38 with h | ⟨a', l', c', he, h1, h2, h3⟩
  · simp at h
    exact ⟨⟨fun _ => (0, 0, 0, 0), .inl h.2.1⟩, fun _ => h.2.1⟩
  · simp at he
    obtain ⟨rfl, rfl, rfl⟩ := he
    refine ⟨?_, fun h => by cases h⟩
    rw [show Try.prog.cellsOf 24 = 4 from by kernel_rfl] at h3
    by_cases hl : l = 0
    · exact ⟨fun _ => (0, 0, 0, 0), .inl hl⟩
    have hx : ∀ i, ∃ x : Int × Int × Int × Int, i < l → a'.spot = none ∧ 0 ≤ x.2.1 ∧ x.2.1 < 4294967296 ∧ w.cell? ⟨a'.block, a'.off + i * 4, none⟩ = some (.int .i64 x.1) ∧ w.cell? ⟨a'.block, a'.off + i * 4 + 1, none⟩ = some (.int .u32 x.2.1) ∧ w.cell? ⟨a'.block, a'.off + i * 4 + 2, none⟩ = some (.int .u32 x.2.2.1) ∧ w.cell? ⟨a'.block, a'.off + i * 4 + 3, none⟩ = some (.int .i64 x.2.2.2) := by
      intro i
      by_cases hi : i < l
      · obtain ⟨es, e1, e2, e3⟩ := h3 i hi
        obtain ⟨kind, page, bits, frame, hs, p0, p1⟩ := step_open (s := es.toArray) (by simpa using e3)
        have hs' : es = [.int .i64 kind, .int .u32 page, .int .u32 bits, .int .i64 frame] := by simpa using congrArg Array.toList hs
        subst hs'
        refine ⟨(kind, page, bits, frame), fun _ => ⟨(e2 0 (by omega)).1, p0, p1, ?_, ?_, ?_, ?_⟩⟩
        · simpa using (e2 0 (by omega)).2
        · simpa [Nat.add_assoc] using (e2 1 (by omega)).2
        · simpa [Nat.add_assoc] using (e2 2 (by omega)).2
        · simpa [Nat.add_assoc] using (e2 3 (by omega)).2
      · exact ⟨(0, 0, 0, 0), fun h => absurd h hi⟩
    obtain ⟨X, hX⟩ := Classical.skolem.1 hx
    refine ⟨X, .inr ⟨a'.block, a'.off, ?_, ?_, fun i hi => (hX i hi).2⟩⟩
    · have := (hX 0 (by omega)).1
      obtain ⟨b, o, s⟩ := a'
      simp only at this; subst this; rfl
    · exact lt_of_cell (p := ⟨a'.block, a'.off + 0 * 4, none⟩) (hX 0 (by omega)).2.2.2.1
end Go.Proofs.Ytebponllpjpbeaa
