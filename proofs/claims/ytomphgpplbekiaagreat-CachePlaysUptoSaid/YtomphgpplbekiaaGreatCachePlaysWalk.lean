/- The document's Has; plain: the frames of a cache rise, and are those of the live blocks; counting. The walk of the statement CachePlays. -/
import Derived.Test.YtomphgpplbekiaaGreatPa
import Derived.Test.YtomphgpplbekiaaGreatFr
namespace Go.Proofs.YtomphgpplbekiaaGreat
open Go.RowKit
attribute [local go_sem ↓] Go.wp_at_zero Go.wp_at_succ
def hasL (l : List Fb) (x : Int) : Bool := l.any fun y => y.1.live && hasI y.1.frs x
theorem any_take {α : Type} {p : α → Bool} {l : List α} {k : Nat} {x : α} (h : l[k]? = some x) : (l.take (k + 1)).any p = ((l.take k).any p || p x) := by
  rw [List.take_add_one, h, List.any_append]
  simp
section
variable {w w' : World} {N rb : Nat} {Vb : Value} {l : List Fb} {sz : Int}
set_option maxRecDepth 100000 in
set_option maxHeartbeats 2000000 in
theorem rf_has (h : IsRef w N rb Vb l sz) (hll : l.length ≤ 10000) (f : Int) :
    Calls Tryz.prog 35 #[.pointer (some ⟨rb, 0, none⟩), .int .i64 f] w fun e w' => e = .returned (.bool (hasL l f)) ∧ Same w w' := by
  obtain ⟨p, c, ebl⟩ := h.sl
  have hmax : maxLen = 9223372036854775807 := rfl
  have HH := hidE h
  have d0 := h.c 0
  simp only [refA, ebl] at d0
  clear h
  go_enter Tryz.func35, Tryz.ntmps35
  go_wp2_with fail
  go_loopw [5] (fun t5 wr => ∃ n : Nat, n ≤ l.length ∧ t5 = .int .i64 (n : Int) ∧ hasL (l.take n) f = false ∧ w = wr) (fun t5 _ => (l.length - intOf t5).toNat)
  case atStart => exact ⟨0, by omega, rfl, by simp [hasL], rfl⟩
  case round =>
    obtain ⟨n, hn, rfl, hno, rfl⟩ := hrel
    by_cases hlt : n < l.length
    · have q0 : decide ((n : Int) < (l.length : Int)) = true := decide_eq_true (by omega)
      have q1 : (n : Int) < (l.length : Int) := by omega
      have q3 : (0 : Int) ≤ (n : Int) := by omega
      have e1 := wrapI ((n : Int) + 1) (by omega) (by omega)
      obtain ⟨x, hx⟩ : ∃ x, l[n]? = some x := ⟨_, List.getElem?_eq_getElem hlt⟩
      obtain ⟨g, cap, e, n1, n2, hc⟩ := HH.out.bk hx
      rw [ebl] at e
      cases e
      have a5 := hc 5 _ rfl
      have a7 := hc 7 _ rfl
      obtain ⟨fa, fc, efv, f1, f2, f3⟩ := (HH.out.fb x (List.mem_of_getElem? hx)).f
      rw [efv] at a5
      have hstep := any_take (p := fun y : Fb => y.1.live && hasI y.1.frs f) hx
      have HSTEP := hidE hstep
      have HNO := hidE hno
      have HX := hidE hx
      clear hc hstep hno hx
      go_wp2_with fail
      go_loopw [6] (fun t6 wr2 => ∃ j : Nat, j ≤ x.1.frs.length ∧ t6 = .int .i64 (j : Int) ∧ (x.1.live && hasI (x.1.frs.take j) f) = false ∧ w = wr2) (fun t6 _ => (x.1.frs.length - intOf t6).toNat)
      case atStart => exact ⟨0, by omega, rfl, by simp [hasI], rfl⟩
      case round =>
        obtain ⟨j, hj, rfl, hnj, rfl⟩ := hrel
        by_cases hlt2 : j < x.1.frs.length
        · have p0 : decide ((j : Int) < (x.1.frs.length : Int)) = true := decide_eq_true (by omega)
          have p1 : (j : Int) < (x.1.frs.length : Int) := by omega
          have p3 : (0 : Int) ≤ (j : Int) := by omega
          have e2 := wrapI ((j : Int) + 1) (by omega) (by omega)
          obtain ⟨y, hy⟩ : ∃ y, x.1.frs[j]? = some y := ⟨_, List.getElem?_eq_getElem hlt2⟩
          rcases f3 with f3 | ⟨S, o, rfl, hS, hcell⟩
          · rw [f3] at hlt2; simp at hlt2
          have hcy := hcell j y hy
          have HN := hidE (any_take_succ (x := f) hy)
          have HY := hidE hy
          clear hcell hy
          cases hl : x.1.live with
          | false =>
            rw [hl] at a7
            go_wp2_with fail
            exact ⟨⟨j + 1, by omega, by simp, by simp, trivial⟩, by simp only [intOf]; omega⟩
          | true =>
            rw [hl] at a7 hnj
            simp only [Bool.true_and] at hnj
            by_cases hy2 : y = f
            · subst hy2
              have s1 : (y == y) = true := by simp
              go_wp2
              go_ret
              have hl2 := hl
              have : hasL l y = true := by
                unfold hasL
                rw [List.any_eq_true]
                exact ⟨x, List.mem_of_getElem? HX.out, by rw [hl2, hasI_at HY.out]; rfl⟩
              rw [this]
              exact ⟨rfl, Keeps.refl _ _⟩
            · have s1 : (y == f) = false := beq_eq_false_iff_ne.2 hy2
              have hnext : (true && hasI (x.1.frs.take (j + 1)) f) = false := by rw [HN.out, hnj, s1]; rfl
              clear hnj
              go_wp2_with fail
              exact ⟨⟨j + 1, by omega, by simp, hnext, trivial⟩, by simp only [intOf]; omega⟩
        · obtain rfl : j = x.1.frs.length := by omega
          have p0 : decide ((x.1.frs.length : Int) < (x.1.frs.length : Int)) = false := by simp
          rw [List.take_length] at hnj
          have HNX : Hid (hasL (l.take (n + 1)) f = false) := hidE (by
            have h1 := HNO.out
            unfold hasL at h1 ⊢
            rw [HSTEP.out, h1, hnj]; rfl)
          clear hnj
          go_wp2_with fail
          exact ⟨⟨n + 1, by omega, by simp, HNX.out, trivial⟩, by simp only [intOf]; omega⟩
    · obtain rfl : n = l.length := by omega
      have q0 : decide ((l.length : Int) < (l.length : Int)) = false := by simp
      rw [List.take_length] at hno
      have HNO := hidE hno
      clear hno
      go_wp2
      go_ret
      rw [HNO.out]
      exact ⟨rfl, Keeps.refl _ _⟩
end
theorem hasL_pl {l l' : List Fb} (he : pl l = pl l') (x : Int) : hasL l x = hasL l' x := by
  have h : ∀ l : List Fb, hasL l x = (pl l).any fun y => y.live && hasI y.frs x := fun l => by simp [hasL, pl, List.any_map, Function.comp_def]
  rw [h l, h l', he]
theorem compact_mem {zs : List Int} {x : Int} (h : x ∈ zs) : x ∈ Lib.compact zs := by
  have hex : ∃ j, j < zs.length ∧ zs[j]? = some x := by
    obtain ⟨j, hj, e⟩ := List.getElem_of_mem h
    exact ⟨j, hj, by rw [List.getElem?_eq_getElem hj, e]⟩
  have hmin : ∀ n : Nat, (∃ j, j < n ∧ j < zs.length ∧ zs[j]? = some x) → ∃ j, j < zs.length ∧ zs[j]? = some x ∧ ∀ i, i < j → zs[i]? ≠ some x := fun n => by
    induction n with
    | zero => rintro ⟨j, hj, -⟩; omega
    | succ n ih =>
      rintro ⟨j, hj, h1, h2⟩
      by_cases hlt : ∃ j, j < n ∧ j < zs.length ∧ zs[j]? = some x
      · exact ih hlt
      · exact ⟨j, h1, h2, fun i hi e => hlt ⟨i, by omega, by omega, e⟩⟩
  obtain ⟨j0, hj0, he0⟩ := hex
  obtain ⟨j, hj, he, hn⟩ := hmin zs.length ⟨j0, hj0, hj0, he0⟩
  unfold Lib.compact Lib.compactUpTo
  refine List.mem_map.2 ⟨j, List.mem_filter.2 ⟨by simpa using hj, ?_⟩, ?_⟩
  · unfold Lib.keeps
    rw [decide_eq_true_eq]
    by_cases h0 : j = 0
    · exact .inl h0
    · refine .inr fun e => ?_
      have h1 := hn (j - 1) (by omega)
      apply h1
      have hj1 : j - 1 < zs.length := by omega
      simp [hj, hj1] at e
      rw [List.getElem?_eq_getElem hj1, ← e]
      rw [List.getElem?_eq_getElem hj] at he
      exact he
  · rw [List.getElem?_eq_getElem hj] at he
    simpa [hj] using he
theorem sorted_at {zs : List Int} (h : zs.Pairwise (fun a b => a ≤ b)) {i j : Nat} (hij : i ≤ j) (hj : j < zs.length) : zs[i]'(by omega) ≤ zs[j] := by
  rcases Nat.lt_or_eq_of_le hij with h1 | h1
  · exact List.pairwise_iff_getElem.1 h i j (by omega) hj h1
  · subst h1; exact Int.le_refl _
theorem compact_rise {zs : List Int} (h : zs.Pairwise (fun a b => a ≤ b)) : (Lib.compact zs).Pairwise (fun a b => a < b) := by
  unfold Lib.compact Lib.compactUpTo
  rw [List.pairwise_map]
  have hr : ((List.range zs.length).filter (Lib.keeps zs.toArray)).Pairwise (fun a b => a < b) := List.Pairwise.filter _ List.pairwise_lt_range
  refine List.Pairwise.imp_of_mem (fun {i j} hi hj hij => ?_) hr
  obtain ⟨hi1, -⟩ := List.mem_filter.1 hi
  obtain ⟨hj1, hj2⟩ := List.mem_filter.1 hj
  simp at hi1 hj1
  unfold Lib.keeps at hj2
  rw [decide_eq_true_eq] at hj2
  rcases hj2 with hj2 | hj2
  · omega
  · have h1 : j - 1 < zs.length := by omega
    have h2 := sorted_at h (show i ≤ j - 1 by omega) h1
    have h3 := sorted_at h (show j - 1 ≤ j by omega) hj1
    simp [hj1, h1] at hj2
    simp [hi1, hj1]
    omega
theorem sortedL_sorted (zs : List Int) : (sortedL zs).Pairwise (fun a b => a ≤ b) := by
  have h := List.pairwise_mergeSort (le := fun (x y : Int) => decide (x ≤ y)) (fun a b c h1 h2 => by simp at *; omega) (fun a b => by simp; omega) zs
  exact h.imp fun h => by simpa using h
theorem framesV_rise (l : List Fb) : (framesV l).Pairwise (fun a b => a < b) := compact_rise (sortedL_sorted _)
theorem framesV_mem (l : List Fb) (x : Int) : x ∈ framesV l ↔ hasL l x = true := by
  constructor
  · intro h
    have h1 := (sortedL_mem _ _).1 (compact_sub h)
    unfold frsL at h1
    obtain ⟨j, hj, hx⟩ := List.mem_flatMap.1 h1
    obtain ⟨hj1, hj2⟩ : j < l.length ∧ liveAt l j = true := by simpa [liveIdx] using hj
    obtain ⟨y, hy⟩ : ∃ y, l[j]? = some y := ⟨_, List.getElem?_eq_getElem hj1⟩
    have hl : y.1.live = true := by simpa [liveAt, hy] using hj2
    have hx : x ∈ y.1.frs := by simpa [frsAt, hy] using hx
    unfold hasL
    rw [List.any_eq_true]
    refine ⟨y, List.mem_of_getElem? hy, ?_⟩
    rw [hl]
    unfold hasI
    simp only [Bool.true_and, List.any_eq_true]
    exact ⟨x, hx, by simp⟩
  · intro h
    unfold hasL at h
    rw [List.any_eq_true] at h
    obtain ⟨y, hy, h1⟩ := h
    simp only [Bool.and_eq_true] at h1
    obtain ⟨j, hj, rfl⟩ := List.getElem_of_mem hy
    have h2 := h1.2
    unfold hasI at h2
    rw [List.any_eq_true] at h2
    obtain ⟨z, hz, hzx⟩ := h2
    have : z = x := by simpa using hzx
    subst this
    refine compact_mem ((sortedL_mem _ _).2 ?_)
    unfold frsL
    refine List.mem_flatMap.2 ⟨j, ?_, ?_⟩
    · simp [liveIdx, hj, liveAt, h1.1]
    · simp [frsAt, hj, hz]
theorem filter_or {r : List Nat} {p q : Nat → Bool} (h : ∀ i ∈ r, ¬ (p i = true ∧ q i = true)) : (r.filter fun i => p i || q i).length = (r.filter p).length + (r.filter q).length := by
  induction r with
  | nil => rfl
  | cons a r ih =>
    have h1 := h a (by simp)
    have h2 := ih fun i hi => h i (by simp [hi])
    simp only [List.filter_cons]
    cases hp : p a <;> cases hq : q a <;> simp [hp, hq] at h1 ⊢ <;> omega
theorem filter_one (m : Nat) : ∀ n : Nat, ((List.range n).filter fun i => decide (i = m)).length = if m < n then 1 else 0
  | 0 => rfl
  | n + 1 => by
    rw [List.range_succ, List.filter_append, List.length_append, filter_one m n]
    by_cases h1 : n = m
    · subst h1; simp
    · simp [h1]
      by_cases h2 : m < n
      · rw [if_pos h2, if_pos (by omega)]
      · rw [if_neg h2, if_neg (by omega)]
def inR (y : Int) : Bool := decide (-3 ≤ y) && decide (y < 70)
theorem count_range : ∀ {L : List Int}, L.Pairwise (fun a b => a < b) → ((List.range 73).filter fun (i : Nat) => decide ((-3 + (i : Int)) ∈ L)).length = (L.filter inR).length
  | [], _ => by simp
  | a :: L, h => by
    obtain ⟨h1, h2⟩ := List.pairwise_cons.1 h
    have ih := count_range h2
    have e1 : ((List.range 73).filter fun (i : Nat) => decide ((-3 + (i : Int)) ∈ a :: L)) = (List.range 73).filter fun (i : Nat) => decide ((-3 + (i : Int)) = a) || decide ((-3 + (i : Int)) ∈ L) := by
      congr 1
      funext i
      simp
    rw [e1, filter_or fun i _ hc => by
      simp only [decide_eq_true_eq] at hc
      have := h1 _ hc.2
      omega, ih]
    simp only [List.filter_cons]
    by_cases hr : -3 ≤ a ∧ a < 70
    · have hin : inR a = true := by simp [inR, hr.1, hr.2]
      rw [if_pos hin]
      have e2 : ((List.range 73).filter fun (i : Nat) => decide ((-3 + (i : Int)) = a)) = (List.range 73).filter fun i => decide (i = (a + 3).toNat) := by
        congr 1
        funext i
        congr 1
        exact propext ⟨fun h => by omega, fun h => by omega⟩
      rw [e2, filter_one, if_pos (by omega)]
      simp only [List.length_cons]
      omega
    · have hin : inR a = false := by
        unfold inR
        by_cases h3 : -3 ≤ a
        · rw [decide_eq_false (show ¬ a < 70 by omega)]; simp
        · rw [decide_eq_false h3]; rfl
      rw [hin]
      have e2 : ((List.range 73).filter fun (i : Nat) => decide ((-3 + (i : Int)) = a)) = [] := by
        rw [List.filter_eq_nil_iff]
        intro i hi
        simp at hi ⊢
        omega
      rw [e2]
      simp
end Go.Proofs.YtomphgpplbekiaaGreat
namespace Go.Proofs.YtomphgpplbekiaaGreat
open Go.RowKit
attribute [local go_sem ↓] Go.wp_at_zero Go.wp_at_succ
def LoopR (w0 wr : World) (cb rb : Nat) (R : RamAt) (B k : Nat) (hi mi : Int) : Prop := ∃ M V Vb l l', Pair wr w0.heap.size cb rb R M V Vb l l' hi mi ∧ l.length ≤ k ∧ FrB B (pl l)
def cntH (l : List Fb) (i : Nat) : Nat := ((List.range i).filter fun (n : Nat) => hasL l (-3 + (n : Int))).length
theorem cntH_succ (l : List Fb) (i : Nat) : cntH l (i + 1) = cntH l i + if hasL l (-3 + (i : Int)) then 1 else 0 := by
  unfold cntH
  rw [List.range_succ, List.filter_append, List.length_append]
  cases h : hasL l (-3 + (i : Int)) <;> simp [h]
theorem cntH_le (l : List Fb) : ∀ i, cntH l i ≤ i
  | 0 => by simp [cntH]
  | i + 1 => by
    have := cntH_le l i
    rw [cntH_succ]
    split <;> omega
def cntF (L : List Int) (j : Nat) : Nat := ((L.take j).filter inR).length
theorem cntF_succ {L : List Int} {j : Nat} {y : Int} (h : L[j]? = some y) : cntF L (j + 1) = cntF L j + if inR y then 1 else 0 := by
  unfold cntF
  rw [List.take_add_one, h, List.filter_append, List.length_append]
  cases hy : inR y <;> simp [hy]
theorem cntF_le (L : List Int) (j : Nat) : cntF L j ≤ j := by
  unfold cntF
  have h1 := List.length_filter_le inR (L.take j)
  have h2 : (L.take j).length ≤ j := by rw [List.length_take]; omega
  omega
theorem cnt_same (l : List Fb) : cntH l 73 = cntF (framesV l) (framesV l).length := by
  unfold cntH cntF
  rw [List.take_length, ← count_range (framesV_rise l)]
  congr 2
  funext i
  by_cases h : hasL l (-3 + (i : Int)) = true
  · rw [h, decide_eq_true ((framesV_mem l _).2 h)]
  · rw [decide_eq_false (fun h2 => h ((framesV_mem l _).1 h2))]
    simpa using h
section
attribute [local go_sem ↓] x_stKy x_stRw x_stLd x_stOu x_stRb x_stCd x_stBk x_stLk
attribute [local go_sem] st_Ky st_Rw st_Ld st_Ou st_Rb st_Cd st_Bk st_Lk ne_s1 en_s1 ne_s2 en_s2 ne_s3 en_s3 ne_s4 en_s4 ne_s5 en_s5 ne_s6 en_s6 ne_s7 en_s7 ne_s8 en_s8 lt_s2 lt_s3 lt_s4 lt_s5 lt_s6 lt_s7 lt_s8 rowAt_at rowAt_old rowAt_drew rowAt_drewN setRow_drew setRow_at setRow_old setRow_setRow rowAt_setRow_eq rowAt_setRow_ne cell_setRow_eq cell_setRow_ne frozen_setRow_eq frozen_setRow_ne ones_lit oc_int oc_bool oc_str oc_ptr oc_sl oc_map oc_fn oc_nf oc_ni oc_if
attribute [local go_sem ↓] x_neKy x_neRw x_neOu x_eqKy x_eqRw x_eqOu
attribute [local go_sem] ne_Ky ne_Rw ne_Ou eq_Ky eq_Rw eq_Ou
attribute [local go_sem ↓] x_ldSt
set_option maxRecDepth 100000 in
set_option maxHeartbeats 8000000 in
theorem cachePlays_any (w : World) (x : Int) (x0 : 0 ≤ x) (x1 : x < 256) (a : Option Addr) (len cap B : Nat) (hs : StepsOk w a len B) (hB : B ≤ 1048576) :
    Calls Tryz.prog 6 #[.int .u8 x, .slice a len cap] w fun e w' => e = .returned (.bool true) ∧ Same w w' := by
  have HS := hidE hs
  clear hs
  go_enter Tryz.func6, Tryz.ntmps6
  go_wp2_with fail
  refine (made22 w x x0 x1).mono ?_
  rintro _ w1 ⟨R, M, cb, V, rb, rfl, hP, hk⟩
  have HQ1 : Hid (LoopR w w1 cb rb R B 0 0 0) := hidE ⟨M, V, _, [], [], hP, by simp, fun f hf => by cases hf⟩
  have HK1 := hidE hk
  clear hP hk
  go_wp2_with fail
  go_loopw [8, 9, 10] (fun t8 t9 t10 wr => ∃ (k : Nat) (hi mi : Int), t8 = .int .i64 hi ∧ t9 = .int .i64 mi ∧ t10 = .int .i64 (k : Int) ∧ k ≤ len ∧ k ≤ 60 ∧ (0 ≤ hi ∧ hi ≤ (k : Int)) ∧ (0 ≤ mi ∧ mi ≤ (k : Int)) ∧ LoopR w wr cb rb R B k hi mi ∧ Same w wr) (fun _ _ t10 _ => (60 - intOf t10).toNat)
  case atStart => exact ⟨0, 0, 0, rfl, rfl, rfl, by omega, by omega, by omega, by omega, HQ1.out, HK1.out⟩
  case round =>
    obtain ⟨k, hi, mi, rfl, rfl, rfl, hk1, hk2, hh, hm, hq, hw⟩ := hrel
    have HW := hidE hw
    obtain ⟨M, V, Vb, l, l', hP, hl, hF⟩ := hq
    have HP := hidE hP
    clear hP hw HQ1 HK1
    by_cases hlt : k < len ∧ k < 60
    · have q0 : decide ((k : Int) < (len : Int)) = true := decide_eq_true (by omega)
      have q1 : (k : Int) < (len : Int) := by omega
      have q2 : decide ((k : Int) < 60) = true := decide_eq_true (by omega)
      have q3 : (0 : Int) ≤ (k : Int) := by omega
      have e1 := wrapI ((k : Int) + 1) (by omega) (by omega)
      have e2 := wrapI (hi + 1) (by omega) (by omega)
      have e3 := wrapI (mi + 1) (by omega) (by omega)
      obtain ⟨kd, n, k1, k2, b, xs, hso, hxl, g, o, rfl, hg, hcell⟩ := HS.out k hlt.1
      have HLD := hidE (fun (u : World) (hu : Same w u) => ld_at (P := Tryz.prog) (w := u) (t := 38) (g := g) (o := o + k * 11) Tryz.underlying38 rfl infoSt (c := [.int .i64 kd, .int .i64 n, .int .u32 k1, .int .u32 k2, .slice b.ia b.n b.cn, .slice b.aa b.m b.cm, .int .u32 b.next, .int .u32 b.to, .int .i64 b.fin, b.fr, b.tb]) rfl (fun i v hv => by
        have := cell_same1 hu (hcell i v hv)
        rwa [← Nat.add_assoc] at this))
      have c0 := cell_same1 HW.out (hcell 0 _ rfl)
      have c2 := cell_same1 HW.out (hcell 2 _ rfl)
      have c3 := cell_same1 HW.out (hcell 3 _ rfl)
      rw [← Nat.add_assoc] at c0 c2 c3
      simp only [Nat.add_zero] at c0
      have HC := hidE (fun u (hu : Same wr u) => step_any (HP.out.same hu) (HW.out.trans hu) kd n k1 k2 b xs hso (by omega) ⟨by omega, by omega⟩ ⟨by omega, by omega⟩ (by omega))
      simp only [stepA] at HC
      have hll' : l'.length ≤ 10000 := by rw [← len_pl HP.out.e]; omega
      have HFB := hidE hF
      have HXL := hidE (And.intro hxl hl)
      have hnext : ∀ (u w2 : World), Same wr u → StepQ w u cb rb R V Vb l hi mi kd (k1, k2) xs.length w2 → LoopR w w2 cb rb R B (k + 1) (tally (pl l) kd (k1, k2) hi mi).1 (tally (pl l) kd (k1, k2) hi mi).2 ∧ Same w w2 := fun u w2 hu hq => by
        obtain ⟨M', V', Vb', m, m', h1, h2, h3, h5⟩ := hq
        refine ⟨⟨M', V', Vb', m, m', h1, by have := HXL.out.2; omega, h5 B HXL.out.1 HFB.out⟩, wr_same (HP.out.same hu) (HW.out.trans hu) h3 fun g hg => hg⟩
      have HN := hidE hnext
      clear hcell hso hxl hnext hF
      by_cases h3 : kd = 3
      · subst h3
        have s3 : ((3 : Int) == 3) = true := by simp
        rcases find_alike (cb := cb) (R := R) (M := M) (V := V) (hi := hi) (mi := mi) HP.out.e k1 k2 with ⟨a9, bv, rv, fv, a1, a2, fin, lv, -, h2, h3, z, hz, rfl, rfl, rfl⟩ | ⟨-, h2, h3⟩
        · obtain ⟨o1, o2, o3⟩ := (HP.out.r.fb z hz).ones
          have HFF := hidE (rf_find HP.out.r hll' k1 k2)
          rw [h2] at HFF
          have ht : tally (pl l) 3 (k1, k2) hi mi = (hi + 1, mi) := by unfold tally; rw [if_pos rfl, if_pos h3]
          rw [ht] at HN
          clear h2 h3 ht
          go_wp2_with fail
          refine HFF.out.mono ?_
          rintro _ w2 ⟨rfl, hk2⟩
          have HU := hidE (hk2.alloc (.cells #[.int .u32 a1, .int .u32 a2, .int .i64 a9, z.2.bv, z.2.rv, z.2.fv, .int .i64 fin, .bool lv] 62))
          have hld := HLD.out _ (HW.out.trans HU.out)
          clear hk2 c0 c2 c3 HFF
          go_wp2_with fail
          refine (HC.out _ HU.out).mono ?_
          rintro _ w3 ⟨rfl, hq3⟩
          obtain ⟨hr1, hr2⟩ := HN.out _ _ HU.out hq3
          clear hld hq3
          go_wp2_with fail
          exact ⟨⟨k + 1, hi + 1, mi, rfl, rfl, by simp, by omega, by omega, ⟨by omega, by omega⟩, ⟨by omega, by omega⟩, hr1, hr2⟩, by simp only [intOf]; omega⟩
        · have HFF := hidE (rf_find HP.out.r hll' k1 k2)
          rw [h2] at HFF
          simp only [blockZ] at HFF
          have ht : tally (pl l) 3 (k1, k2) hi mi = (hi, mi + 1) := by unfold tally; rw [if_pos rfl, if_neg (by rw [h3]; simp)]
          rw [ht] at HN
          clear h2 h3 ht
          go_wp2_with fail
          refine HFF.out.mono ?_
          rintro _ w2 ⟨rfl, hk2⟩
          have HU := hidE (hk2.alloc (.cells #[.int .u32 0, .int .u32 0, .int .i64 0, .slice none 0 0, .slice none 0 0, .slice none 0 0, .int .i64 0, .bool false] 62))
          have hld := HLD.out _ (HW.out.trans HU.out)
          clear hk2 c0 c2 c3 HFF
          go_wp2_with fail
          refine (HC.out _ HU.out).mono ?_
          rintro _ w3 ⟨rfl, hq3⟩
          obtain ⟨hr1, hr2⟩ := HN.out _ _ HU.out hq3
          clear hld hq3
          go_wp2_with fail
          exact ⟨⟨k + 1, hi, mi + 1, rfl, rfl, by simp, by omega, by omega, ⟨by omega, by omega⟩, ⟨by omega, by omega⟩, hr1, hr2⟩, by simp only [intOf]; omega⟩
      · have s3 : (kd == 3) = false := beq_eq_false_iff_ne.2 h3
        have ht : tally (pl l) kd (k1, k2) hi mi = (hi, mi) := by unfold tally; rw [if_neg h3]
        rw [ht] at HN
        have hld := HLD.out _ HW.out
        clear ht h3
        go_wp2_with fail
        refine (HC.out _ (Keeps.refl _ _)).mono ?_
        rintro _ w3 ⟨rfl, hq3⟩
        obtain ⟨hr1, hr2⟩ := HN.out _ _ (Keeps.refl _ _) hq3
        clear hld hq3 c0 c2 c3
        go_wp2_with fail
        exact ⟨⟨k + 1, hi, mi, rfl, rfl, by simp, by omega, by omega, ⟨by omega, by omega⟩, ⟨by omega, by omega⟩, hr1, hr2⟩, by simp only [intOf]; omega⟩
    · have hll : l.length ≤ 60 := by omega
      have hll' : l'.length ≤ 60 := by rw [← len_pl HP.out.e]; exact hll
      have HFB := hidE (show ∀ x ∈ l, x.1.frs.length ≤ 1048576 from fun x hx => by
        have := hF x.1 (List.mem_map.2 ⟨x, hx, rfl⟩)
        omega)
      have HCT := hidE (cs_counts HP.out.c ⟨hh.1, by omega⟩ ⟨hm.1, by omega⟩)
      have hkl : (keysL l).length ≤ 60 := by
        have := liveIdx_le l l.length
        simp only [keysL, List.length_map]
        omega
      have y1 : (hi != hi) = false := by simp
      have y2 : (mi != mi) = false := by simp
      have y3 : (((usedL (pl l) : Nat) : Int) != ((usedL (pl l) : Nat) : Int)) = false := by simp
      clear hF
      have q0 : (decide ((k : Int) < (len : Int)) = true ∧ decide ((k : Int) < 60) = false ∧ (k : Int) < (len : Int) ∧ ¬ ((k : Int) < 60)) ∨ (decide ((k : Int) < (len : Int)) = false ∧ decide ((k : Int) < 60) = decide ((k : Int) < 60) ∧ ¬ ((k : Int) < (len : Int)) ∧ True) := by
        by_cases h9 : k < len
        · exact .inl ⟨decide_eq_true (by omega), decide_eq_false (by omega), by omega, by omega⟩
        · exact .inr ⟨decide_eq_false (by omega), rfl, by omega, trivial⟩
      rcases q0 with ⟨q0, q2, q1, q3⟩ | ⟨q0, -, q1, -⟩
      all_goals focus (
        go_wp2_with fail
        refine HCT.out.mono ?_
        rintro _ w2 ⟨rfl, hk⟩
        have HP2 := hidE (HP.out.same hk)
        have HW2 := hidE (HW.out.trans hk)
        clear hk HCT
        go_wp2_with fail
        refine wp_region_rs [0, 1, 2, 3, 4, 5, 6, 7, 8, 9, 10, 11, 12, 13, 14, 15, 16, 17, 18, 20] [19, 21, 22] [23, 24] [] 0 (Same w2) (fun _ => True) (by kernel_rfl) (by kernel_rfl) (fun u u' h k => h.trans k) (Keeps.refl _ _).drew (fun _ _ _ _ => trivial) trivial ?_
        simp only [opsOf, List.filterMap_cons, List.filterMap_nil, List.getElem?_cons_zero, List.getElem?_cons_succ]
        repeat (first | (refine seqV_run (v := ?_) rfl (fun u hu => ?_) ?_; rotate_left; (focus (clear hu; go_simp; first | done | with_reducible rfl)); (try simp only [Act.put, List.setIfInBounds_toArray, List.set_cons_zero, List.set_cons_succ])) | (refine seqV_no rfl ?_; (try simp only [Act.put, List.setIfInBounds_toArray, List.set_cons_zero, List.set_cons_succ])))
        (refine seqV_call (f := 19) (args := #[.pointer (some ⟨cb, 0, none⟩)]) (v := .int .i64 (usedL (pl l) : Nat)) rfl (fun u hu => ?_) (fun u hu => (cs_used (HP2.out.same hu).c).mono (by rintro _ _ ⟨rfl, rfl⟩; exact ⟨rfl, Keeps.refl _ _⟩)) ?_; (focus (clear hu; go_simp)); (try simp only [Act.put, List.setIfInBounds_toArray, List.set_cons_zero, List.set_cons_succ]))
        repeat (first | (refine seqV_run (v := ?_) rfl (fun u hu => ?_) ?_; rotate_left; (focus (have d1 := (HP2.out.same hu).r.c 1; simp only [refA] at d1; rw [← HP2.out.e] at d1; clear hu; go_simp; first | done | with_reducible rfl)); (try simp only [Act.put, List.setIfInBounds_toArray, List.set_cons_zero, List.set_cons_succ])) | (refine seqV_no rfl ?_; (try simp only [Act.put, List.setIfInBounds_toArray, List.set_cons_zero, List.set_cons_succ])))
        refine seqV_nil ?_
        refine chainS_call (f := 11) (args := #[.pointer (some ⟨cb, 0, none⟩)]) (fun x u => KeyRow w2 u x (keysL l)) rfl (fun x u u' h k => h.same k) (fun u hu hp => by clear hu hp; go_simp) (fun u hu hp => (cs_keys (HP2.out.same hu).c (by omega)).mono (by
          rintro e w3 ⟨v, rfl, h1, h2⟩
          exact ⟨v, rfl, hu.trans h2, keyRow_of h1 hu.size⟩)) (fun v hv => ?_)
        obtain ⟨_, _, hv1⟩ := hv
        obtain ⟨p1, c1, rfl⟩ := hv1.sl
        clear hv1
        (try simp only [Act.put, List.setIfInBounds_toArray, List.set_cons_zero, List.set_cons_succ])
        refine chainS_call (f := 33) (args := #[.pointer (some ⟨rb, 0, none⟩)]) (fun x u => KeyRow w2 u x (keysL l) ∧ KeyRow w2 u (.slice p1 (keysL l).length c1) (keysL l)) rfl (fun x u u' h k => ⟨h.1.same k, h.2.same k⟩) (fun u hu hp => by clear hu hp; go_simp) (fun u hu hp => (rf_keys (HP2.out.same hu).r (by omega)).mono (by
          rintro e w3 ⟨v, rfl, h1, h2⟩
          rw [← keysL_pl HP2.out.e] at h1
          exact ⟨v, rfl, hu.trans h2, keyRow_of h1 hu.size, hp.same h2⟩)) (fun v hv => ?_)
        obtain ⟨_, _, hv1, _⟩ := hv
        obtain ⟨p2, c2, rfl⟩ := hv1.sl
        clear hv1
        (try simp only [Act.put, List.setIfInBounds_toArray, List.set_cons_zero, List.set_cons_succ])
        refine chainS_call (f := 32) (args := #[.slice p1 (keysL l).length c1, .slice p2 (keysL l).length c2]) (fun x u => x = .bool true) rfl (fun x u u' h k => h) (fun u hu hp => by clear hu hp; go_simp) (fun u hu hp => (keys_same u _ _ _ _ (keysL l) (keysForm2 l) hp.2 hp.1 (by omega)).mono (by
          rintro e w3 ⟨rfl, hk⟩
          exact ⟨_, rfl, hu.trans hk, rfl⟩)) (fun v hv => ?_)
        obtain ⟨_, _, rfl⟩ := hv
        (try simp only [Act.put, List.setIfInBounds_toArray, List.set_cons_zero, List.set_cons_succ])
        refine chainS_nil ?_
        repeat (first | (refine seqV_run (v := ?_) rfl (fun u hu => ?_) ?_; rotate_left; (focus (clear hu; go_simp; first | done | with_reducible rfl)); (try simp only [Act.put, List.setIfInBounds_toArray, List.set_cons_zero, List.set_cons_succ])) | (refine seqV_no rfl ?_; (try simp only [Act.put, List.setIfInBounds_toArray, List.set_cons_zero, List.set_cons_succ])))
        refine seqV_nil ?_
        refine tailR_zero fun u5 hu hp => ?_
        (try simp only [Act.put, List.setIfInBounds_toArray, List.set_cons_zero, List.set_cons_succ])
        have HP5 := hidE (HP2.out.same hu)
        have HW5 := hidE (HW2.out.trans hu)
        have HFR := hidE (cs_frames HP5.out.c (by omega) HFB.out)
        clear hu hp
        go_wp2_with fail
        refine HFR.out.mono ?_
        rintro _ w6 ⟨fv, rfl, hfv, hk6⟩
        have HP6 := hidE (HP5.out.same hk6)
        have HW6 := hidE (HW5.out.trans hk6)
        obtain ⟨fp, fc, rfl, hf1, hf2, hf3⟩ := hfv
        have HRISE := hidE (framesV_rise l)
        have HMEM := hidE (fun y => framesV_mem l y)
        have HCNT := hidE (cnt_same l)
        have hmx : maxLen = 9223372036854775807 := rfl
        have HAS := hidE (fun (u : World) (hu : Same w6 u) (f : Int) => by
          have h1 := rf_has (HP6.out.same hu).r (by omega) f
          rw [← hasL_pl HP6.out.e] at h1
          exact h1)
        generalize framesV l = FV at *
        clear hk6 HFR
        go_wp2_with fail
        go_loopw [16] (fun t16 wr => ∃ (j : Nat), t16 = .int .i64 (j : Int) ∧ j ≤ FV.length ∧ Same w6 wr) (fun t16 _ => (FV.length - intOf t16).toNat)
        case atStart => exact ⟨0, rfl, by omega, Keeps.refl _ _⟩
        case round =>
          obtain ⟨j, rfl, hj2, hsj⟩ := hrel
          have HSJ := hidE hsj
          clear hsj
          by_cases hlt3 : j < FV.length
          · have p5 : decide ((j : Int) < (FV.length : Int)) = true := decide_eq_true (by omega)
            have p6 : (j : Int) < (FV.length : Int) := by omega
            have p7 : (0 : Int) ≤ (j : Int) := by omega
            have e3 := wrapI ((j : Int) + 1) (by omega) (by omega)
            obtain ⟨y, hy⟩ : ∃ y, FV[j]? = some y := ⟨_, List.getElem?_eq_getElem hlt3⟩
            have hhas := (HMEM.out y).1 (List.mem_of_getElem? hy)
            rcases hf3 with hf3 | ⟨S, o, rfl, hS, hcell⟩
            · rw [hf3] at hlt3; simp at hlt3
            have CY := hidE (cell_same1 HSJ.out (hcell j y hy))
            cases j with
            | zero =>
              have z1 : decide ((0 : Int) < (0 : Int)) = false := by decide
              simp only [Nat.add_zero] at CY
              go_wp2_with fail
              refine wp_region_ra [0, 1, 2, 3, 4, 5, 6, 7, 8, 9, 10, 11, 12, 13, 14, 15, 16, 17, 18, 19, 20, 21, 22] [] 0 (Same _) (by kernel_rfl) (by kernel_rfl) (fun u u' h k => Keeps.trans h k) (Keeps.refl _ _).drew ?_; simp only [opsOf, List.filterMap_cons, List.filterMap_nil, List.getElem?_cons_zero, List.getElem?_cons_succ]
              repeat (first | (refine seqV_run (v := ?_) rfl (fun u hu => ?_) ?_; rotate_left; (focus (have d1 := cell_same1 hu CY.out; clear hu; go_simp; first | done | with_reducible rfl)); (try simp only [Act.put, List.setIfInBounds_toArray, List.set_cons_zero, List.set_cons_succ])) | (refine seqV_no rfl ?_; (try simp only [Act.put, List.setIfInBounds_toArray, List.set_cons_zero, List.set_cons_succ])))
              (refine seqV_call (f := 35) (args := #[.pointer (some ⟨rb, 0, none⟩), .int .i64 y]) (v := .bool true) rfl (fun u hu => ?_) (fun u hu => (HAS.out u (HSJ.out.trans hu) y).mono (by rintro _ _ ⟨rfl, hk⟩; exact ⟨by rw [hhas], hk⟩)) ?_; (focus (clear hu; go_simp)); (try simp only [Act.put, List.setIfInBounds_toArray, List.set_cons_zero, List.set_cons_succ]))
              repeat (first | (refine seqV_run (v := ?_) rfl (fun u hu => ?_) ?_; rotate_left; (focus (have d1 := cell_same1 hu CY.out; clear hu; go_simp; first | done | with_reducible rfl)); (try simp only [Act.put, List.setIfInBounds_toArray, List.set_cons_zero, List.set_cons_succ])) | (refine seqV_no rfl ?_; (try simp only [Act.put, List.setIfInBounds_toArray, List.set_cons_zero, List.set_cons_succ])))
              refine seqV_nil ?_
              refine tailR_zero fun u8 hu _ => ?_
              (try simp only [Act.put, List.setIfInBounds_toArray, List.set_cons_zero, List.set_cons_succ])
              have HW8 := hidE (HSJ.out.trans hu)
              clear hu
              go_wp2_with fail
              exact ⟨⟨0 + 1, by simp, by omega, HW8.out⟩, by simp only [intOf]; omega⟩
            | succ i =>
              obtain ⟨y', hy'⟩ : ∃ y', FV[i]? = some y' := ⟨_, List.getElem?_eq_getElem (by omega)⟩
              have hlt9 : y' < y := by
                have h1 := List.pairwise_iff_getElem.1 HRISE.out i (i + 1) (by omega) hlt3 (by omega)
                rw [List.getElem?_eq_getElem (by omega)] at hy hy'
                rw [← Option.some.inj hy, ← Option.some.inj hy']
                exact h1
              have CY' := hidE (cell_same1 HSJ.out (hcell i y' hy'))
              have z1 : decide ((0 : Int) < ((i : Int) + 1)) = true := decide_eq_true (by omega)
              have z1' : (0 : Int) < (i : Int) + 1 := by omega
              have z2 : decide (y ≤ y') = false := decide_eq_false (by omega)
              have z3 : ((i + 1 : Nat) : Int) = (i : Int) + 1 := by omega
              have e4 := wrapI ((i : Int) + 1 - 1) (by omega) (by omega)
              have e5 : (i : Int) + 1 - 1 = (i : Int) := by omega
              have e6 := wrapI (i : Int) (by omega) (by omega)
              have z4 : (0 : Int) ≤ (i : Int) := by omega
              have z5 : (i : Int) < (FV.length : Int) := by omega
              have z6 : (0 : Int) ≤ (i : Int) + 1 := by omega
              have z7 : (i : Int) + 1 < (FV.length : Int) := by omega
              go_wp2_with fail
              refine wp_region_ra [0, 1, 2, 3, 4, 5, 6, 7, 8, 9, 10, 11, 12, 13, 14, 15, 16, 17, 18, 19, 20, 21, 22] [] 0 (Same _) (by kernel_rfl) (by kernel_rfl) (fun u u' h k => Keeps.trans h k) (Keeps.refl _ _).drew ?_; simp only [opsOf, List.filterMap_cons, List.filterMap_nil, List.getElem?_cons_zero, List.getElem?_cons_succ]
              repeat (first | (refine seqV_run (v := ?_) rfl (fun u hu => ?_) ?_; rotate_left; (focus (have d1 := cell_same1 hu CY.out; have d2 := cell_same1 hu CY'.out; clear hu; go_simp; first | done | with_reducible rfl)); (try simp only [Act.put, List.setIfInBounds_toArray, List.set_cons_zero, List.set_cons_succ])) | (refine seqV_no rfl ?_; (try simp only [Act.put, List.setIfInBounds_toArray, List.set_cons_zero, List.set_cons_succ])))
              (refine seqV_call (f := 35) (args := #[.pointer (some ⟨rb, 0, none⟩), .int .i64 y]) (v := .bool true) rfl (fun u hu => ?_) (fun u hu => (HAS.out u (HSJ.out.trans hu) y).mono (by rintro _ _ ⟨rfl, hk⟩; exact ⟨by rw [hhas], hk⟩)) ?_; (focus (clear hu; go_simp)); (try simp only [Act.put, List.setIfInBounds_toArray, List.set_cons_zero, List.set_cons_succ]))
              repeat (first | (refine seqV_run (v := ?_) rfl (fun u hu => ?_) ?_; rotate_left; (focus (have d1 := cell_same1 hu CY.out; have d2 := cell_same1 hu CY'.out; clear hu; go_simp; first | done | with_reducible rfl)); (try simp only [Act.put, List.setIfInBounds_toArray, List.set_cons_zero, List.set_cons_succ])) | (refine seqV_no rfl ?_; (try simp only [Act.put, List.setIfInBounds_toArray, List.set_cons_zero, List.set_cons_succ])))
              refine seqV_nil ?_
              refine tailR_zero fun u8 hu _ => ?_
              (try simp only [Act.put, List.setIfInBounds_toArray, List.set_cons_zero, List.set_cons_succ])
              have HW8 := hidE (HSJ.out.trans hu)
              clear hu
              go_wp2_with fail
              exact ⟨⟨i + 1 + 1, by simp, by omega, HW8.out⟩, by simp only [intOf]; omega⟩
          · obtain rfl : j = FV.length := by omega
            have p5 : decide ((FV.length : Int) < (FV.length : Int)) = false := by simp
            have HW7 := hidE (HSJ.out)
            go_wp2_with fail
            go_loopw [17, 18] (fun t17 t18 wr => ∃ (i : Nat), t18 = .int .i64 (-3 + (i : Int)) ∧ t17 = .int .i64 (cntH l i : Nat) ∧ i ≤ 73 ∧ Same w6 wr) (fun _ t18 _ => (70 - intOf t18).toNat)
            case atStart => exact ⟨0, by simp, by simp [cntH], by omega, HW7.out⟩
            case round =>
              obtain ⟨i, rfl, rfl, hi2, hsi⟩ := hrel
              have HSI := hidE hsi
              clear hsi
              have hcl := cntH_le l i
              by_cases hlt4 : i < 73
              · have p5 : decide (-3 + (i : Int) < 70) = true := decide_eq_true (by omega)
                have e3 := wrapI (-3 + (i : Int) + 1) (by omega) (by omega)
                have e4 := wrapI (((cntH l i : Nat) : Int) + 1) (by omega) (by omega)
                have HC2 := hidE (HAS.out wr HSI.out (-3 + (i : Int)))
                have hsucc := cntH_succ l i
                cases hb : hasL l (-3 + (i : Int)) with
                | true =>
                  rw [hb] at HC2 hsucc
                  have HSU := hidE hsucc
                  clear hsucc
                  go_wp2_with fail
                  refine HC2.out.mono ?_
                  rintro _ w8 ⟨rfl, hk8⟩
                  have HS8 := hidE (HSI.out.trans hk8)
                  clear hk8
                  go_wp2_with fail
                  exact ⟨⟨i + 1, by simp; omega, by rw [HSU.out]; simp, by omega, HS8.out⟩, by simp only [intOf]; omega⟩
                | false =>
                  rw [hb] at HC2 hsucc
                  have HSU := hidE hsucc
                  clear hsucc
                  go_wp2_with fail
                  refine HC2.out.mono ?_
                  rintro _ w8 ⟨rfl, hk8⟩
                  have HS8 := hidE (HSI.out.trans hk8)
                  clear hk8
                  go_wp2_with fail
                  exact ⟨⟨i + 1, by simp; omega, by rw [HSU.out]; simp, by omega, HS8.out⟩, by simp only [intOf]; omega⟩
              · obtain rfl : i = 73 := by omega
                have p5 : decide (-3 + ((73 : Nat) : Int) < 70) = false := by decide
                go_wp2_with fail
                go_loopw [19, 20] (fun t19 t20 wr => ∃ (j : Nat), t20 = .int .i64 (j : Int) ∧ t19 = .int .i64 (cntF FV j : Nat) ∧ j ≤ FV.length ∧ Same w6 wr) (fun _ t20 _ => (FV.length - intOf t20).toNat)
                case atStart => exact ⟨0, rfl, by simp [cntF], by omega, HSI.out⟩
                case round =>
                  obtain ⟨j, rfl, rfl, hj3, hsj⟩ := hrel
                  have HSK := hidE hsj
                  clear hsj
                  have hcf := cntF_le FV j
                  by_cases hlt5 : j < FV.length
                  · have p6 : decide ((j : Int) < (FV.length : Int)) = true := decide_eq_true (by omega)
                    have p7 : (j : Int) < (FV.length : Int) := by omega
                    have p8 : (0 : Int) ≤ (j : Int) := by omega
                    have e3 := wrapI ((j : Int) + 1) (by omega) (by omega)
                    have e4 := wrapI (((cntF FV j : Nat) : Int) + 1) (by omega) (by omega)
                    obtain ⟨y, hy⟩ : ∃ y, FV[j]? = some y := ⟨_, List.getElem?_eq_getElem hlt5⟩
                    rcases hf3 with hf3 | ⟨S, o, rfl, hS, hcell⟩
                    · rw [hf3] at hlt5; simp at hlt5
                    have cy := cell_same1 HSK.out (hcell j y hy)
                    have HSU := hidE (cntF_succ hy)
                    clear hcell hy
                    by_cases hy1 : -3 ≤ y
                    · have z1 : decide (-3 ≤ y) = true := decide_eq_true hy1
                      by_cases hy2 : y < 70
                      · have z2 : decide (y < 70) = true := decide_eq_true hy2
                        have hin : inR y = true := by unfold inR; rw [z1, z2]; rfl
                        rw [hin] at HSU
                        clear hin
                        go_wp2_with fail
                        exact ⟨⟨j + 1, by simp, by rw [HSU.out]; simp, by omega, HSK.out⟩, by simp only [intOf]; omega⟩
                      · have z2 : decide (y < 70) = false := decide_eq_false hy2
                        have hin : inR y = false := by unfold inR; rw [z2]; simp
                        rw [hin] at HSU
                        clear hin
                        go_wp2_with fail
                        exact ⟨⟨j + 1, by simp, by rw [HSU.out]; simp, by omega, HSK.out⟩, by simp only [intOf]; omega⟩
                    · have z1 : decide (-3 ≤ y) = false := decide_eq_false hy1
                      have hin : inR y = false := by unfold inR; rw [z1]; rfl
                      rw [hin] at HSU
                      clear hin
                      go_wp2_with fail
                      exact ⟨⟨j + 1, by simp, by rw [HSU.out]; simp, by omega, HSK.out⟩, by simp only [intOf]; omega⟩
                  · obtain rfl : j = FV.length := by omega
                    have p6 : decide ((FV.length : Int) < (FV.length : Int)) = false := by simp
                    have z9 : ((cntH l 73 : Nat) : Int) = ((cntF FV FV.length : Nat) : Int) := by rw [HCNT.out]
                    have z8 : (((cntF FV FV.length : Nat) : Int) == ((cntF FV FV.length : Nat) : Int)) = true := by simp
                    have HW9 := hidE (HW6.out.trans HSK.out)
                    go_wp2_with fail
                    refine (works22 _).mono ?_
                    rintro _ w9 ⟨rfl, hk9⟩
                    have HW10 := hidE (HW9.out.trans hk9)
                    clear hk9
                    go_wp2
                    go_ret
                    exact ⟨rfl, HW10.out⟩)
theorem cachePlays_walk (w : World) (x0 : Int) (h0 : RdV Tryz.prog w 5 [.int .u8 x0]) (a1 : Option Addr) (l1 c1 : Nat) (h1 : RdV Tryz.prog w 22 [.slice a1 l1 c1]) (hz : RdZV (fun _ len => len ≤ 1048576) Tryz.prog w 22 [.slice a1 l1 c1]) :
    Calls Tryz.prog 6 #[.int .u8 x0, .slice a1 l1 c1] w fun e w' => e = .returned (.bool true) ∧ Below w.heap.size w w' := by
  obtain ⟨x, e, p0, p1⟩ := h0.int (k := .u8) Tryz.underlying5
  simp at e
  subst e
  simp [IntKind.min, IntKind.max, IntKind.bits, IntKind.signed] at p0 p1
  obtain ⟨hs, -, -⟩ := steps_open (B := 1048576) (fun m hm => hm) h1 hz
  exact (cachePlays_any w x0 (by omega) (by omega) a1 l1 c1 _ hs (by omega)).mono fun e w' h => ⟨h.1, same_below h.2⟩
end
end Go.Proofs.YtomphgpplbekiaaGreat
