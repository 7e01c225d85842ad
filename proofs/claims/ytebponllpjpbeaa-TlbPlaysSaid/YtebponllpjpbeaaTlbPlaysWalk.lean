/- The walk of the statement TlbPlays: it answers true, and turns nothing that was there. -/
import Derived.Test.YtebponllpjpbeaaTlbB
namespace Go.Proofs.Ytebponllpjpbeaa
open Go.RowKit

/-- The document's answer, out of the first k calls. -/
def refK (n : Nat) (D : Nat → Int × Int × Int × Int) (page : Int) : Nat → Option (Int × Int)
  | 0 => none
  | k + 1 =>
    if (D k).1 = 2 ∨ ((D k).1 = 1 ∧ (D k).2.1 = page) then none
    else if (D k).1 = 0 ∧ (D k).2.1 % n = page % n then (if (D k).2.1 = page then some ((D k).2.2.1, (D k).2.2.2) else none)
    else refK n D page k
def ansV : Option (Int × Int) → Value
  | some (b, f) => .tuple #[.int .u32 b, .int .i64 f, .bool true]
  | none => .tuple #[.int .u32 0, .int .i64 0, .bool false]

set_option maxHeartbeats 2000000 in
theorem ref_any (n : Nat) (hn : 0 < n) (hn2 : n ≤ 64) (a : Option Addr) (l c : Nat) (hl : l ≤ 1000) (D : Nat → Int × Int × Int × Int) (page : Int) (p0 : 0 ≤ page) (p1 : page < 4294967296) (w : World) (hD : IsSteps w a l D) :
    Calls Try.prog 14 #[.int .i64 n, .slice a l c, .int .u32 page] w fun e w' => e = .returned (ansV (refK n D page l)) ∧ Same w w' := by
  obtain ⟨R, hR⟩ : ∃ R, R = ansV (refK n D page l) := ⟨_, rfl⟩
  rw [← hR]
  have HR := hidE  hR
  clear hR
  go_enter Try.func14, Try.ntmps14
  go_wp2_with fail
  go_loopw [9] (fun t9 wr => ∃ k : Nat, t9 = .int .i64 ((k : Int) - 1) ∧ k ≤ l ∧ Same w wr ∧ Hid (R = ansV (refK n D page k))) (fun t9 _ => (intOf t9 + 1).toNat)
  case atStart => exact ⟨l, rfl, by omega, Keeps.refl _ _, HR⟩
  case round =>
    obtain ⟨k, rfl, hk, hS, HK⟩ := hrel
    clear HR
    by_cases hlt : 0 < k
    · obtain ⟨k, rfl⟩ : ∃ j, k = j + 1 := ⟨k - 1, by omega⟩
      rcases hD with h0 | ⟨b, off, rfl, hbl, hx⟩
      · omega
      obtain ⟨q0, q1, d0, d1, d2, d3⟩ := hx k (by omega)
      have hE := HK.out
      unfold refK at hE
      have hD' : IsSteps w (some ⟨b, off, none⟩) l D := .inr ⟨b, off, rfl, hbl, hx⟩
      clear hx
      generalize D k = x at hE q0 q1 d0 d1 d2 d3
      obtain ⟨kd, pg, bt, fr⟩ := x
      simp only at hE q0 q1 d0 d1 d2 d3
      have HE := hidE  hE
      clear hE
      have e0 : ((k + 1 : Nat) : Int) - 1 = k := by omega
      rw [e0]
      clear e0
      have hbel := same_below hS
      have d0' : wr.cell? ⟨b, off + k * 4, none⟩ = some (.int .i64 kd) := by rw [hbel.cell hbl]; exact d0
      have d1' : wr.cell? ⟨b, off + k * 4 + 1, none⟩ = some (.int .u32 pg) := by rw [hbel.cell hbl]; exact d1
      have d2' : wr.cell? ⟨b, off + k * 4 + 2, none⟩ = some (.int .u32 bt) := by rw [hbel.cell hbl]; exact d2
      have d3' : wr.cell? ⟨b, off + k * 4 + 3, none⟩ = some (.int .i64 fr) := by rw [hbel.cell hbl]; exact d3
      clear d0 d1 d2 d3 hbel
      have z1 : 0 ≤ page % n := Int.emod_nonneg _ (by omega)
      have z2 : 0 ≤ pg % n := Int.emod_nonneg _ (by omega)
      have hnz : ((n : Int) == 0) = false := by simp; omega
      have g1 : page % n < n := Int.emod_lt_of_pos _ (by omega)
      have g2 : pg % n < n := Int.emod_lt_of_pos _ (by omega)
      have HS := hidE  hS
      have ways : kd = 2 ∨ (kd = 1 ∧ pg = page) ∨ (kd = 0 ∧ pg = page) ∨ (kd = 0 ∧ pg % n = page % n ∧ ¬ pg = page) ∨ ((¬ kd = 2 ∧ ¬ (kd = 1 ∧ pg = page)) ∧ ¬ (kd = 0 ∧ pg % n = page % n)) := by
        by_cases a1 : kd = 2
        · exact .inl a1
        · by_cases a2 : kd = 1 ∧ pg = page
          · exact .inr (.inl a2)
          · by_cases a3 : kd = 0 ∧ pg % n = page % n
            · by_cases a4 : pg = page
              · exact .inr (.inr (.inl ⟨a3.1, a4⟩))
              · exact .inr (.inr (.inr (.inl ⟨a3.1, a3.2, a4⟩)))
            · exact .inr (.inr (.inr (.inr ⟨⟨a1, a2⟩, a3⟩)))
      clear hS hlt
      rcases ways with rfl | ⟨rfl, rfl⟩ | ⟨rfl, rfl⟩ | ⟨rfl, e, e'⟩ | ⟨⟨a1, a2⟩, a3⟩
      · rw [if_pos (Or.inl rfl)] at HE
        go_wp2
        go_ret3
        exact ⟨by rw [HE.out]; rfl, HS.out.alloc _⟩
      · rw [if_pos (Or.inr ⟨rfl, rfl⟩)] at HE
        go_wp2
        go_ret3
        exact ⟨by rw [HE.out]; rfl, HS.out.alloc _⟩
      · rw [if_neg (by simp), if_pos ⟨rfl, rfl⟩, if_pos rfl] at HE
        have v2 := wrapI pg (by omega) (by omega)
        have t2 : pg.tmod n = pg % n := Int.tmod_eq_emod_of_nonneg q0
        have wt2 := wrapI (pg % n) (by omega) (by omega)
        go_wp2
        go_quiet (fail)
        clear v2 t2 wt2
        go_wp2
        go_quiet (fail)
        go_wp2
        go_ret3
        exact ⟨by rw [HE.out]; rfl, ((HS.out.alloc _).drewN _).drewN _⟩
      · rw [if_neg (by simp), if_pos ⟨rfl, e⟩, if_neg e'] at HE
        have v1 := wrapI page (by omega) (by omega)
        have v2 := wrapI pg (by omega) (by omega)
        have t1 : page.tmod n = page % n := Int.tmod_eq_emod_of_nonneg p0
        have t2 : pg.tmod n = pg % n := Int.tmod_eq_emod_of_nonneg q0
        have wt1 := wrapI (page % n) (by omega) (by omega)
        have wt2 := wrapI (pg % n) (by omega) (by omega)
        have e5 : (pg % n == page % n) = true := by simpa using e
        have e6 : (pg == page) = false := by simpa using e'
        clear e e'
        go_wp2
        go_quiet (fail)
        clear v1 v2 t1 t2 wt1 wt2
        go_wp2
        go_ret3
        exact ⟨by rw [HE.out]; rfl, (HS.out.alloc _).drewN _⟩
      · rw [if_neg (by intro h; rcases h with h | h; exact a1 h; exact a2 h), if_neg a3] at HE
        have v1 := wrapI page (by omega) (by omega)
        have v2 := wrapI pg (by omega) (by omega)
        have t1 : page.tmod n = page % n := Int.tmod_eq_emod_of_nonneg p0
        have t2 : pg.tmod n = pg % n := Int.tmod_eq_emod_of_nonneg q0
        have wt1 := wrapI (page % n) (by omega) (by omega)
        have wt2 := wrapI (pg % n) (by omega) (by omega)
        have e5 : (kd == 2) = false := by simpa using a1
        have ways : (kd = 0 ∧ (pg % n == page % n) = false) ∨ (kd = 1 ∧ (pg == page) = false) ∨ ((kd == 0) = false ∧ (kd == 1) = false) := by
          by_cases c0 : kd = 0
          · exact .inl ⟨c0, by simp; exact fun h => a3 ⟨c0, h⟩⟩
          · by_cases c1 : kd = 1
            · exact .inr (.inl ⟨c1, by simp; exact fun h => a2 ⟨c1, h⟩⟩)
            · exact .inr (.inr ⟨by simpa using c0, by simpa using c1⟩)
        clear a1 a2 a3
        rcases ways with ⟨rfl, e6⟩ | ⟨rfl, e6⟩ | ⟨e6, e7⟩
        all_goals
          go_wp2
          go_quiet (fail)
          rename_i nq
          clear v1 v2 t1 t2 wt1 wt2
          go_wp2
          go_roundw
          case rel => exact ⟨k, by go_num, by omega, (HS.out.alloc _).drewN _, HE⟩
          case measure => simp [intOf]
    · obtain rfl : k = 0 := by omega
      have HS := hidE  hS
      clear hS hlt hD
      go_wp2
      go_ret3
      exact ⟨by rw [HK.out]; rfl, HS.out⟩

/-- What the slots answer. -/
def lookT (T : Nat → Slot) (n : Nat) (page : Int) : Option (Int × Int) :=
  if (T (page % n).toNat).there = true ∧ (T (page % n).toNat).page = page then some ((T (page % n).toNat).bits, (T (page % n).toNat).frame) else none
def Inv (n : Nat) (T : Nat → Slot) (D : Nat → Int × Int × Int × Int) (d : Nat) : Prop := ∀ page : Int, 0 ≤ page → lookT T n page = refK n D page d
def updD (D : Nat → Int × Int × Int × Int) (d : Nat) (x : Int × Int × Int × Int) : Nat → Int × Int × Int × Int := fun k => if k = d then x else D k
theorem refK_congr (n : Nat) (page : Int) {D E : Nat → Int × Int × Int × Int} : ∀ (k : Nat), (∀ i, i < k → D i = E i) → refK n D page k = refK n E page k
  | 0, _ => rfl
  | k + 1, h => by
    unfold refK
    rw [h k (by omega), refK_congr n page k (fun i hi => h i (by omega))]
theorem lookT_other {T : Nat → Slot} {n : Nat} {page : Int} {i : Nat} {s : Slot} (h : ¬ (page % n).toNat = i) : lookT (upd T i s) n page = lookT T n page := by
  unfold lookT upd; rw [if_neg h]
theorem inv_step {n : Nat} (hn : 0 < n) {T : Nat → Slot} {D : Nat → Int × Int × Int × Int} {d : Nat} (h : Inv n T D d) (kd pg bt fr : Int) (hk : 0 ≤ kd ∧ kd ≤ 2) (_ : 0 ≤ pg) :
    Inv n (doT T n kd pg bt fr) (updD D d (kd, pg, bt, fr)) (d + 1) := by
  intro page p0
  have hc : refK n (updD D d (kd, pg, bt, fr)) page d = refK n D page d := refK_congr n page d (fun i hi => by unfold updD; rw [if_neg (by omega)])
  have hx : updD D d (kd, pg, bt, fr) d = (kd, pg, bt, fr) := by simp [updD]
  have hr : refK n (updD D d (kd, pg, bt, fr)) page (d + 1) = if kd = 2 ∨ (kd = 1 ∧ pg = page) then none else if kd = 0 ∧ pg % n = page % n then (if pg = page then some (bt, fr) else none) else lookT T n page := by
    unfold refK
    rw [hx, hc, ← h page p0]
  rw [hr]
  have z1 : 0 ≤ page % n := Int.emod_nonneg _ (by omega)
  have z2 : 0 ≤ pg % n := Int.emod_nonneg _ (by omega)
  rcases (show kd = 2 ∨ kd = 1 ∨ kd = 0 by omega) with rfl | rfl | rfl
  · rw [if_pos (Or.inl rfl)]; simp [doT, lookT, blankS]
  · rw [show doT T n 1 pg bt fr = dropT T n pg from by simp [doT]]
    unfold dropT
    by_cases e : pg = page
    · subst e
      rw [if_pos (Or.inr ⟨rfl, rfl⟩)]
      by_cases e2 : (T (pg % n).toNat).page = pg
      · rw [if_pos e2]; simp [lookT, upd]
      · rw [if_neg e2]; simp [lookT, e2]
    · rw [if_neg (show ¬((1 : Int) = 2 ∨ ((1 : Int) = 1 ∧ pg = page)) from by simp [e]), if_neg (show ¬((1 : Int) = 0 ∧ pg % n = page % n) from by simp)]
      by_cases e2 : (T (pg % n).toNat).page = pg
      · rw [if_pos e2]
        by_cases e3 : (page % n).toNat = (pg % n).toNat
        · simp only [lookT, upd, e3]; simp [e2, e]
        · exact lookT_other e3
      · rw [if_neg e2]
  · rw [show doT T n 0 pg bt fr = upd T (pg % n).toNat ⟨true, pg, bt, fr⟩ from by simp [doT]]
    rw [if_neg (show ¬((0 : Int) = 2 ∨ ((0 : Int) = 1 ∧ pg = page)) from by simp)]
    by_cases e : pg % n = page % n
    · rw [if_pos ⟨rfl, e⟩]; simp only [lookT, upd, e]; simp
    · rw [if_neg (show ¬((0 : Int) = 0 ∧ pg % n = page % n) from by simp [e])]; exact lookT_other (by omega)

def doneL (x : Int × Int × Int × Int) : List Value := [.int .i64 x.1, .int .u32 x.2.1, .int .u32 x.2.2.1, .int .i64 x.2.2.2]
def rowD : Nat → (Nat → Int × Int × Int × Int) → List Value
  | 0, _ => []
  | n + 1, D => rowD n D ++ doneL (D n)
theorem rowD_length (n : Nat) (D : Nat → Int × Int × Int × Int) : (rowD n D).length = n * 4 := by
  induction n with
  | zero => rfl
  | succ n ih => simp [rowD, ih, doneL]; omega
theorem rowD_get (n : Nat) (D : Nat → Int × Int × Int × Int) (i j : Nat) (hi : i < n) (hj : j < 4) : (rowD n D)[i * 4 + j]? = (doneL (D i))[j]? := by
  induction n with
  | zero => omega
  | succ n ih =>
    simp only [rowD]
    by_cases h : i < n
    · rw [List.getElem?_append_left (by rw [rowD_length]; omega)]; exact ih h
    · obtain rfl : i = n := by omega
      rw [List.getElem?_append_right (by rw [rowD_length]; omega), rowD_length]; congr 1; omega
theorem rowD_congr (n : Nat) (D E : Nat → Int × Int × Int × Int) (h : ∀ i, i < n → D i = E i) : rowD n D = rowD n E := by
  induction n with
  | zero => rfl
  | succ n ih => simp only [rowD]; rw [ih (fun i hi => h i (by omega)), h n (by omega)]
theorem rowD_snoc (d : Nat) (D : Nat → Int × Int × Int × Int) (x : Int × Int × Int × Int) : rowD d D ++ doneL x = rowD (d + 1) (updD D d x) := by
  simp only [rowD]; rw [rowD_congr d (updD D d x) D (fun i hi => by unfold updD; rw [if_neg (by omega)])]; simp [updD]
theorem owns_steps {w : World} {B e d : Nat} {v : Value} {D : Nat → Int × Int × Int × Int} (h : w.ownsRow B e 4 v d (rowD d D)) (hD : ∀ i, i < d → 0 ≤ (D i).2.1 ∧ (D i).2.1 < 4294967296) : ∃ a c, v = .slice a d c ∧ IsSteps w a d D := by
  obtain ⟨h1, h2⟩ := h
  rcases h2 with ⟨rfl, rfl⟩ | ⟨g, cap, cur, hv, hg, hh, hle, hm, hsz, ht⟩
  · exact ⟨none, 0, rfl, .inl rfl⟩
  · refine ⟨_, cap, hv, .inr ⟨g, 0, rfl, lt_of_block hh, fun i hi => ?_⟩⟩
    have hc : ∀ j, j < 4 → w.cell? ⟨g, 0 + i * 4 + j, none⟩ = (doneL (D i))[j]? := fun j hj => by
      rw [cell_of hh, ← rowD_get d D i j hi hj, ← ht, List.getElem?_take, if_pos (by omega), Nat.zero_add, Array.getElem?_toList]
    have := hD i hi
    exact ⟨this.1, this.2, by simpa [doneL] using hc 0 (by omega), by simpa [doneL] using hc 1 (by omega), by simpa [doneL] using hc 2 (by omega), by simpa [doneL] using hc 3 (by omega)⟩

def PlaysRel (w : World) (n : Nat) (a : Option Addr) (l : Nat) (X : Nat → Int × Int × Int × Int) (k : Nat) (h m : Nat) (v : Value) (wr : World) : Prop :=
  ∃ T D d, IsTLB wr (w.heap.size + 1) w.heap.size n h m T ∧ wr.ownsRow (w.heap.size + 2) 42 4 v d (rowD d D) ∧ d ≤ k ∧ h + m = k ∧ Inv n T D d ∧ (∀ i, i < d → 0 ≤ (D i).2.1 ∧ (D i).2.1 < 4294967296) ∧
    Below w.heap.size w wr ∧ IsSteps wr a l X
theorem done_info : (Try.prog.info? 42).map (fun i => (i.zero, i.size, i.bytes)) = some (some (.agg #[.int .i64 0, .int .u32 0, .int .u32 0, .int .i64 0]), 4, 24) := by kernel_rfl

set_option maxHeartbeats 4000000 in
set_option maxRecDepth 100000 in
theorem tlbPlays_walk (w : World) (x0 : Int) (_ : RdV Try.prog w 3 [.int .i64 x0]) (a1 : Option Addr) (l1 c1 : Nat) (h1 : RdV Try.prog w 38 [.slice a1 l1 c1]) :
    Calls Try.prog 6 #[.int .i64 x0, .slice a1 l1 c1] w fun e w' => e = .returned (.bool true) ∧ Below w.heap.size w w' := by
  obtain ⟨⟨X, hX⟩, _⟩ := steps_open h1
  clear h1
  have hn := madeN_pos x0
  have hn2 : madeN x0 ≤ 64 := by have := madeN_le x0; omega
  generalize hm : madeN x0 = n at hn hn2
  have HM := hidE  hm
  clear hm
  go_enter Try.func6, Try.ntmps6
  go_wp2_with fail
  refine (made_any x0 _).mono ?_
  rw [HM.out]
  rintro e w1 ⟨rfl, hk, hT⟩
  have hstart : PlaysRel w n a1 l1 X 0 0 0 (.slice none 0 0) w1 := ⟨_, fun _ => (0, 0, 0, 0), 0, hT, World.ownsRow_nil _ _ _ _, by omega, rfl, fun page _ => by simp [lookT, blankS, refK], fun i hi => by omega, same_below hk, hX.below (same_below hk)⟩
  have HSt := hidE  hstart
  have HX0 := hidE  hX
  clear hstart hk hT hX
  go_wp2_with fail
  go_loopw [7, 8, 9, 10] (fun t7 t8 t9 t10 wr => ∃ k h m : Nat, t10 = .int .i64 k ∧ t8 = .int .i64 h ∧ t9 = .int .i64 m ∧ k ≤ l1 ∧ k ≤ 100 ∧ PlaysRel w n a1 l1 X k h m t7 wr) (fun _ _ _ t10 _ => (100 - intOf t10).toNat)
  case atStart => exact ⟨0, 0, 0, rfl, rfl, rfl, by omega, by omega, HSt.out⟩
  case round =>
    obtain ⟨k, h, m, rfl, rfl, rfl, hkl, hk100, hR⟩ := hrel
    clear HSt
    obtain ⟨T, D, d, hT, hO, hdk, hhm, hI, hDr, hb, hS⟩ := hR
    obtain ⟨da, dc, rfl, hDS⟩ := owns_steps hO hDr
    have hh1 : (h : Int) ≤ 1000 := by omega
    have hm1 : (m : Int) ≤ 1000 := by omega
    by_cases hlt : k < l1 ∧ k < 100
    · obtain ⟨hlt1, hlt2⟩ := hlt
      rcases hS with h0 | ⟨b, off, rfl, hbl, hx⟩
      · omega
      have hS : IsSteps wr (some ⟨b, off, none⟩) l1 X := .inr ⟨b, off, rfl, hbl, hx⟩
      obtain ⟨p0, p2, d0, d1, d2, d3⟩ := hx k hlt1
      clear hx
      generalize X k = x at p0 p2 d0 d1 d2 d3
      obtain ⟨kd, pg, bt, fr⟩ := x
      simp only at p0 p2 d0 d1 d2 d3
      have hT' := fun o => hT.keeps ((Keeps.refl (fun _ => False) wr).alloc o) id id
      go_wp2_with fail
      refine (do_any _ _ n h m kd pg bt fr T _ hn hn2 p0 p2 (hT' _)).mono ?_
      rintro e w3 ⟨rfl, hk3, hT3⟩
      have hwr : w.heap.size + 1 < wr.heap.size := lt_of_block hT.hb
      have B1 := hk3.get (block_new wr _) (by omega)
      have e1 := cell_of B1
      have hO3 := owns_keeps (hO.alloc _) hk3 (fun g hg => by omega)
      have hb3 : Below w.heap.size w w3 := (hb.alloc hb.size _).trans (Keeps.below hk3 (by simp; have := hb.size; omega) (fun k hk' => by omega))
      have hX : IsSteps w (some ⟨b, off, none⟩) l1 X := HX0.out
      have hz3 : wr.heap.size + 1 ≤ w3.heap.size := by have := hk3.size; simpa using this
      by_cases hkd : 0 ≤ kd ∧ kd ≤ 2
      · have hI3 := inv_step hn hI kd pg bt fr hkd p0
        obtain ⟨kd0, kd2⟩ := hkd
        have HG := hidE  (And.intro hk3 (And.intro hT3 (And.intro hO3 (And.intro hI3 hb3))))
        clear hk3 hT3 hb3 hI3 hT' hS d0 d1 d2 d3 hb hI
        obtain ⟨i0, hi, hz0, hz1, hz2⟩ := info_parts done_info
        have hOw := fun g (e : (Value.slice da d dc).ownBlock = some g) => (hO.lt g e)
        have HO := hidE  hO
        clear hO
        go_wp2_with (at_builtin; refine wpList_append_own _ rfl (.tmp 52) (.tmp 62) 41 rfl (w.heap.size + 2) 42 i0 _ 4 24 Try.underlying41 hi hz0 hz1 hz2 rfl (by decide) (.slice da d dc) d (rowD d D) rfl (hO3.alloc _) ⟨w3.heap.size, 0, none⟩ 1 1 (doneL (kd, pg, bt, fr)) rfl rfl ?c1 ?c2 ?c3 ?c4 ?c5 ?_)
        case c1 =>
          intro j u hj
          have hb := block_new w3 (.cells #[.int .i64 kd, .int .u32 pg, .int .u32 bt, .int .i64 fr] 42)
          have hlt : j < 4 := by
            rcases Nat.lt_or_ge j 4 with h | h
            · exact h
            · rw [List.getElem?_eq_none (by simp [doneL]; omega)] at hj; cases hj
          have := cell_of hb j
          unfold Addr.add
          rcases (show j = 0 ∨ j = 1 ∨ j = 2 ∨ j = 3 by omega) with rfl | rfl | rfl | rfl <;> simp [doneL] at hj <;> subst hj <;> simp [this]
        case c2 => intro u hu; simp [doneL] at hu; rcases hu with rfl | rfl | rfl | rfl <;> rfl
        case c3 => unfold maxLen; omega
        case c4 => omega
        case c5 => simp; omega
        intro v' w5 hown' hgrow _
        rw [rowD_snoc] at hown'
        have hDr' : ∀ i, i < d + 1 → 0 ≤ (updD D d (kd, pg, bt, fr) i).2.1 ∧ (updD D d (kd, pg, bt, fr) i).2.1 < 4294967296 := fun i hi => by
          unfold updD
          by_cases e : i = d
          · rw [if_pos e]; exact ⟨p0, p2⟩
          · rw [if_neg e]; exact hDr i (by omega)
        obtain ⟨za, zc, rfl, hDx⟩ := owns_steps hown' hDr'
        obtain ⟨hk3, hT3, _, hIx, hb3⟩ := HG.out
        have Bx : w5.heap[wr.heap.size]? = some (.cells #[.int .i64 kd, .int .u32 pg, .int .u32 bt, .int .i64 fr] 24) := by
          rw [hgrow.block wr.heap.size (by simp; omega) (fun e => by have := hOw _ e.symm; omega)]
          exact block_old _ B1
        have hkx : Keeps (fun g => w.heap.size + 2 ≤ g) w3 w5 := ((Keeps.refl _ w3).alloc _).trans (keeps_grown hgrow (fun k e => (hOw k e).1))
        have hTx := hT3.keeps hkx (by omega) (by omega)
        have hbx : Below w.heap.size w w5 := hb3.trans (Keeps.below hkx hb3.size (fun k hk' => by omega))
        have hOx := hown'
        have hDrx := hDr'
        have hown : ∀ b' o', za = some ⟨b', o', none⟩ → b' ≠ w.heap.size + 1 := fun b' o' e => by
          have := hOx.lt b' (by rw [e]; rfl); omega
        clear hgrow hown' hDr' hi hz0 hz1 hz2 e1 B1 HG hk3 hT3 hb3 hkx HO hO3 hOw hDS
        generalize doT T n kd pg bt fr = T' at *
        generalize updD D d (kd, pg, bt, fr) = E at *
        obtain ⟨z, hz⟩ : ∃ z, z = d + 1 := ⟨_, rfl⟩
        have hzk : z ≤ k + 1 := by omega
        rw [← hz] at hOx hIx hDrx hDx ⊢
        clear hz
        obtain ⟨wx, rfl⟩ : ∃ wx : World, wx = w5 := ⟨_, rfl⟩
        have ex := cell_of Bx
        have HBx := hidE  (And.intro hTx (And.intro hOx (And.intro hIx (And.intro hDrx hbx))))
        have hLr : refK n E pg z = lookT T' n pg := (hIx pg p0).symm
        by_cases hit : (T' (pg % n).toNat).there = true ∧ (T' (pg % n).toNat).page = pg
        · have hLk : lookT T' n pg = some ((T' (pg % n).toNat).bits, (T' (pg % n).toNat).frame) := if_pos hit
          rw [hLk] at hLr
          have HL := hidE  hLr
          have hit' := hidE  hit
          clear hLr hLk hit hTx hOx hIx hDrx hbx
          go_wp2_with fail
          refine (look_any _ _ n h m pg _ _ hn hn2 p0 p2 (by omega) hh1 (by omega) hm1 HBx.out.1).mono ?_
          rintro e w6 ⟨hk6, hr⟩
          rw [if_pos hit'.out] at hr
          obtain ⟨rfl, hT6⟩ := hr
          have B6 := hk6.get Bx (by have := hT.hb; have := lt_of_block this; omega)
          have hDx6 : IsSteps w6 za z E := by
            rcases hDx with h0 | ⟨b', off', rfl, hbl', hx'⟩
            · exact .inl h0
            · refine .inr ⟨b', off', rfl, Nat.lt_of_lt_of_le hbl' hk6.size, fun i hi => ?_⟩
              have hne : b' ≠ w.heap.size + 1 := hown _ _ rfl
              have hcell : ∀ o, w6.cell? ⟨b', o, none⟩ = wx.cell? ⟨b', o, none⟩ := fun o => World.cell?_of_block (w := wx) (hk6.block b' hbl' hne)
              simp only [hcell]; exact hx' i hi
          have e6 := cell_of B6
          have HB6 := hidE  (And.intro hk6 hT6)
          clear ex Bx hk6 hT6 hDx
          go_wp2_with fail
          refine (ref_any n hn hn2 za z zc (by omega) E pg p0 p2 w6 hDx6).mono ?_
          rw [HL.out]
          rintro e w7 ⟨rfl, hk7⟩
          have HB7 := hidE  hk7
          clear hk7 hDx6 e6 B6
          generalize (T' (pg % n).toNat).bits = bb at *
          generalize (T' (pg % n).toNat).frame = ff at *
          simp only [ansV]
          go_wp2
          go_roundw
          case rel =>
            obtain ⟨hk6, hT6⟩ := HB6.out
            obtain ⟨_, hOx, hIx, hDrx, hbx⟩ := HBx.out
            have hO6 := owns_keeps hOx hk6 (fun g hg => by omega)
            have hb6 := hbx.trans (Keeps.below hk6 hbx.size (fun k hk' => by omega))
            have hb7 := hb6.trans (Keeps.below HB7.out hb6.size (fun _ _ => id))
            exact ⟨k + 1, h + 1, m, by go_num, by go_num, rfl, by omega, by omega, T', E, z, hT6.keeps HB7.out id id, owns_keeps hO6 HB7.out (fun _ _ => id), by omega, by omega, hIx, hDrx, hb7, hX.below hb7⟩
          case measure => simp [intOf]; omega
        · have hLk : lookT T' n pg = none := if_neg hit
          rw [hLk] at hLr
          have HL := hidE  hLr
          have hit' := hidE  hit
          clear hLr hLk hit hTx hOx hIx hDrx hbx
          go_wp2_with fail
          refine (look_any _ _ n h m pg _ _ hn hn2 p0 p2 (by omega) hh1 (by omega) hm1 HBx.out.1).mono ?_
          rintro e w6 ⟨hk6, hr⟩
          rw [if_neg hit'.out] at hr
          obtain ⟨rfl, hT6⟩ := hr
          have B6 := hk6.get Bx (by have := hT.hb; have := lt_of_block this; omega)
          have hDx6 : IsSteps w6 za z E := by
            rcases hDx with h0 | ⟨b', off', rfl, hbl', hx'⟩
            · exact .inl h0
            · refine .inr ⟨b', off', rfl, Nat.lt_of_lt_of_le hbl' hk6.size, fun i hi => ?_⟩
              have hne : b' ≠ w.heap.size + 1 := hown _ _ rfl
              have hcell : ∀ o, w6.cell? ⟨b', o, none⟩ = wx.cell? ⟨b', o, none⟩ := fun o => World.cell?_of_block (w := wx) (hk6.block b' hbl' hne)
              simp only [hcell]; exact hx' i hi
          have e6 := cell_of B6
          have HB6 := hidE  (And.intro hk6 hT6)
          clear ex Bx hk6 hT6 hDx
          go_wp2_with fail
          refine (ref_any n hn hn2 za z zc (by omega) E pg p0 p2 w6 hDx6).mono ?_
          rw [HL.out]
          rintro e w7 ⟨rfl, hk7⟩
          have HB7 := hidE  hk7
          clear hk7 hDx6 e6 B6
          simp only [ansV]
          go_wp2
          go_roundw
          case rel =>
            obtain ⟨hk6, hT6⟩ := HB6.out
            obtain ⟨_, hOx, hIx, hDrx, hbx⟩ := HBx.out
            have hO6 := owns_keeps hOx hk6 (fun g hg => by omega)
            have hb6 := hbx.trans (Keeps.below hk6 hbx.size (fun k hk' => by omega))
            have hb7 := hb6.trans (Keeps.below HB7.out hb6.size (fun _ _ => id))
            exact ⟨k + 1, h, m + 1, by go_num, rfl, by go_num, by omega, by omega, T', E, z, hT6.keeps HB7.out id id, owns_keeps hO6 HB7.out (fun _ _ => id), by omega, by omega, hIx, hDrx, hb7, hX.below hb7⟩
          case measure => simp [intOf]; omega
      · have hT0 : doT T n kd pg bt fr = T := by
          unfold doT; rw [if_neg (by omega), if_neg (by omega), if_neg (by omega)]
        rw [hT0] at hT3
        obtain ⟨za, zc, hz, hDx⟩ := owns_steps hO3 hDr
        have hown0 := fun g (e : (Value.slice da d dc).ownBlock = some g) => (hO3.lt g e)
        simp only [Value.slice.injEq, true_and] at hz
        obtain ⟨rfl, rfl⟩ := hz
        have hown : ∀ b' o', da = some ⟨b', o', none⟩ → b' ≠ w.heap.size + 1 := fun b' o' e => by
          have := hown0 b' (by rw [e]; rfl); omega
        have Bx := B1
        have hTx := hT3
        have hOx := hO3
        have hIx := hI
        have hDrx := hDr
        have hbx := hb3
        have ways : (kd < 0) ∨ (0 ≤ kd ∧ 2 < kd) := by omega
        clear hk3 hT3 hT' hS d0 d1 d2 d3 hb hI hT0 hO hO3 hDr hDS hb3 B1 e1 hkd hown0
        obtain ⟨wx, rfl⟩ : ∃ wx : World, wx = w3 := ⟨_, rfl⟩
        obtain ⟨E, rfl⟩ : ∃ E, E = D := ⟨_, rfl⟩
        obtain ⟨z, rfl⟩ : ∃ z, z = d := ⟨_, rfl⟩
        obtain ⟨T', rfl⟩ : ∃ T', T' = T := ⟨_, rfl⟩
        obtain ⟨za, rfl⟩ : ∃ za, za = da := ⟨_, rfl⟩
        obtain ⟨zc, rfl⟩ : ∃ zc, zc = dc := ⟨_, rfl⟩
        rcases ways with ways | ⟨ways, ways'⟩
        all_goals
          have ex := cell_of Bx
          have HBx := hidE  (And.intro hTx (And.intro hOx (And.intro hIx (And.intro hDrx hbx))))
          have hLr : refK n E pg z = lookT T' n pg := (hIx pg p0).symm
          by_cases hit : (T' (pg % n).toNat).there = true ∧ (T' (pg % n).toNat).page = pg
          · have hLk : lookT T' n pg = some ((T' (pg % n).toNat).bits, (T' (pg % n).toNat).frame) := if_pos hit
            rw [hLk] at hLr
            have HL := hidE  hLr
            have hit' := hidE  hit
            clear hLr hLk hit hTx hOx hIx hDrx hbx
            go_wp2_with fail
            refine (look_any _ _ n h m pg _ _ hn hn2 p0 p2 (by omega) hh1 (by omega) hm1 HBx.out.1).mono ?_
            rintro e w6 ⟨hk6, hr⟩
            rw [if_pos hit'.out] at hr
            obtain ⟨rfl, hT6⟩ := hr
            have B6 := hk6.get Bx (by have := hT.hb; have := lt_of_block this; omega)
            have hDx6 : IsSteps w6 za z E := by
              rcases hDx with h0 | ⟨b', off', rfl, hbl', hx'⟩
              · exact .inl h0
              · refine .inr ⟨b', off', rfl, Nat.lt_of_lt_of_le hbl' hk6.size, fun i hi => ?_⟩
                have hne : b' ≠ w.heap.size + 1 := hown _ _ rfl
                have hcell : ∀ o, w6.cell? ⟨b', o, none⟩ = wx.cell? ⟨b', o, none⟩ := fun o => World.cell?_of_block (w := wx) (hk6.block b' hbl' hne)
                simp only [hcell]; exact hx' i hi
            have e6 := cell_of B6
            have HB6 := hidE  (And.intro hk6 hT6)
            clear ex Bx hk6 hT6 hDx
            go_wp2_with fail
            refine (ref_any n hn hn2 za z zc (by omega) E pg p0 p2 w6 hDx6).mono ?_
            rw [HL.out]
            rintro e w7 ⟨rfl, hk7⟩
            have HB7 := hidE  hk7
            clear hk7 hDx6 e6 B6
            generalize (T' (pg % n).toNat).bits = bb at *
            generalize (T' (pg % n).toNat).frame = ff at *
            simp only [ansV]
            go_wp2
            go_roundw
            case rel =>
              obtain ⟨hk6, hT6⟩ := HB6.out
              obtain ⟨_, hOx, hIx, hDrx, hbx⟩ := HBx.out
              have hO6 := owns_keeps hOx hk6 (fun g hg => by omega)
              have hb6 := hbx.trans (Keeps.below hk6 hbx.size (fun k hk' => by omega))
              have hb7 := hb6.trans (Keeps.below HB7.out hb6.size (fun _ _ => id))
              exact ⟨k + 1, h + 1, m, by go_num, by go_num, rfl, by omega, by omega, T', E, z, hT6.keeps HB7.out id id, owns_keeps hO6 HB7.out (fun _ _ => id), by omega, by omega, hIx, hDrx, hb7, hX.below hb7⟩
            case measure => simp [intOf]; omega
          · have hLk : lookT T' n pg = none := if_neg hit
            rw [hLk] at hLr
            have HL := hidE  hLr
            have hit' := hidE  hit
            clear hLr hLk hit hTx hOx hIx hDrx hbx
            go_wp2_with fail
            refine (look_any _ _ n h m pg _ _ hn hn2 p0 p2 (by omega) hh1 (by omega) hm1 HBx.out.1).mono ?_
            rintro e w6 ⟨hk6, hr⟩
            rw [if_neg hit'.out] at hr
            obtain ⟨rfl, hT6⟩ := hr
            have B6 := hk6.get Bx (by have := hT.hb; have := lt_of_block this; omega)
            have hDx6 : IsSteps w6 za z E := by
              rcases hDx with h0 | ⟨b', off', rfl, hbl', hx'⟩
              · exact .inl h0
              · refine .inr ⟨b', off', rfl, Nat.lt_of_lt_of_le hbl' hk6.size, fun i hi => ?_⟩
                have hne : b' ≠ w.heap.size + 1 := hown _ _ rfl
                have hcell : ∀ o, w6.cell? ⟨b', o, none⟩ = wx.cell? ⟨b', o, none⟩ := fun o => World.cell?_of_block (w := wx) (hk6.block b' hbl' hne)
                simp only [hcell]; exact hx' i hi
            have e6 := cell_of B6
            have HB6 := hidE  (And.intro hk6 hT6)
            clear ex Bx hk6 hT6 hDx
            go_wp2_with fail
            refine (ref_any n hn hn2 za z zc (by omega) E pg p0 p2 w6 hDx6).mono ?_
            rw [HL.out]
            rintro e w7 ⟨rfl, hk7⟩
            have HB7 := hidE  hk7
            clear hk7 hDx6 e6 B6
            simp only [ansV]
            go_wp2
            go_roundw
            case rel =>
              obtain ⟨hk6, hT6⟩ := HB6.out
              obtain ⟨_, hOx, hIx, hDrx, hbx⟩ := HBx.out
              have hO6 := owns_keeps hOx hk6 (fun g hg => by omega)
              have hb6 := hbx.trans (Keeps.below hk6 hbx.size (fun k hk' => by omega))
              have hb7 := hb6.trans (Keeps.below HB7.out hb6.size (fun _ _ => id))
              exact ⟨k + 1, h, m + 1, by go_num, rfl, by go_num, by omega, by omega, T', E, z, hT6.keeps HB7.out id id, owns_keeps hO6 HB7.out (fun _ _ => id), by omega, by omega, hIx, hDrx, hb7, hX.below hb7⟩
            case measure => simp [intOf]; omega
    · have HH := hidE  (And.intro hhm (And.intro hT hb))
      clear hhm hI hDr hb hS hO hDS
      by_cases hl1 : k < l1
      · have hl2 : ¬ k < 100 := fun h => hlt ⟨hl1, h⟩
        clear hlt
        go_wp2_with fail
        refine (counts_any _ _ n _ _ _ _ hn HH.out.2.1).mono ?_
        rintro e w3 ⟨rfl, hk3⟩
        go_wp2
        go_ret
        exact ⟨rfl, HH.out.2.2.trans (Keeps.below hk3 HH.out.2.2.size (fun _ _ => id))⟩
      · clear hlt
        go_wp2_with fail
        refine (counts_any _ _ n _ _ _ _ hn HH.out.2.1).mono ?_
        rintro e w3 ⟨rfl, hk3⟩
        go_wp2
        go_ret
        exact ⟨rfl, HH.out.2.2.trans (Keeps.below hk3 HH.out.2.2.size (fun _ _ => id))⟩
end Go.Proofs.Ytebponllpjpbeaa
