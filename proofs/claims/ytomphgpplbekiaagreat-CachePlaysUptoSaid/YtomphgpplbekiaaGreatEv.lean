/- A region that draws its order, whose first n operations only read: they may be taken in the order of the text, if what they read holds in every world that the other operations up to m can make; from n on the operations wait for one another; from m on each waits for all of the first n. No program is named here. The same law for regions that draw their order, with the order of the reading operations given as a list. No program is named here. -/
import Derived.Test.YtomphgpplbekiaaGreatHeap
import Derived.OrdersHeld
import Derived.StillTail
import Derived.StillTactics
namespace Go.Proofs.YtomphgpplbekiaaGreat
open Go.RowKit
section
variable {P : Program} {ops : Array Oper} {Q : Exit → Act → World → Prop} {md : Region.Mode} {S : World → Prop}
/-- Whatever order is picked, and S holds behind each operation below m. -/
def wpAnyT (P : Program) (md : Region.Mode) (ops : Array Oper) (Q : Exit → Act → World → Prop) (S : World → Prop) (m : Nat) : Nat → Array Bool → Act → World → Prop
  | 0, listed, a, w => Region.ready md ops listed = [] ∧ Q .normal a w
  | fuel + 1, listed, a, w =>
    (Region.ready md ops listed = [] → Q .normal a w) ∧
    ∀ i ∈ Region.ready md ops listed, wpOp P ops Q i (fun a' w' => (i < m → S w') ∧ wpAnyT P md ops Q S m fuel (listed.setIfInBounds i true) a' w') a w
theorem wpAny_of_T {m : Nat} : ∀ (fuel : Nat) (listed : Array Bool) (a : Act) (w : World), wpAnyT P md ops Q S m fuel listed a w → wpAny P md ops Q fuel listed a w
  | 0, _, _, _, h => h
  | fuel + 1, _, _, _, h => ⟨h.1, fun i hi => wpOp_mono (fun a' w' h' => wpAny_of_T fuel _ a' w' h'.2) (h.2 i hi)⟩
def lateB (md : Region.Mode) (ops : Array Oper) (n m : Nat) : Bool :=
  (List.range ops.size).all fun t => decide (t < m) || (List.range n).all fun i => Region.waitsFor md ops t i
theorem late_waits {n m i : Nat} {listed : Array Bool} (h : lateB md ops n m = true) (hin : i < n) (hun : listed.getD i true = false) {t : Nat} (ht : t ∈ Region.ready md ops listed) : t < m := by
  obtain ⟨_, ot, hot, hall⟩ := mem_ready.1 ht
  have htlt : t < ops.size := (Array.getElem?_eq_some_iff.1 hot).1
  have h1 := List.all_eq_true.1 h t (List.mem_range.2 htlt)
  simp only [Bool.or_eq_true, decide_eq_true_eq] at h1
  rcases h1 with h1 | h1
  · exact h1
  · obtain ⟨o', ho', e, he, hb, hon⟩ := Region.waitsFor_spec (List.all_eq_true.1 h1 i (List.mem_range.2 hin))
    have : o' = ot := Option.some.inj (ho'.symm.trans hot)
    subst this
    have h2 := hall e he hb
    rw [hon, getD_both hun] at h2
    cases h2
theorem wpAnyT_first {n m i : Nat} {oi : Oper} {v : Value} (hi : ops[i]? = some oi) (hsel : ∀ (j : Nat) (o : Oper) cs b, ops[j]? = some o → o.op ≠ .select cs b)
    (hQ : ∀ c a w, Q (.panic c) (a.put oi.dst v) w → Q (.panic c) a w) (hl : lateB md ops n m = true) (hin : i < n) :
    ∀ (fuel : Nat) (listed : Array Bool) (a : Act) (w : World),
      (∀ j oj, ops[j]? = some oj → j ≠ i → listed.getD j true = false → (∀ e ∈ oj.after, Region.binds md e = true → e.on ≠ i) → oi.apart ops oj = true) →
      i ∈ Region.ready md ops listed → YieldsIf P ops S oi v a → S w →
      wpAnyT P md ops Q S m fuel (listed.setIfInBounds i true) (a.put oi.dst v) w → wpAnyT P md ops Q S m (fuel + 1) listed a w := by
  intro fuel
  induction fuel with
  | zero =>
    intro listed a w _ hr hy hS H
    refine ⟨fun h => (by rw [h] at hr; cases hr), fun j hj => ?_⟩
    by_cases hji : j = i
    · subst hji; exact hy.wpOp hi hS ⟨fun _ => hS, H⟩
    · have := ready_mono hj hji
      rw [H.1] at this
      cases this
  | succ fuel ih =>
    intro listed a w hfree hr hy hS H
    refine ⟨fun h => (by rw [h] at hr; cases hr), fun j hj => ?_⟩
    by_cases hji : j = i
    · subst hji; exact hy.wpOp hi hS ⟨fun _ => hS, H⟩
    · have h1 := H.2 j (ready_mono hj hji)
      obtain ⟨hjun, oj, hoj, hall⟩ := mem_ready.1 hj
      have hun := (mem_ready.1 hr).1
      have hjm : j < m := late_waits hl hin hun hj
      have hnot : ∀ e ∈ oj.after, Region.binds md e = true → e.on ≠ i := fun e he hb heq => by
        have h1 := hall e he hb
        rw [heq, getD_both hun] at h1
        cases h1
      have h2 := wpOp_putIf hoj (hfree j oj hoj hji hjun hnot) (fun cs b => hsel i oi cs b hi) (fun cs b => hsel j oj cs b hoj) hQ hy h1
      have hfree' : ∀ k ok, ops[k]? = some ok → k ≠ i → (listed.setIfInBounds j true).getD k true = false →
          (∀ e ∈ ok.after, Region.binds md e = true → e.on ≠ i) → oi.apart ops ok = true := fun k ok hk hki hun hno => by
        refine hfree k ok hk hki ?_ hno
        by_cases hjk : j = k
        · subst hjk; exact hjun
        · rw [getD_set_ne true hjk] at hun; exact hun
      refine wpOp_mono (fun a' w' h3 => ⟨fun _ => h3.2.1 hjm, ih (listed.setIfInBounds j true) a' w' hfree' (ready_mono hr (Ne.symm hji)) h3.1 (h3.2.1 hjm) ?_⟩) h2
      rw [Array.setIfInBounds_comm _ _ hji]
      exact h3.2.2
/-- The first operations, one behind the other: each yields its value in every world that meets S. -/
def stS (P : Program) (ops : Array Oper) (S : World → Prop) (L : Act → Prop) : List Oper → Act → Prop
  | [], a => L a
  | o :: l, a => ∃ v, YieldsIf P ops S o v a ∧ stS P ops S L l (a.put o.dst v)
theorem stS_cons {L : Act → Prop} {o : Oper} {l : List Oper} {a : Act} {v : Value} (hg : o.guard = none) (h : ∀ u, S u → (execOp a.eval o).run P u = .ok (.value v) u) (h2 : stS P ops S L l (a.put o.dst v)) : stS P ops S L (o :: l) a :=
  ⟨v, .inl ⟨by simp [Region.wanted, hg], h⟩, h2⟩
theorem stS_yes {L : Act → Prop} {o : Oper} {l : List Oper} {a : Act} {v : Value} (hg : Region.wanted o (yielded ops a.tmps) = true) (h : ∀ u, S u → (execOp a.eval o).run P u = .ok (.value v) u) (h2 : stS P ops S L l (a.put o.dst v)) : stS P ops S L (o :: l) a :=
  ⟨v, .inl ⟨hg, h⟩, h2⟩
theorem stS_no {L : Act → Prop} {o : Oper} {l : List Oper} {a : Act} (hg : Region.wanted o (yielded ops a.tmps) = false) (h2 : stS P ops S L l (a.put o.dst undef)) : stS P ops S L (o :: l) a :=
  ⟨undef, .inr ⟨hg, rfl⟩, h2⟩
theorem stS_nil {L : Act → Prop} {a : Act} (h : L a) : stS P ops S L [] a := h
/-- What is asked behind one operation. -/
def Then1 (K : Act → World → Prop) (Q : Exit → Act → World → Prop) : Exit → Act → World → Prop
  | .normal, a, w => K a w
  | e, a, w => Q e a w
/-- The other operations: S is shown behind the first c of them. -/
def wpListS (P : Program) (ops : Array Oper) (Q : Exit → Act → World → Prop) (S : World → Prop) : Nat → List Oper → Act → World → Prop
  | 0, l, a, w => wpList P ops Q l a w
  | _ + 1, [], a, w => Q .normal a w
  | c + 1, o :: l, a, w => wpList P ops (Then1 (fun a' w' => S w' ∧ wpListS P ops Q S c l a' w') Q) [o] a w
theorem wpOp_of_one {k : Nat} {o : Oper} {a : Act} {w : World} {K : Act → World → Prop} (hk : ops[k]? = some o) (h : wpList P ops (Then1 K Q) [o] a w) : wpOp P ops Q k K a w := by
  unfold wpOp
  simp only [hk]
  exact h
theorem wpAnyT_of_seq {m : Nat} : ∀ (l : List Oper) (k c : Nat) (listed : Array Bool) (a : Act) (w : World), (∀ j, l[j]? = ops[k + j]?) →
    Region.seqB md ops l.length k listed = true → m - k = c → wpListS P ops Q S c l a w → wpAnyT P md ops Q S m l.length listed a w
  | [], _, c, _, _, _, _, hB, _, h => ⟨by simpa [Region.seqB] using hB, by cases c <;> exact h⟩
  | o :: l, k, c, listed, a, w, hl, hB, hc, h => by
    have h0 : ops[k]? = some o := by simpa using (hl 0).symm
    have hl' : ∀ j, l[j]? = ops[k + 1 + j]? := fun j => by have := hl (j + 1); simpa [Nat.add_assoc, Nat.add_comm 1 j] using this
    simp only [List.length_cons, Region.seqB, Bool.and_eq_true, decide_eq_true_eq] at hB
    refine ⟨fun h1 => (by rw [hB.1] at h1; cases h1), fun i hi => ?_⟩
    rw [hB.1] at hi
    have hik : i = k := by simpa using hi
    subst hik
    cases c with
    | zero =>
      have hw : wpOp P ops Q i (wpList P ops Q l) a w := by unfold wpOp; simp only [h0]; exact h
      exact wpOp_mono (fun a' w' h' => ⟨fun hh => by omega, wpAnyT_of_seq l (i + 1) 0 _ a' w' hl' hB.2 (by omega) h'⟩) hw
    | succ c =>
      refine wpOp_mono (fun a' w' h' => ⟨fun _ => h'.1, wpAnyT_of_seq l (i + 1) c _ a' w' hl' hB.2 (by omega) h'.2⟩) (wpOp_of_one h0 h)
theorem wpAnyT_lex {n m g : Nat} {w : World} {tl : List Oper} (hsel : Region.noSelect ops = true) (hl2 : lateB md ops n m = true) (hS : S w) (hg : tl.length = g) (htl : ∀ j, tl[j]? = ops[n + j]?) (hQ : ∀ c (a : Act) d v w, Q (.panic c) (a.put d v) w → Q (.panic c) a w) :
    ∀ (l : List Oper) (k : Nat) (listed : Array Bool) (a : Act), (∀ j, j < l.length → l[j]? = ops[k + j]?) → k + l.length = n →
    Region.lexHead md ops g l.length k listed = true → stS P ops S (fun a' => wpListS P ops Q S (m - n) tl a' w) l a →
    wpAnyT P md ops Q S m (l.length + g) listed a w
  | [], k, listed, a, hl, hk, hB, h => by
    have : k = n := by simpa using hk
    subst this
    subst hg
    have hB' : Region.seqB md ops tl.length k listed = true := by simpa [Region.lexHead] using hB
    simpa using wpAnyT_of_seq tl k (m - k) listed a w htl hB' rfl h
  | o :: l, k, listed, a, hl, hk, hB, h => by
    have h0 : ops[k]? = some o := by simpa using (hl 0 (by simp)).symm
    simp only [List.length_cons, Region.lexHead, Bool.and_eq_true] at hB
    obtain ⟨⟨hr, hf⟩, hB'⟩ := hB
    have hkn : k < n := by simp only [List.length_cons] at hk; omega
    have hr' : k ∈ Region.ready md ops listed := by simpa using hr
    obtain ⟨v, hy, hK⟩ := h
    rw [show (o :: l).length + g = (l.length + g) + 1 by simp only [List.length_cons]; omega]
    exact wpAnyT_first h0 (Region.noSelect_spec hsel) (fun c a' w' hh => hQ c a' _ _ w' hh) hl2 hkn (l.length + g) listed a w (Region.free_spec h0 hf) hr' hy hS
      (wpAnyT_lex hsel hl2 hS hg htl hQ l (k + 1) _ _ (fun j hj => by have := hl (j + 1) (by simp; omega); simpa [Nat.add_assoc, Nat.add_comm 1 j] using this) (by simp only [List.length_cons] at hk; omega) hB' hK)
def evB (md : Region.Mode) (ops : Array Oper) (n m : Nat) : Bool :=
  Region.noSelect ops && decide (n ≤ ops.size) && lateB md ops n m && Region.lexHead md ops (ops.size - n) n 0 (Array.replicate ops.size false)
end
theorem wpListS_cons {P : Program} {ops : Array Oper} {Q : Exit → Act → World → Prop} {S : World → Prop} {c : Nat} {o : Oper} {l : List Oper} {a : Act} {w : World}
    (h : wpList P ops (Then1 (fun a' w' => S w' ∧ wpListS P ops Q S c l a' w') Q) [o] a w) : wpListS P ops Q S (c + 1) (o :: l) a w := h
theorem wpListS_zero {P : Program} {ops : Array Oper} {Q : Exit → Act → World → Prop} {S : World → Prop} {l : List Oper} {a : Act} {w : World} (h : wpList P ops Q l a w) : wpListS P ops Q S 0 l a w := h
theorem Then1_mk {K : Act → World → Prop} {Q : Exit → Act → World → Prop} {a : Act} {w : World} (h : K a w) : Then1 K Q .normal a w := h
/-- The beginning. -/
theorem wp_region_ev {P : Program} {id : Nat} {Q : Exit → Act → World → Prop} {a : Act} {w : World} {l : List Oper} (n m c : Nat) (hc : m - n = c) (S : World → Prop) (hm : P.follows .mixedOrders = true) (hB : evB .any l.toArray n m = true)
    (hQ : ∀ c (a : Act) d v w, Q (.panic c) (a.put d v) w → Q (.panic c) a w) (hS : S w.drew)
    (h : stS P l.toArray S (fun a' => wpListS P l.toArray Q S c (l.drop n) a' w.drew) (l.take n) a) : (Code.region id l.toArray true).wp P Q a w := by
  subst hc
  simp only [evB, Bool.and_eq_true, decide_eq_true_eq] at hB
  obtain ⟨⟨⟨hsel, hn⟩, hl⟩, hlex⟩ := hB
  have hn' : n ≤ l.length := by simpa using hn
  have htl : (l.take n).length = n := by simp; omega
  have hdl : (l.drop n).length = l.toArray.size - n := by simp
  refine wp_region_any hm (wpAny_of_T (S := S) (m := m) _ _ _ _ ?_)
  have hx := wpAnyT_lex (P := P) (Q := Q) (S := S) (w := w.drew) (tl := l.drop n) hsel hl hS hdl (fun j => by simp) hQ (l.take n) 0 (Array.replicate l.toArray.size false) a
    (fun j hj => by rw [htl] at hj; simp [hj]) (by simpa using htl) (by rw [htl]; exact hlex) h
  rw [htl] at hx
  have : n + (l.toArray.size - n) = l.toArray.size := by simp; omega
  rw [this] at hx
  exact hx
end Go.Proofs.YtomphgpplbekiaaGreat
namespace Go.Proofs.YtomphgpplbekiaaGreat
open Go.RowKit
section
variable {P : Program} {ops : Array Oper} {Q : Exit → Act → World → Prop} {md : Region.Mode} {S : World → Prop}
/-- Whatever order is picked, and S holds behind each of the early operations. -/
def wpAnyE (P : Program) (md : Region.Mode) (ops : Array Oper) (Q : Exit → Act → World → Prop) (S : World → Prop) (ea : List Nat) : Nat → Array Bool → Act → World → Prop
  | 0, listed, a, w => Region.ready md ops listed = [] ∧ Q .normal a w
  | fuel + 1, listed, a, w =>
    (Region.ready md ops listed = [] → Q .normal a w) ∧
    ∀ i ∈ Region.ready md ops listed, wpOp P ops Q i (fun a' w' => (ea.contains i = true → S w') ∧ wpAnyE P md ops Q S ea fuel (listed.setIfInBounds i true) a' w') a w
theorem wpAny_of_E {ea : List Nat} : ∀ (fuel : Nat) (listed : Array Bool) (a : Act) (w : World), wpAnyE P md ops Q S ea fuel listed a w → wpAny P md ops Q fuel listed a w
  | 0, _, _, _, h => h
  | fuel + 1, _, _, _, h => ⟨h.1, fun i hi => wpOp_mono (fun a' w' h' => wpAny_of_E fuel _ a' w' h'.2) (h.2 i hi)⟩
/-- Who is not early waits for all of them. -/
def lateE (md : Region.Mode) (ops : Array Oper) (is ea : List Nat) : Bool :=
  (List.range ops.size).all fun t => ea.contains t || is.all fun i => Region.waitsFor md ops t i
theorem lateE_waits {is ea : List Nat} {i : Nat} {listed : Array Bool} (h : lateE md ops is ea = true) (hin : i ∈ is) (hun : listed.getD i true = false) {t : Nat} (ht : t ∈ Region.ready md ops listed) : ea.contains t = true := by
  obtain ⟨_, ot, hot, hall⟩ := mem_ready.1 ht
  have htlt : t < ops.size := (Array.getElem?_eq_some_iff.1 hot).1
  have h1 := List.all_eq_true.1 h t (List.mem_range.2 htlt)
  simp only [Bool.or_eq_true] at h1
  rcases h1 with h1 | h1
  · exact h1
  · obtain ⟨o', ho', e, he, hb, hon⟩ := Region.waitsFor_spec (List.all_eq_true.1 h1 i hin)
    have : o' = ot := Option.some.inj (ho'.symm.trans hot)
    subst this
    have h2 := hall e he hb
    rw [hon, getD_both hun] at h2
    cases h2
theorem wpAnyE_first {is ea : List Nat} {i : Nat} {oi : Oper} {v : Value} (hi : ops[i]? = some oi) (hsel : ∀ (j : Nat) (o : Oper) cs b, ops[j]? = some o → o.op ≠ .select cs b)
    (hQ : ∀ c a w, Q (.panic c) (a.put oi.dst v) w → Q (.panic c) a w) (hl : lateE md ops is ea = true) (hin : i ∈ is) :
    ∀ (fuel : Nat) (listed : Array Bool) (a : Act) (w : World),
      (∀ j oj, ops[j]? = some oj → j ≠ i → listed.getD j true = false → (∀ e ∈ oj.after, Region.binds md e = true → e.on ≠ i) → oi.apart ops oj = true) →
      i ∈ Region.ready md ops listed → YieldsIf P ops S oi v a → S w →
      wpAnyE P md ops Q S ea fuel (listed.setIfInBounds i true) (a.put oi.dst v) w → wpAnyE P md ops Q S ea (fuel + 1) listed a w := by
  intro fuel
  induction fuel with
  | zero =>
    intro listed a w _ hr hy hS H
    refine ⟨fun h => (by rw [h] at hr; cases hr), fun j hj => ?_⟩
    by_cases hji : j = i
    · subst hji; exact hy.wpOp hi hS ⟨fun _ => hS, H⟩
    · have := ready_mono hj hji
      rw [H.1] at this
      cases this
  | succ fuel ih =>
    intro listed a w hfree hr hy hS H
    refine ⟨fun h => (by rw [h] at hr; cases hr), fun j hj => ?_⟩
    by_cases hji : j = i
    · subst hji; exact hy.wpOp hi hS ⟨fun _ => hS, H⟩
    · have h1 := H.2 j (ready_mono hj hji)
      obtain ⟨hjun, oj, hoj, hall⟩ := mem_ready.1 hj
      have hun := (mem_ready.1 hr).1
      have hjm := lateE_waits hl hin hun hj
      have hnot : ∀ e ∈ oj.after, Region.binds md e = true → e.on ≠ i := fun e he hb heq => by
        have h1 := hall e he hb
        rw [heq, getD_both hun] at h1
        cases h1
      have h2 := wpOp_putIf hoj (hfree j oj hoj hji hjun hnot) (fun cs b => hsel i oi cs b hi) (fun cs b => hsel j oj cs b hoj) hQ hy h1
      have hfree' : ∀ k ok, ops[k]? = some ok → k ≠ i → (listed.setIfInBounds j true).getD k true = false →
          (∀ e ∈ ok.after, Region.binds md e = true → e.on ≠ i) → oi.apart ops ok = true := fun k ok hk hki hun hno => by
        refine hfree k ok hk hki ?_ hno
        by_cases hjk : j = k
        · subst hjk; exact hjun
        · rw [getD_set_ne true hjk] at hun; exact hun
      refine wpOp_mono (fun a' w' h3 => ⟨fun _ => h3.2.1 hjm, ih (listed.setIfInBounds j true) a' w' hfree' (ready_mono hr (Ne.symm hji)) h3.1 (h3.2.1 hjm) ?_⟩) h2
      rw [Array.setIfInBounds_comm _ _ hji]
      exact h3.2.2
def tailE (md : Region.Mode) (ops : Array Oper) : List Nat → Array Bool → Bool
  | [], listed => (Region.ready md ops listed).isEmpty
  | t :: tl, listed => decide (Region.ready md ops listed = [t]) && tailE md ops tl (listed.setIfInBounds t true)
def headE (md : Region.Mode) (ops : Array Oper) (tl : List Nat) : List Nat → Array Bool → Bool
  | [], listed => tailE md ops tl listed
  | i :: is, listed => (Region.ready md ops listed).contains i && Region.free md ops listed i && headE md ops tl is (listed.setIfInBounds i true)
/-- The operations of a list of numbers. -/
def opsOf (l : List Oper) (is : List Nat) : List Oper := is.filterMap fun i => l[i]?
theorem opsOf_nil (l : List Oper) : opsOf l [] = [] := rfl
theorem opsOf_cons (l : List Oper) (i : Nat) (is : List Nat) (o : Oper) (h : l[i]? = some o) : opsOf l (i :: is) = o :: opsOf l is := by simp [opsOf, h]
theorem wpAnyE_seq {l : List Oper} {ea : List Nat} : ∀ (tl : List Nat) (c : Nat) (listed : Array Bool) (a : Act) (w : World),
    tailE md l.toArray tl listed = true → (∀ t ∈ tl.drop c, ea.contains t = false) → (∀ t ∈ tl, t < l.length) → wpListS P l.toArray Q S c (opsOf l tl) a w → wpAnyE P md l.toArray Q S ea tl.length listed a w
  | [], c, _, _, _, hB, _, _, h => ⟨by simpa [tailE] using hB, by cases c <;> exact h⟩
  | t :: tl, c, listed, a, w, hB, hc, hlt, h => by
    have ht : t < l.length := hlt t (by simp)
    have h0 : l.toArray[t]? = some l[t] := by simp [ht]
    rw [opsOf_cons l t tl l[t] (List.getElem?_eq_getElem ht)] at h
    simp only [tailE, Bool.and_eq_true, decide_eq_true_eq] at hB
    refine ⟨fun h1 => (by rw [hB.1] at h1; cases h1), fun i hi => ?_⟩
    rw [hB.1] at hi
    have hik : i = t := by simpa using hi
    subst hik
    cases c with
    | zero =>
      have hw : wpOp P l.toArray Q i (wpList P l.toArray Q (opsOf l tl)) a w := by unfold wpOp; simp only [h0]; exact h
      exact wpOp_mono (fun a' w' h' => ⟨fun hh => (by have := hc i (by simp); rw [this] at hh; cases hh), wpAnyE_seq tl 0 _ a' w' hB.2 (fun t ht => hc t (by simp at ht ⊢; exact .inr ht)) (fun t ht => hlt t (by simp [ht])) h'⟩) hw
    | succ c =>
      refine wpOp_mono (fun a' w' h' => ⟨fun _ => h'.1, wpAnyE_seq tl c _ a' w' hB.2 (fun t ht => hc t (by simpa using ht)) (fun t ht => hlt t (by simp [ht])) h'.2⟩) (wpOp_of_one h0 h)
theorem wpAnyE_lex {l : List Oper} {hd ea tl : List Nat} {w : World} (c : Nat) (hsel : Region.noSelect l.toArray = true) (hl2 : lateE md l.toArray hd ea = true) (hS : S w) (htl : ∀ t ∈ tl.drop c, ea.contains t = false) (hlt : ∀ t ∈ tl, t < l.length)
    (hQ : ∀ c (a : Act) d v w, Q (.panic c) (a.put d v) w → Q (.panic c) a w) :
    ∀ (is : List Nat) (listed : Array Bool) (a : Act), (∀ i ∈ is, i ∈ hd ∧ i < l.length) → headE md l.toArray tl is listed = true → stS P l.toArray S (fun a' => wpListS P l.toArray Q S c (opsOf l tl) a' w) (opsOf l is) a →
    wpAnyE P md l.toArray Q S ea (is.length + tl.length) listed a w
  | [], listed, a, _, hB, h => by
    have hB' : tailE md l.toArray tl listed = true := hB
    simpa using wpAnyE_seq tl c listed a w hB' htl hlt h
  | i :: is, listed, a, hi, hB, h => by
    obtain ⟨hin, hil⟩ := hi i (by simp)
    have h0 : l.toArray[i]? = some l[i] := by simp [hil]
    rw [opsOf_cons l i is l[i] (List.getElem?_eq_getElem hil)] at h
    simp only [headE, Bool.and_eq_true] at hB
    obtain ⟨⟨hr, hf⟩, hB'⟩ := hB
    have hr' : i ∈ Region.ready md l.toArray listed := by simpa using hr
    obtain ⟨v, hy, hK⟩ := h
    rw [show (i :: is).length + tl.length = (is.length + tl.length) + 1 by simp only [List.length_cons]; omega]
    exact wpAnyE_first h0 (Region.noSelect_spec hsel) (fun c a' w' hh => hQ c a' _ _ w' hh) hl2 hin (is.length + tl.length) listed a w (Region.free_spec h0 hf) hr' hy hS
      (wpAnyE_lex c hsel hl2 hS htl hlt hQ is _ _ (fun j hj => hi j (by simp [hj])) hB' hK)
def evpB (md : Region.Mode) (ops : Array Oper) (is tl : List Nat) (c : Nat) : Bool :=
  Region.noSelect ops && lateE md ops is (is ++ tl.take c) && headE md ops tl is (Array.replicate ops.size false) && (tl.drop c).all (fun t => !(is ++ tl.take c).contains t) && tl.all (fun t => decide (t < ops.size)) && is.all (fun t => decide (t < ops.size)) && decide (is.length + tl.length = ops.size)
end
/-- The beginning: the operations 'is' only read, and may be taken first, in this order; the operations 'tl' come up one behind the other; S is shown behind the first c of them. -/
theorem wp_region_evp {P : Program} {id : Nat} {Q : Exit → Act → World → Prop} {a : Act} {w : World} {l : List Oper} (is tl : List Nat) (c : Nat) (S : World → Prop) (hm : P.follows .mixedOrders = true) (hB : evpB .any l.toArray is tl c = true)
    (hQ : ∀ c (a : Act) d v w, Q (.panic c) (a.put d v) w → Q (.panic c) a w) (hS : S w.drew)
    (h : stS P l.toArray S (fun a' => wpListS P l.toArray Q S c (opsOf l tl) a' w.drew) (opsOf l is) a) : (Code.region id l.toArray true).wp P Q a w := by
  simp only [evpB, Bool.and_eq_true, decide_eq_true_eq] at hB
  obtain ⟨⟨⟨⟨⟨⟨hsel, hl⟩, hh⟩, ht⟩, htl⟩, his⟩, hsz⟩ := hB
  refine wp_region_any hm (wpAny_of_E (S := S) (ea := is ++ tl.take c) _ _ _ _ ?_)
  have hx := wpAnyE_lex (P := P) (Q := Q) (S := S) (w := w.drew) c hsel hl hS (fun t ht' => by have := List.all_eq_true.1 ht t ht'; simpa using this) (fun t ht' => by have := List.all_eq_true.1 htl t ht'; simpa using this) hQ is (Array.replicate l.toArray.size false) a
    (fun i hi => ⟨hi, by have := List.all_eq_true.1 his i hi; simpa using this⟩) hh h
  rw [hsz] at hx
  exact hx
end Go.Proofs.YtomphgpplbekiaaGreat
