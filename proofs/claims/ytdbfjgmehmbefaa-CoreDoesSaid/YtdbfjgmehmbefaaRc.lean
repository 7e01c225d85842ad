/- The law on regions that draw (Ra), where the late operations may wait for a reader by way of others. No program is named here. -/
import Derived.Test.YtdbfjgmehmbefaaRa
namespace Go.Proofs.Ytdbfjgmehmbefaa
open Go.RowKit
section
variable {P : Program} {ops : Array Oper} {Q : Exit → Act → World → Prop} {md : Region.Mode} {S : World → Prop}
/-- t waits for i, by way of at most d others. -/
def waitsD (md : Region.Mode) (ops : Array Oper) : Nat → Nat → Nat → Bool
  | 0, t, i => Region.waitsFor md ops t i
  | d + 1, t, i => Region.waitsFor md ops t i || (List.range ops.size).any fun j => Region.waitsFor md ops t j && waitsD md ops d j i
def lateD (md : Region.Mode) (ops : Array Oper) (is ea : List Nat) : Bool :=
  (List.range ops.size).all fun t => ea.contains t || is.all fun i => waitsD md ops 3 t i
theorem listed_waits {listed : Array Bool} (inv : HeadInv md ops ops.size listed) {t i : Nat} (ht : listed.getD t false = true) (hw : Region.waitsFor md ops t i = true) : listed.getD i false = true := by
  obtain ⟨o, ho, e, he, hb, hon⟩ := Region.waitsFor_spec hw
  have := inv.closed t o ho ht e he hb
  rw [hon] at this
  exact this
theorem listed_waitsD {listed : Array Bool} (inv : HeadInv md ops ops.size listed) : ∀ (d t i : Nat), listed.getD t false = true → waitsD md ops d t i = true → listed.getD i false = true
  | 0, _, _, ht, hw => listed_waits inv ht hw
  | d + 1, t, i, ht, hw => by
    simp only [waitsD, Bool.or_eq_true] at hw
    rcases hw with hw | hw
    · exact listed_waits inv ht hw
    · obtain ⟨j, _, hj⟩ := List.any_eq_true.1 hw
      simp only [Bool.and_eq_true] at hj
      exact listed_waitsD inv d j i (listed_waits inv ht hj.1) hj.2
theorem ready_waitsD {listed : Array Bool} (inv : HeadInv md ops ops.size listed) {d t i : Nat} (ht : t ∈ Region.ready md ops listed) (hw : waitsD md ops d t i = true) : listed.getD i false = true := by
  obtain ⟨_, ot, hot, hall⟩ := mem_ready.1 ht
  have one : ∀ j, Region.waitsFor md ops t j = true → listed.getD j false = true := fun j hj => by
    obtain ⟨o', ho', e, he, hb, hon⟩ := Region.waitsFor_spec hj
    have : o' = ot := Option.some.inj (ho'.symm.trans hot)
    subst this
    have := hall e he hb
    rw [hon] at this
    exact this
  cases d with
  | zero => exact one i hw
  | succ d =>
    simp only [waitsD, Bool.or_eq_true] at hw
    rcases hw with hw | hw
    · exact one i hw
    · obtain ⟨j, _, hj⟩ := List.any_eq_true.1 hw
      simp only [Bool.and_eq_true] at hj
      exact listed_waitsD inv d j i (one j hj.1) hj.2
theorem lateD_waits {is ea : List Nat} {i : Nat} {listed : Array Bool} (h : lateD md ops is ea = true) (hin : i ∈ is) (hun : listed.getD i true = false) (inv : HeadInv md ops ops.size listed) {t : Nat} (ht : t ∈ Region.ready md ops listed) : ea.contains t = true := by
  obtain ⟨_, ot, hot, _⟩ := mem_ready.1 ht
  have htlt : t < ops.size := (Array.getElem?_eq_some_iff.1 hot).1
  have h1 := List.all_eq_true.1 h t (List.mem_range.2 htlt)
  simp only [Bool.or_eq_true] at h1
  rcases h1 with h1 | h1
  · exact h1
  · have h2 := ready_waitsD inv ht (List.all_eq_true.1 h1 i hin)
    rw [getD_both hun] at h2
    cases h2
theorem headInv_nil (md : Region.Mode) (ops : Array Oper) : HeadInv md ops ops.size (Array.replicate ops.size false) :=
  ⟨by simp, fun j oj _ hl => (by rw [getD_replicate_false] at hl; cases hl), fun t ht ht' => absurd ht (by omega)⟩
def evcB (md : Region.Mode) (ops : Array Oper) (is tl : List Nat) (c : Nat) : Bool :=
  Region.noSelect ops && lateD md ops is (is ++ tl.take c) && headE md ops tl is (Array.replicate ops.size false) && (tl.drop c).all (fun t => !(is ++ tl.take c).contains t) && tl.all (fun t => decide (t < ops.size)) && is.all (fun t => decide (t < ops.size)) && decide (is.length + tl.length = ops.size)
theorem RC_first {is ea : List Nat} {i : Nat} {oi : Oper} {v : Value} (hi : ops[i]? = some oi) (hsel : ∀ (j : Nat) (o : Oper) cs b, ops[j]? = some o → o.op ≠ .select cs b)
    (hl : lateD md ops is ea = true) (hin : i ∈ is) :
    ∀ (fuel : Nat) (listed : Array Bool) (a : Act) (Ψ : World → Prop), HeadInv md ops ops.size listed →
      (∀ j oj, ops[j]? = some oj → j ≠ i → listed.getD j true = false → (∀ e ∈ oj.after, Region.binds md e = true → e.on ≠ i) → oi.apart ops oj = true) →
      i ∈ Region.ready md ops listed → (∀ u, S u → OpR P ops oi a u (fun x u' => x = v ∧ Same u u')) →
      RA P md ops Q S (fun t => !ea.contains t) fuel (listed.setIfInBounds i true) (a.put oi.dst v) Ψ → RA P md ops Q S (fun t => !ea.contains t) (fuel + 1) listed a Ψ := by
  intro fuel
  induction fuel with
  | zero =>
    intro listed a Ψ _ _ hr hy H
    refine ⟨fun h => (by rw [h] at hr; cases hr), fun j hj o ho => ?_⟩
    by_cases hji : j = i
    · subst hji
      obtain rfl : o = oi := Option.some.inj (ho.symm.trans hi)
      exact .inl ⟨v, hy, H⟩
    · have := ready_mono hj hji
      rw [H.1] at this
      cases this
  | succ fuel ih =>
    intro listed a Ψ inv hfree hr hy H
    refine ⟨fun h => (by rw [h] at hr; cases hr), fun j hj o ho => ?_⟩
    by_cases hji : j = i
    · subst hji
      obtain rfl : o = oi := Option.some.inj (ho.symm.trans hi)
      exact .inl ⟨v, hy, H⟩
    · have h1 := H.2 j (ready_mono hj hji) o ho
      obtain ⟨hjun, oj, hoj, hall⟩ := mem_ready.1 hj
      obtain rfl : o = oj := Option.some.inj (ho.symm.trans hoj)
      have hun := (mem_ready.1 hr).1
      have hjm := lateD_waits hl hin hun inv hj
      have hnot : ∀ e ∈ o.after, Region.binds md e = true → e.on ≠ i := fun e he hb heq => by
        have h1 := hall e he hb
        rw [heq, getD_both hun] at h1
        cases h1
      obtain ⟨p1, p2, p3⟩ := Oper.apart_spec (hfree j o hoj hji hjun hnot)
      have keep : ∀ x, ∀ u, S u → OpR P ops oi (a.put o.dst x) u (fun x u' => x = v ∧ Same u u') := fun x u hu =>
        (hy u hu).of_same (execOp_put oi (fun cs b => hsel i oi cs b hi) a o.dst x p3) (wanted_put oi a o.dst x p3)
      have back : ∀ u R, OpR P ops o (a.put oi.dst v) u R → OpR P ops o a u R := fun u R h =>
        h.of_same (execOp_put o (fun cs b => hsel j o cs b hoj) a oi.dst v p1).symm (wanted_put o a oi.dst v p1).symm
      have hfree' : ∀ k ok, ops[k]? = some ok → k ≠ i → (listed.setIfInBounds j true).getD k true = false →
          (∀ e ∈ ok.after, Region.binds md e = true → e.on ≠ i) → oi.apart ops ok = true := fun k ok hk hki hun hno => by
        refine hfree k ok hk hki ?_ hno
        by_cases hjk : j = k
        · subst hjk; exact hjun
        · rw [getD_set_ne true hjk] at hun; exact hun
      have next : ∀ x Ψ', RA P md ops Q S (fun t => !ea.contains t) fuel ((listed.setIfInBounds i true).setIfInBounds j true) ((a.put oi.dst v).put o.dst x) Ψ' →
          RA P md ops Q S (fun t => !ea.contains t) (fuel + 1) (listed.setIfInBounds j true) (a.put o.dst x) Ψ' := fun x Ψ' h => by
        refine ih (listed.setIfInBounds j true) (a.put o.dst x) Ψ' (inv.set hj (Array.getElem?_eq_some_iff.1 hoj).1) hfree' (ready_mono hr (Ne.symm hji)) (keep x) ?_
        rw [Array.setIfInBounds_comm _ _ hji, ← Act.put_comm a v x p2]
        exact h
      rcases h1 with ⟨vj, hv, hr'⟩ | ⟨Φ, hc, hv, hr'⟩ | ⟨hL, _⟩
      · exact .inl ⟨vj, fun u hu => back _ _ (hv u hu), next _ _ hr'⟩
      · exact .inr (.inl ⟨Φ, hc, fun u hu hp => back _ _ (hv u hu hp), fun x hx => next _ _ (hr' x hx)⟩)
      · simp only [hjm] at hL; cases hL
theorem RC_lex {l : List Oper} {hd ea tl : List Nat} (c : Nat) (hsel : Region.noSelect l.toArray = true) (hl2 : lateD md l.toArray hd ea = true) (htl : ∀ t ∈ tl.drop c, ea.contains t = false) (hlt : ∀ t ∈ tl, t < l.length) :
    ∀ (is : List Nat) (listed : Array Bool) (a : Act), HeadInv md l.toArray l.toArray.size listed → (∀ i ∈ is, i ∈ hd ∧ i < l.length) → headE md l.toArray tl is listed = true → seqV P l.toArray S (fun a' => tailR P l.toArray Q S c (opsOf l tl) a' (fun _ => True)) (opsOf l is) a →
    RA P md l.toArray Q S (fun t => !ea.contains t) (is.length + tl.length) listed a (fun _ => True)
  | [], listed, a, _, _, hB, h => by
    have hB' : tailE md l.toArray tl listed = true := hB
    simpa using RA_tail (L := fun t => !ea.contains t) tl c listed a _ hB' (fun t ht => by simpa using htl t ht) hlt h
  | i :: is, listed, a, inv, hi, hB, h => by
    obtain ⟨hin, hil⟩ := hi i (by simp)
    have h0 : l.toArray[i]? = some l[i] := by simp [hil]
    rw [opsOf_cons l i is l[i] (List.getElem?_eq_getElem hil)] at h
    simp only [headE, Bool.and_eq_true] at hB
    obtain ⟨⟨hr, hf⟩, hB'⟩ := hB
    have hr' : i ∈ Region.ready md l.toArray listed := by simpa using hr
    obtain ⟨v, hy, hK⟩ := h
    rw [show (i :: is).length + tl.length = (is.length + tl.length) + 1 by simp only [List.length_cons]; omega]
    exact RC_first h0 (Region.noSelect_spec hsel) hl2 hin (is.length + tl.length) listed a _ inv (Region.free_spec h0 hf) hr' hy
      (RC_lex c hsel hl2 htl hlt is _ _ (inv.set hr' (by simpa using hil)) (fun j hj => hi j (by simp [hj])) hB' hK)
/-- The beginning. -/
theorem wp_region_rc {id : Nat} {a : Act} {w : World} {l : List Oper} (is tl : List Nat) (c : Nat) (S : World → Prop) (hm : P.follows .mixedOrders = true) (hB : evcB .any l.toArray is tl c = true)
    (hS : ∀ u u', S u → Same u u' → S u') (hS0 : S w.drew)
    (h : seqV P l.toArray S (fun a' => tailR P l.toArray Q S c (opsOf l tl) a' (fun _ => True)) (opsOf l is) a) : (Code.region id l.toArray true).wp P Q a w := by
  simp only [evcB, Bool.and_eq_true, decide_eq_true_eq] at hB
  obtain ⟨⟨⟨⟨⟨⟨hsel, hl⟩, hh⟩, ht⟩, htl⟩, his⟩, hsz⟩ := hB
  have hx := RC_lex (P := P) (Q := Q) (S := S) c hsel hl (fun t ht' => by have := List.all_eq_true.1 ht t ht'; simpa using this) (fun t ht' => by have := List.all_eq_true.1 htl t ht'; simpa using this) is (Array.replicate l.toArray.size false) a (headInv_nil _ _)
    (fun i hi => ⟨hi, by have := List.all_eq_true.1 his i hi; simpa using this⟩) hh h
  rw [hsz] at hx
  exact wp_region_any hm (wpAny_of_RA hS _ _ _ _ (fun _ _ _ _ => trivial) hx w.drew hS0 trivial)
end
end Go.Proofs.Ytdbfjgmehmbefaa
