/- The law on regions that draw, for readers that may turn something: T says what they leave as it was. No program is named here. -/
import Derived.Test.YtdbfjgmehmbefaaRa
namespace Go.Proofs.Ytdbfjgmehmbefaa
open Go.RowKit
section
variable {P : Program} {ops : Array Oper} {Q : Exit → Act → World → Prop} {md : Region.Mode} {S : World → Prop} {T : World → World → Prop}
/-- Whatever order is picked from here on; L: who waits for all of the readers. -/
def RB (P : Program) (md : Region.Mode) (ops : Array Oper) (Q : Exit → Act → World → Prop) (S : World → Prop) (T : World → World → Prop) (L : Nat → Bool) : Nat → Array Bool → Act → (World → Prop) → Prop
  | 0, listed, a, Ψ => Region.ready md ops listed = [] ∧ ∀ u, S u → Ψ u → Q .normal a u
  | fuel + 1, listed, a, Ψ =>
    (Region.ready md ops listed = [] → ∀ u, S u → Ψ u → Q .normal a u) ∧
    ∀ i ∈ Region.ready md ops listed, ∀ o, ops[i]? = some o →
      (∃ v, (∀ u, S u → OpR P ops o a u (fun x u' => x = v ∧ T u u')) ∧ RB P md ops Q S T L fuel (listed.setIfInBounds i true) (a.put o.dst v) Ψ) ∨
      (∃ Φ : Value → World → Prop, (∀ x u u', Φ x u → T u u' → Φ x u') ∧ (∀ u, S u → Ψ u → OpR P ops o a u (fun x u' => S u' ∧ Φ x u')) ∧ ∀ x, (∃ u, S u ∧ Φ x u) → RB P md ops Q S T L fuel (listed.setIfInBounds i true) (a.put o.dst x) (Φ x)) ∨
      (L i = true ∧ ∀ u, S u → Ψ u → wpOp P ops Q i (fun a' w' => wpAny P md ops Q fuel (listed.setIfInBounds i true) a' w') a u)
theorem wpAny_of_RB {L : Nat → Bool} (hS : ∀ u u', S u → T u u' → S u') : ∀ (fuel : Nat) (listed : Array Bool) (a : Act) (Ψ : World → Prop), (∀ u u', Ψ u → T u u' → Ψ u') → RB P md ops Q S T L fuel listed a Ψ → ∀ u, S u → Ψ u → wpAny P md ops Q fuel listed a u
  | 0, _, _, _, _, h, u, hs, hp => ⟨h.1, h.2 u hs hp⟩
  | fuel + 1, listed, a, Ψ, hΨ, h, u, hs, hp => ⟨fun hr => h.1 hr u hs hp, fun i hi => by
      obtain ⟨_, o, ho, _⟩ := mem_ready.1 hi
      rcases h.2 i hi o ho with ⟨v, hv, hr⟩ | ⟨Φ, hc, hv, hr⟩ | ⟨_, hv⟩
      · refine (hv u hs).wpOp ho fun x u' hx => ?_
        obtain ⟨rfl, hk⟩ := hx
        exact wpAny_of_RB hS fuel _ _ Ψ hΨ hr u' (hS _ _ hs hk) (hΨ _ _ hp hk)
      · refine (hv u hs hp).wpOp ho fun x u' hx => ?_
        exact wpAny_of_RB hS fuel _ _ (Φ x) (hc x) (hr x ⟨u', hx⟩) u' hx.1 hx.2
      · exact hv u hs hp⟩
theorem RB_first {is ea : List Nat} {i : Nat} {oi : Oper} {v : Value} (hi : ops[i]? = some oi) (hsel : ∀ (j : Nat) (o : Oper) cs b, ops[j]? = some o → o.op ≠ .select cs b)
    (hl : lateE md ops is ea = true) (hin : i ∈ is) :
    ∀ (fuel : Nat) (listed : Array Bool) (a : Act) (Ψ : World → Prop),
      (∀ j oj, ops[j]? = some oj → j ≠ i → listed.getD j true = false → (∀ e ∈ oj.after, Region.binds md e = true → e.on ≠ i) → oi.apart ops oj = true) →
      i ∈ Region.ready md ops listed → (∀ u, S u → OpR P ops oi a u (fun x u' => x = v ∧ T u u')) →
      RB P md ops Q S T (fun t => !ea.contains t) fuel (listed.setIfInBounds i true) (a.put oi.dst v) Ψ → RB P md ops Q S T (fun t => !ea.contains t) (fuel + 1) listed a Ψ := by
  intro fuel
  induction fuel with
  | zero =>
    intro listed a Ψ _ hr hy H
    refine ⟨fun h => (by rw [h] at hr; cases hr), fun j hj o ho => ?_⟩
    by_cases hji : j = i
    · subst hji
      obtain rfl : o = oi := Option.some.inj (ho.symm.trans hi)
      exact .inl ⟨v, hy, H⟩
    · have := ready_mono hj hji
      rw [H.1] at this
      cases this
  | succ fuel ih =>
    intro listed a Ψ hfree hr hy H
    refine ⟨fun h => (by rw [h] at hr; cases hr), fun j hj o ho => ?_⟩
    by_cases hji : j = i
    · subst hji
      obtain rfl : o = oi := Option.some.inj (ho.symm.trans hi)
      exact .inl ⟨v, hy, H⟩
    · have h1 := H.2 j (ready_mono hj hji) o ho
      obtain ⟨hjun, oj, hoj, hall⟩ := mem_ready.1 hj
      obtain rfl : o = oj := Option.some.inj (ho.symm.trans hoj)
      have hun := (mem_ready.1 hr).1
      have hjm := lateE_waits hl hin hun hj
      have hnot : ∀ e ∈ o.after, Region.binds md e = true → e.on ≠ i := fun e he hb heq => by
        have h1 := hall e he hb
        rw [heq, getD_both hun] at h1
        cases h1
      obtain ⟨p1, p2, p3⟩ := Oper.apart_spec (hfree j o hoj hji hjun hnot)
      have keep : ∀ x, ∀ u, S u → OpR P ops oi (a.put o.dst x) u (fun x u' => x = v ∧ T u u') := fun x u hu =>
        (hy u hu).of_same (execOp_put oi (fun cs b => hsel i oi cs b hi) a o.dst x p3) (wanted_put oi a o.dst x p3)
      have back : ∀ u R, OpR P ops o (a.put oi.dst v) u R → OpR P ops o a u R := fun u R h =>
        h.of_same (execOp_put o (fun cs b => hsel j o cs b hoj) a oi.dst v p1).symm (wanted_put o a oi.dst v p1).symm
      have hfree' : ∀ k ok, ops[k]? = some ok → k ≠ i → (listed.setIfInBounds j true).getD k true = false →
          (∀ e ∈ ok.after, Region.binds md e = true → e.on ≠ i) → oi.apart ops ok = true := fun k ok hk hki hun hno => by
        refine hfree k ok hk hki ?_ hno
        by_cases hjk : j = k
        · subst hjk; exact hjun
        · rw [getD_set_ne true hjk] at hun; exact hun
      have next : ∀ x Ψ', RB P md ops Q S T (fun t => !ea.contains t) fuel ((listed.setIfInBounds i true).setIfInBounds j true) ((a.put oi.dst v).put o.dst x) Ψ' →
          RB P md ops Q S T (fun t => !ea.contains t) (fuel + 1) (listed.setIfInBounds j true) (a.put o.dst x) Ψ' := fun x Ψ' h => by
        refine ih (listed.setIfInBounds j true) (a.put o.dst x) Ψ' hfree' (ready_mono hr (Ne.symm hji)) (keep x) ?_
        rw [Array.setIfInBounds_comm _ _ hji, ← Act.put_comm a v x p2]
        exact h
      rcases h1 with ⟨vj, hv, hr'⟩ | ⟨Φ, hc, hv, hr'⟩ | ⟨hL, _⟩
      · exact .inl ⟨vj, fun u hu => back _ _ (hv u hu), next _ _ hr'⟩
      · exact .inr (.inl ⟨Φ, hc, fun u hu hp => back _ _ (hv u hu hp), fun x hx => next _ _ (hr' x hx)⟩)
      · simp only [hjm] at hL; cases hL
/-- The readers, one behind the other. -/
def seqT (P : Program) (ops : Array Oper) (S : World → Prop) (T : World → World → Prop) (K : Act → Prop) : List Oper → Act → Prop
  | [], a => K a
  | o :: l, a => ∃ v, (∀ u, S u → OpR P ops o a u (fun x u' => x = v ∧ T u u')) ∧ seqT P ops S T K l (a.put o.dst v)
/-- The others. -/
def tailT (P : Program) (ops : Array Oper) (Q : Exit → Act → World → Prop) (S : World → Prop) (T : World → World → Prop) : Nat → List Oper → Act → (World → Prop) → Prop
  | 0, l, a, Ψ => ∀ u, S u → Ψ u → wpList P ops Q l a u
  | _ + 1, [], a, Ψ => ∀ u, S u → Ψ u → Q .normal a u
  | c + 1, o :: l, a, Ψ => ∃ Φ : Value → World → Prop, (∀ x u u', Φ x u → T u u' → Φ x u') ∧ (∀ u, S u → Ψ u → OpR P ops o a u (fun x u' => S u' ∧ Φ x u')) ∧ ∀ x, (∃ u, S u ∧ Φ x u) → tailT P ops Q S T c l (a.put o.dst x) (Φ x)
theorem RB_tail {l : List Oper} {L : Nat → Bool} : ∀ (tl : List Nat) (c : Nat) (listed : Array Bool) (a : Act) (Ψ : World → Prop),
    tailE md l.toArray tl listed = true → (∀ t ∈ tl.drop c, L t = true) → (∀ t ∈ tl, t < l.length) → tailT P l.toArray Q S T c (opsOf l tl) a Ψ → RB P md l.toArray Q S T L tl.length listed a Ψ
  | [], c, _, _, _, hB, _, _, h => ⟨by simpa [tailE] using hB, by cases c <;> exact h⟩
  | t :: tl, c, listed, a, Ψ, hB, hc, hlt, h => by
    have ht : t < l.length := hlt t (by simp)
    have h0 : l.toArray[t]? = some l[t] := by simp [ht]
    have hB0 := hB
    simp only [tailE, Bool.and_eq_true, decide_eq_true_eq] at hB
    refine ⟨fun h1 => (by rw [hB.1] at h1; cases h1), fun i hi o ho => ?_⟩
    have hr := hB.1
    rw [hr] at hi
    have hik : i = t := by simpa using hi
    subst hik
    obtain rfl : o = l[i] := Option.some.inj (ho.symm.trans h0)
    cases c with
    | zero =>
      refine .inr (.inr ⟨hc i (by simp), fun u hs hp => ?_⟩)
      have h' := wpAny_tail (i :: tl) listed a u hB0 hlt (h u hs hp)
      exact h'.2 i (by rw [hr]; simp)
    | succ c =>
      rw [opsOf_cons l i tl l[i] (List.getElem?_eq_getElem ht)] at h
      obtain ⟨Φ, h1, h2, h3⟩ := h
      exact .inr (.inl ⟨Φ, h1, h2, fun x hx => RB_tail tl c _ _ _ hB.2 (fun t ht => hc t (by simpa using ht)) (fun t ht => hlt t (by simp [ht])) (h3 x hx)⟩)
theorem RB_lex {l : List Oper} {hd ea tl : List Nat} (c : Nat) (hsel : Region.noSelect l.toArray = true) (hl2 : lateE md l.toArray hd ea = true) (htl : ∀ t ∈ tl.drop c, ea.contains t = false) (hlt : ∀ t ∈ tl, t < l.length) :
    ∀ (is : List Nat) (listed : Array Bool) (a : Act), (∀ i ∈ is, i ∈ hd ∧ i < l.length) → headE md l.toArray tl is listed = true → seqT P l.toArray S T (fun a' => tailT P l.toArray Q S T c (opsOf l tl) a' (fun _ => True)) (opsOf l is) a →
    RB P md l.toArray Q S T (fun t => !ea.contains t) (is.length + tl.length) listed a (fun _ => True)
  | [], listed, a, _, hB, h => by
    have hB' : tailE md l.toArray tl listed = true := hB
    simpa using RB_tail (L := fun t => !ea.contains t) tl c listed a _ hB' (fun t ht => by simpa using htl t ht) hlt h
  | i :: is, listed, a, hi, hB, h => by
    obtain ⟨hin, hil⟩ := hi i (by simp)
    have h0 : l.toArray[i]? = some l[i] := by simp [hil]
    rw [opsOf_cons l i is l[i] (List.getElem?_eq_getElem hil)] at h
    simp only [headE, Bool.and_eq_true] at hB
    obtain ⟨⟨hr, hf⟩, hB'⟩ := hB
    have hr' : i ∈ Region.ready md l.toArray listed := by simpa using hr
    obtain ⟨v, hy, hK⟩ := h
    rw [show (i :: is).length + tl.length = (is.length + tl.length) + 1 by simp only [List.length_cons]; omega]
    exact RB_first h0 (Region.noSelect_spec hsel) hl2 hin (is.length + tl.length) listed a _ (Region.free_spec h0 hf) hr' hy
      (RB_lex c hsel hl2 htl hlt is _ _ (fun j hj => hi j (by simp [hj])) hB' hK)
/-- The beginning. -/
theorem wp_region_rb {id : Nat} {a : Act} {w : World} {l : List Oper} (is tl : List Nat) (c : Nat) (S : World → Prop) (hm : P.follows .mixedOrders = true) (hB : evpB .any l.toArray is tl c = true)
    (hS : ∀ u u', S u → T u u' → S u') (hS0 : S w.drew)
    (h : seqT P l.toArray S T (fun a' => tailT P l.toArray Q S T c (opsOf l tl) a' (fun _ => True)) (opsOf l is) a) : (Code.region id l.toArray true).wp P Q a w := by
  simp only [evpB, Bool.and_eq_true, decide_eq_true_eq] at hB
  obtain ⟨⟨⟨⟨⟨⟨hsel, hl⟩, hh⟩, ht⟩, htl⟩, his⟩, hsz⟩ := hB
  have hx := RB_lex (P := P) (Q := Q) (S := S) c hsel hl (fun t ht' => by have := List.all_eq_true.1 ht t ht'; simpa using this) (fun t ht' => by have := List.all_eq_true.1 htl t ht'; simpa using this) is (Array.replicate l.toArray.size false) a
    (fun i hi => ⟨hi, by have := List.all_eq_true.1 his i hi; simpa using this⟩) hh h
  rw [hsz] at hx
  exact wp_region_any hm (wpAny_of_RB hS _ _ _ _ (fun _ _ _ _ => trivial) hx w.drew hS0 trivial)
/-! The steps. -/
theorem seqT_cons {K : Act → Prop} {o : Oper} {l : List Oper} {a : Act} (v : Value) (hw : Region.wanted o (yielded ops a.tmps) = true) (h : ∀ u, S u → stepR P (fun x u' => x = v ∧ T u u') ((execOp a.eval o).run P u))
    (h2 : seqT P ops S T K l (a.put o.dst v)) : seqT P ops S T K (o :: l) a := ⟨v, fun u hu => .inl ⟨hw, h u hu⟩, h2⟩
theorem seqT_no (hT : ∀ u, T u u) {K : Act → Prop} {o : Oper} {l : List Oper} {a : Act} (hw : Region.wanted o (yielded ops a.tmps) = false)
    (h2 : seqT P ops S T K l (a.put o.dst undef)) : seqT P ops S T K (o :: l) a := ⟨undef, fun u _ => .inr ⟨hw, rfl, hT u⟩, h2⟩
theorem seqT_nil {K : Act → Prop} {a : Act} (h : K a) : seqT P ops S T K [] a := h
/-- A reader whose run is reckoned. -/
theorem seqT_run (hT : ∀ u, T u u) {K : Act → Prop} {o : Oper} {l : List Oper} {a : Act} {v : Value} (hw : Region.wanted o (yielded ops a.tmps) = true) (h : ∀ u, S u → (execOp a.eval o).run P u = .ok (.value v) u)
    (h2 : seqT P ops S T K l (a.put o.dst v)) : seqT P ops S T K (o :: l) a := seqT_cons v hw (fun u hu => by rw [h u hu]; exact ⟨rfl, hT u⟩) h2
/-- A reader that is a call. -/
theorem seqT_call {K : Act → Prop} {o : Oper} {l : List Oper} {a : Act} {f : FuncId} {args : Array Value} {v : Value} (hw : Region.wanted o (yielded ops a.tmps) = true) (h : ∀ u, S u → (execOp a.eval o).run P u = .ok (.enter f args) u)
    (hc : ∀ u, S u → Calls P f args u (fun e w' => e = .returned v ∧ T u w')) (h2 : seqT P ops S T K l (a.put o.dst v)) : seqT P ops S T K (o :: l) a :=
  seqT_cons v hw (fun u hu => by rw [h u hu]; exact (hc u hu).mono fun e w' he => ⟨v, he.1, rfl, he.2⟩) h2
theorem tailT_zero {l : List Oper} {a : Act} {Ψ : World → Prop} (h : ∀ u, S u → Ψ u → wpList P ops Q l a u) : tailT P ops Q S T 0 l a Ψ := h
theorem tailT_mono {Ψ Ψ' : World → Prop} (hp : ∀ u, Ψ' u → Ψ u) : ∀ {c : Nat} {l : List Oper} {a : Act}, tailT P ops Q S T c l a Ψ → tailT P ops Q S T c l a Ψ'
  | 0, _, _, h => fun u hs hu => h u hs (hp u hu)
  | _ + 1, [], _, h => fun u hs hu => h u hs (hp u hu)
  | _ + 1, _ :: _, _, h => let ⟨Φ, h1, h2, h3⟩ := h; ⟨Φ, h1, fun u hs hu => h2 u hs (hp u hu), h3⟩
theorem tailT_cons {c : Nat} {o : Oper} {l : List Oper} {a : Act} {Ψ : World → Prop} (Φ : Value → World → Prop) (hw : Region.wanted o (yielded ops a.tmps) = true) (hc : ∀ x u u', Φ x u → T u u' → Φ x u')
    (h : ∀ u, S u → Ψ u → stepR P (fun x u' => S u' ∧ Φ x u') ((execOp a.eval o).run P u)) (h2 : ∀ x, (∃ u, S u ∧ Φ x u) → tailT P ops Q S T c l (a.put o.dst x) (Φ x)) : tailT P ops Q S T (c + 1) (o :: l) a Ψ :=
  ⟨Φ, hc, fun u hs hp => .inl ⟨hw, h u hs hp⟩, h2⟩
end
end Go.Proofs.Ytdbfjgmehmbefaa
