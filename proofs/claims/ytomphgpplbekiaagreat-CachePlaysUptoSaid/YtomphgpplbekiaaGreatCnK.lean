/- A range over a function that reads rows which the loop's own body turns: the iterator's contract may lean on what the loop's invariant says (Kj) when the elements pre have come; the body is told that the element fits behind them (C). No program is named here. The course of the proof is that of the library's laws for such loops. A cache's iterator over its live blocks. A cache: the live blocks' keys. The document's cache: Keys. A cache: Drop. A cache's block let go: what that turns. As Rz, with any value of the one beside the chain that is made of its block. No program is named here. Printed by wip/gen_rz2.py. Regions that draw their order, in a round of a range over a function: the laws of Ra hold there too (the wide fence). No program is named here. A cache: Drop, walked. The document's cache: Drop. -/
import Derived.Test.YtomphgpplbekiaaGreatRa
import Derived.RangeFuncNested
import Derived.RangeFuncBound
import Derived.RangeFuncCalls
import Derived.RangeFuncBox
import Derived.Test.YtomphgpplbekiaaGreatCnO
import Derived.Test.YtomphgpplbekiaaGreatCnR
import Derived.Test.YtomphgpplbekiaaGreatRfA
import Derived.Test.YtomphgpplbekiaaGreatRz
import Derived.OwnWalkIn
import Derived.OrdersIn
namespace Go.Proofs.YtomphgpplbekiaaGreat
open Go.RowKit
section
variable {F : Fence} {n : Nat} {P : Program} {w : World} {α : Type}
/-- What such an iterator promises. -/
def SeqJ (F : Fence) (n : Nat) (P : Program) (gf : Nat) (lb : Array Value) (encs : α → Array Value) (Kj : List α → World → Prop) (C : List α → α → Prop) (S : List α → Prop) (w : World) : Prop :=
  ∀ (l : Nat) (J : List α → World → Prop) (W : World), Below w.heap.size w W → AbidesFrom W.heap.size J → (∀ pre W1, J pre W1 → Kj pre W1) →
    (∀ pre x W1, J pre W1 → C pre x → YieldAt F (n - 1) P l (encs x) W1 fun e W' => e = .returned (.bool true) ∧ J (pre ++ [x]) W') →
    J [] W → CallsIn F n P gf (#[.func (.yield l) #[] #[]] ++ lb) W fun e W' => (∃ v, e = .returned v) ∧ ∃ xs, S xs ∧ J xs W'
theorem wpIn_range_rows {g : Operand} {ps : Array Tmp} {assign body : Code} {Q : Exit → Act → World → Prop} {a : Act}
    (hro : F.round = none) (h1 : 1 ≤ n) {gf : Nat} {lb : Array Value} (hg : a.eval g = .func (.func gf) #[] lb) (hFg : F.fn gf) (eg : ∀ args w, (callFunc gf args).run P w = .ok (.enter gf args) w)
    {encs : α → Array Value} {Kj : List α → World → Prop} {C : List α → α → Prop} {S : List α → Prop} (hseq : SeqJ F (n - 1) P gf lb encs Kj C S w) (hps : ∀ x, (encs x).size = ps.size)
    (I : List α → World → Prop) (hI : OwnFrom w.heap.size I) (h0 : I [] w) (hIK : ∀ pre W, I pre W → Kj pre W) (Ax : α → Act → World → Prop) (hAx : ∀ x a', OwnFrom w.heap.size (fun (_ : Unit) W => Ax x a' W))
    (hassign : ∀ (l : Nat) (pre : List α) (x : α) (W : World) (K : Act → World → Prop), I pre W → C pre x → (∀ a' W', KeepsFrom w.heap.size W W' → I pre W' → Ax x a' W' → K a' W') →
      assign.wpIn (F.inRound l) (n - 1 - 1) P (Exit.then K (fun _ _ _ => False)) { tmps := (ps.zip (encs x)).foldl (fun t (p, v) => t.setIfInBounds p v) a.tmps, defers := [] } W)
    (hbody : ∀ (l : Nat) (pre : List α) (x : α) (a' : Act) (W : World), I pre W → C pre x → Ax x a' W → body.wpIn (F.inRound l) (n - 1 - 1) P (fun e _ W' => e = .normal ∧ KeepsFrom w.heap.size W W' ∧ I (pre ++ [x]) W') a' W)
    (hdone : ∀ (D : Nat) (xs : List α) (W : World), w.heap.size ≤ D → S xs → I xs W → W.heap[D]? = some (.deferred (some [])) → Q .normal { a with defers := { target := .collected D, args := #[] } :: a.defers } W) :
    (Code.rangeFunc g ps assign body).wpIn F n P Q a w := by
  refine wpIn_rangeFunc ?_
  intro fn hfn
  rw [hro]
  let rc : LoopState → Option Code → Loop := fun st pe => { state := st, pending := pe, fn, tmps := a.tmps, params := ps, assign, body, defers := w.heap.size }
  let s := w.heap.size
  obtain ⟨W1, hW1⟩ : ∃ W1, (w.alloc (.deferred (some []))).alloc (.loop (rc .ready none)) = W1 := ⟨_, rfl⟩
  have hsz : W1.heap.size = s + 2 := by rw [← hW1]; simp [s]
  have rec1 : W1.heap[s + 1]? = some (.loop (rc .ready none)) := by
    rw [← hW1]
    have := World.alloc_heap_new (w.alloc (.deferred (some []))) (.loop (rc .ready none))
    rwa [World.size_alloc] at this
  have def1 : W1.heap[s]? = some (.deferred (some [])) := by rw [← hW1]; exact (Below.heap_alloc _ _ _ (by simp [s])).trans (World.alloc_heap_new w _)
  have hI1 : I [] W1 := by rw [← hW1]; exact hI.alloc _ (hI.alloc _ h0)
  have hb1 : Below w.heap.size w W1 := by rw [← hW1]; exact ((Below.refl _ w).alloc (Nat.le_refl _) _).alloc (by simp) _
  refine ⟨s + 1, [{ target := .collected s, args := #[] }], W1, { target := .fn (.func gf) lb, args := #[.func (.yield (s + 1)) #[] #[]] }, W1, gf, #[.func (.yield (s + 1)) #[] #[]] ++ lb, W1, ?_, ?_, ?_, ?_, fun _ => h1, ?_⟩
  · rw [← hW1]; exact run_enterLoop_outer _ _ _ _ _
  · simp only [resolve, hg]
    simp [go_sem]
  · intro f' hf'
    simp [Target.leads] at hf'
    subst hf'
    exact hFg
  · simp [invoke, go_sem, eg]
  have still : ∀ {A B : World} {row : Option Nat}, A.grownBy B row → (∀ r, row = some r → W1.heap.size ≤ r ∧ ∃ o : Obj, A.heap[r]? = some o ∧ o.isWalk = true) → ∀ {k : Nat} {o : Obj}, k < s + 2 → A.heap[k]? = some o → B.heap[k]? = some o := fun {A B row} hgr hr {k o} hk ho =>
    (hgr.block k (Array.getElem?_eq_some_iff.1 ho).1 (fun e => by have := (hr k e.symm).1; omega)).trans ho
  refine (hseq (s + 1) (fun pre W => I pre W ∧ W.heap[s + 1]? = some (.loop (rc .ready none)) ∧ W.heap[s]? = some (.deferred (some []))) W1 hb1
    (fun pre A B row hs hgr hr => ⟨hI pre A B row hs.1 hgr (fun r e => by
      obtain ⟨h2, o, ho, hw⟩ := hr r e
      exact ⟨by omega, o, ho, Obj.not_cells_of_walk hw⟩), still hgr hr (by omega) hs.2.1, still hgr hr (by omega) hs.2.2⟩)
    (fun pre W h => hIK pre W h.1) ?_ ⟨hI1, rec1, def1⟩).mono ?_
  · rintro pre x W ⟨hi, hl, hk⟩ hC
    have hy := run_yield (P := P) (args := encs x) hl (hps x)
    refine ⟨fn, _, assign, body, hy, roundIn_of_wpIn hfn (hassign _ pre x W _ hi hC fun a' Wa hka hia hax => ?_)⟩
    have hla := hka.same _ _ (by omega) hl rfl
    have hda := hka.same _ _ (Nat.le_refl _) hk rfl
    have hlt := (Array.getElem?_eq_some_iff.1 hla).1
    refine ⟨_, run_beginRound hla rfl, ?_⟩
    have hlb : (Wa.putObj (s + 1) (.loop { rc .ready none with state := .busy })).heap[s + 1]? = some (.loop { rc .ready none with state := .busy }) := World.putObj_heap_same hlt
    have hdb : (Wa.putObj (s + 1) (.loop { rc .ready none with state := .busy })).heap[s]? = some (.deferred (some [])) := (World.putObj_heap_other (by omega)).trans hda
    refine wpIn_mono (hbody _ pre x a' _ (hI.putObj _ hia (by omega) hla rfl) hC ((hAx x a').putObj (s := ()) _ hax (by omega) hla rfl)) ?_
    rintro e a3 W3 ⟨rfl, hk3, hi3⟩
    have hl3 := hk3.same _ _ (by omega) hlb rfl
    have hd3 := hk3.same _ _ (Nat.le_refl _) hdb rfl
    exact ⟨_, _, run_endRound (P := P) none hl3, rfl, hI.putObj _ hi3 (by omega) hl3 rfl, World.putObj_heap_same (Array.getElem?_eq_some_iff.1 hl3).1, (World.putObj_heap_other (by omega)).trans hd3⟩
  · rintro e W2 ⟨⟨v, rfl⟩, xs, hS, hi, hl, hk⟩
    exact ⟨none, _, run_endLoop (P := P) hl (by simp [rc]), hdone _ xs _ (Nat.le_refl _) hS (hI.putObj _ hi (by omega) hl rfl) ((World.putObj_heap_other (by omega)).trans hk)⟩
end
end Go.Proofs.YtomphgpplbekiaaGreat
namespace Go.Proofs.YtomphgpplbekiaaGreat
open Go.RowKit Go.Shelf
attribute [local go_sem ↓] Go.wp_at_zero Go.wp_at_succ
attribute [local go_sem] Oper.semAt_some

theorem same_of_below {w W : World} (h : Below w.heap.size w W) : Same w W := ⟨h.os, h.tape, h.output, h.size, fun k hk _ => h.block k hk⟩
def liveAt (l : List Fb) (j : Nat) : Bool := ((l[j]?).map (·.1.live)).getD false
def liveIdx (l : List Fb) (k : Nat) : List Nat := (List.range k).filter (liveAt l)
theorem liveIdx_succ (l : List Fb) (k : Nat) : liveIdx l (k + 1) = liveIdx l k ++ (if liveAt l k then [k] else []) := by
  unfold liveIdx
  rw [List.range_succ, List.filter_append]
  cases h : liveAt l k <;> simp [h]
theorem liveIdx_lt {l : List Fb} {k m : Nat} (h : m ∈ liveIdx l k) : m < k := by
  simp only [liveIdx, List.mem_filter, List.mem_range] at h
  exact h.1
def laidAt (l : List Fb) (j : Nat) : Value := ((l[j]?).map laidV).getD undef
def encI (l : List Fb) (j : Nat) : Array Value := #[.int .i64 (j : Int), laidAt l j]
/-- The rows behind all that have come lie as they lay. -/
def KjI (l : List Fb) (g : Nat) (pre : List Nat) (W : World) : Prop := ∀ j x, l[j]? = some x → (∀ m ∈ pre, m < j) → ∀ i v, (fbP x)[i]? = some v → W.cell? ⟨g, j * 8 + i, none⟩ = some v
def CjI (l : List Fb) (pre : List Nat) (j : Nat) : Prop := (∃ x, l[j]? = some x ∧ x.1.live = true) ∧ ∀ m ∈ pre, m < j
section
variable {w w' : World} {N cb : Nat} {R : RamAt} {M : List Int} {V : CV} {l : List Fb} {hi mi : Int}
attribute [local go_sem ↓] x_stKy x_stRw x_stLd x_stOu x_stRb x_stCd x_stBk x_stLk
attribute [local go_sem] st_Ky st_Rw st_Ld st_Ou st_Rb st_Cd st_Bk st_Lk ne_s1 en_s1 ne_s2 en_s2 ne_s3 en_s3 ne_s4 en_s4 ne_s5 en_s5 ne_s6 en_s6 ne_s7 en_s7 ne_s8 en_s8 lt_s2 lt_s3 lt_s4 lt_s5 lt_s6 lt_s7 lt_s8 rowAt_at rowAt_old rowAt_drew rowAt_drewN setRow_drew setRow_at setRow_old setRow_setRow rowAt_setRow_eq rowAt_setRow_ne cell_setRow_eq cell_setRow_ne frozen_setRow_eq frozen_setRow_ne ones_lit oc_int oc_bool oc_str oc_ptr oc_sl oc_map oc_fn oc_nf oc_ni oc_if
attribute [local go_sem ↓] x_ldLd
set_option maxRecDepth 100000 in
set_option maxHeartbeats 4000000 in
theorem each1_any (n : Nat) (hn : 1 ≤ n) (Bn : Nat) (w : World) (hBn : Bn < w.heap.size) (hc : w.cell? ⟨Bn, 0, none⟩ = some (.pointer (some ⟨cb, 0, none⟩))) (h : IsCache w N cb R M V l hi mi) (g : Nat)
    (p : Option Addr) (cap : Nat) (hbl : V.bl = .slice p l.length cap) (hp : 0 < l.length → p = some ⟨g, 0, none⟩ ∧ l.length ≤ cap ∧ cap ≤ maxLen) (hll : l.length ≤ 100000)
    (hone : ∀ x ∈ l, FbOk w x) :
    SeqJ Fence.wide n Tryz.prog 79 #[.pointer (some ⟨Bn, 0, none⟩)] (encI l) (KjI l g) (CjI l) (fun xs => xs = liveIdx l l.length) w := fun li J W hW hJ hKj hY h0 => by
  have hk := same_of_below hW
  have hc' := (hW.cell (p := ⟨Bn, 0, none⟩) hBn).trans hc
  have HI := hidE (h.same hk)
  have HN := hidE (cs_none HI.out)
  have d1 := HI.out.c 1
  simp only [cacheA, hbl] at d1
  have HONE := hidE (fun x hx => (hone x hx).ones)
  have HKj := hidE hKj
  have HY := hidE hY
  have HJ := hidE hJ
  clear h hc hW hk hone hKj hY hJ
  refine callsIn_of_wp Tryz.func79 rfl trivial ?_ rfl
  simp only [Tryz.ntmps79, List.size_toArray, List.length_cons, List.length_nil, Nat.reduceAdd, Nat.reduceSub, Array.replicate_succ, Array.replicate_zero, List.push_toArray, List.append_toArray, List.nil_append, List.cons_append]
  have hfn : Fence.wide.fn 47 := trivial
  gi_wp2_with (gi_at_call 47; refine (callsIn_wide.2 HN.out).mono ?_; rintro _ w1 ⟨rfl, rfl⟩)
  gi_loopw [12] (fun t12 wr => ∃ k : Nat, k ≤ l.length ∧ t12 = .int .i64 (k : Int) ∧ J (liveIdx l k) wr) (fun t12 _ => (l.length - intOf t12).toNat)
  case atStart => exact ⟨0, by omega, rfl, h0⟩
  case round =>
    obtain ⟨k, hkl, rfl, hJk⟩ := hrel
    clear h0 d1 hc' HI
    by_cases hlt : k < l.length
    · have q0 : decide ((k : Int) < (l.length : Int)) = true := decide_eq_true (by omega)
      have q1 : (k : Int) < (l.length : Int) := by omega
      have e1 := wrapI ((k : Int) + 1) (by omega) (by omega)
      obtain ⟨rfl, hcap1, hcap2⟩ := hp (by omega)
      obtain ⟨x, hx⟩ : ∃ x, l[k]? = some x := ⟨_, List.getElem?_eq_getElem hlt⟩
      obtain ⟨o1, o2, o3⟩ := HONE.out x (List.mem_of_getElem? hx)
      have hcell := HKj.out _ _ hJk k x hx (fun m hm => liveIdx_lt hm)
      have hld := ld_at (P := Tryz.prog) (w := wr) (t := 112) (g := g) (o := k * 8) Tryz.underlying112 rfl infoLd (c := fbP x) rfl hcell
      cases hlv : x.1.live with
      | false =>
        have hE : liveIdx l (k + 1) = liveIdx l k := by rw [liveIdx_succ]; simp [liveAt, hx, hlv]
        simp only [fbP, hlv, Bool.not_false] at hld
        have HJ1 := hidE (HJ.out _ _ _ none hJk (World.grownBy_alloc wr (.cells #[.int .u32 x.1.k1, .int .u32 x.1.k2, .int .i64 x.1.pos, x.2.bv, x.2.rv, .int .i64 x.1.fin, x.2.fv, .bool true] 112) none) (fun r e => by cases e))
        clear hcell hx hJk
        gi_wp2_with fail
        refine ⟨fun _ h => (by cases h), ?_⟩
        gi_wp2
        exact ⟨⟨k + 1, by omega, by simp, by rw [hE]; exact HJ1.out⟩, by simp only [intOf]; omega⟩
      | true =>
        have hE : liveIdx l (k + 1) = liveIdx l k ++ [k] := by rw [liveIdx_succ]; simp [liveAt, hx, hlv]
        simp only [fbP, hlv, Bool.not_true] at hld
        have HJ1 := HJ.out _ _ _ none hJk (World.grownBy_alloc wr (.cells #[.int .u32 x.1.k1, .int .u32 x.1.k2, .int .i64 x.1.pos, x.2.bv, x.2.rv, .int .i64 x.1.fin, x.2.fv, .bool false] 112) none) (fun r e => by cases e)
        obtain ⟨fn, tmps, assign, body, hy, hR⟩ := HY.out (liveIdx l k) k _ HJ1 ⟨⟨x, hx, hlv⟩, fun m hm => liveIdx_lt hm⟩
        simp only [encI, laidAt, hx, Option.map_some, Option.getD_some, laidV, hlv, Bool.not_true] at hy
        have hld2 := ld_at (P := Tryz.prog) (w := wr.alloc (.cells #[.int .u32 x.1.k1, .int .u32 x.1.k2, .int .i64 x.1.pos, x.2.bv, x.2.rv, .int .i64 x.1.fin, x.2.fv, .bool false] 112)) (t := 112) (g := wr.heap.size) (o := 0) Tryz.underlying112 rfl infoLd (c := [.int .u32 x.1.k1, .int .u32 x.1.k2, .int .i64 x.1.pos, x.2.bv, x.2.rv, .int .i64 x.1.fin, x.2.fv, .bool false]) rfl (fun i v hv => by
          rw [Nat.zero_add, cell_of (block_new wr (.cells #[.int .u32 x.1.k1, .int .u32 x.1.k2, .int .i64 x.1.pos, x.2.bv, x.2.rv, .int .i64 x.1.fin, x.2.fv, .bool false] 112))]
          simpa using hv)
        have HR := hidE hR
        clear hcell hx hJk HJ1 hR
        gi_wp2_with fail
        refine HR.out.mono ?_
        rintro e W2 ⟨rfl, hJ2⟩
        clear hld hld2 hy HR
        gi_wp2_with fail
        exact ⟨⟨k + 1, by omega, by simp, by rw [hE]; exact hJ2⟩, by simp only [intOf]; omega⟩
    · obtain rfl : k = l.length := by omega
      have q0 : decide ((l.length : Int) < (l.length : Int)) = false := by simp
      gi_wp2
      go_end0
      exact ⟨⟨_, rfl⟩, _, rfl, hJk⟩
end
end Go.Proofs.YtomphgpplbekiaaGreat
namespace Go.Proofs.YtomphgpplbekiaaGreat
open Go.RowKit Go.Shelf
attribute [local go_sem ↓] Go.wp_at_zero Go.wp_at_succ
attribute [local go_sem] Oper.semAt_some

theorem keepsFrom_of {F : Nat → Prop} {B : Nat} {W W' : World} (k : Keeps F W W') (hF : ∀ b, F b → B ≤ b → ∃ A t f, W.heap[b]? = some (.cells A t f)) : KeepsFrom B W W' :=
  ⟨k.size, fun b o hB ho hc => by
    refine k.get ho fun hb => ?_
    obtain ⟨A, t, f, h⟩ := hF b hb hB
    rw [h] at ho
    cases ho
    cases hc⟩
theorem rowX_cells {A : World} {B s : Nat} {e : TypeId} {v : Value} {L : List (List Value)} (h : RowX A B e s v L) : ∀ g, some g = v.ownBlock → ∃ C t f, A.heap[g]? = some (.cells C t f) := fun g hg => by
  obtain ⟨-, ⟨rfl, h0⟩ | ⟨g', cap, cur, rfl, hB, hg', -⟩⟩ := h.own
  · cases hg
  · obtain rfl : g = g' := Option.some.inj hg
    exact ⟨_, _, _, hg'⟩
theorem rowX_apart {A : World} {B s r : Nat} {e : TypeId} {v : Value} {L : List (List Value)} (h : RowX A B e s v L) (hr : ∃ o : Obj, A.heap[r]? = some o ∧ o.isCells = false) : ∀ g, some g = v.ownBlock → ¬ g = r := fun g hg => by
  obtain ⟨C, t, f, hc⟩ := rowX_cells h g hg
  exact not_cells hc hr
theorem wpListIn_app {F : Fence} {n : Nat} {P : Program} {w w' : World} {ops : Array Oper} {rest : List Oper} {o : Oper} {a : Act} {Q : Exit → Act → World → Prop} (hgd : o.guard = none) (s x : Operand) (t : TypeId)
    (ho : o.op = .call { callee := .builtin .append, args := #[s, x], argTypes := #[t, t] }) {v xv r : Value} (hs : a.eval s = v) (hx : a.eval x = xv) (hr : (Builtin.append_ #[t, t] o.type #[v, xv]).run P w = .ok r w')
    (h : wpListIn F n P ops Q rest (a.put o.dst r) w') : wpListIn F n P ops Q (o :: rest) a w :=
  wpListIn_plain hgd fun _ hK => by
    refine ⟨by simp [Oper.about, ho, resolve, Target.leads, Sem.run_pure], ?_⟩
    rw [Oper.semAt_plain F _ _ (by rw [ho]; intro c hc; cases hc), exec_app s x t ho hs hx hr]
    exact hK _ _ h
theorem own_ofB {β : Type} {L : Nat} {I : β → World → Prop} (h : ∀ s A B r, I s A → L ≤ r → (∃ o : Obj, A.heap[r]? = some o ∧ o.isCells = false) → Keeps (fun k => k = r) A B → I s B) (h2 : ∀ s A B, I s A → Same A B → I s B) : OwnFrom L I := fun s A B row hs hg hr => by
  cases row with
  | none => exact h2 s A B hs (keeps_grown hg fun k e => by cases e)
  | some r =>
    obtain ⟨h3, h4⟩ := hr r rfl
    exact h s A B r hs h3 h4 (keeps_grown hg fun k e => by cases e; rfl)
def UpTo (pre : List Nat) : Prop := ∀ j, (∀ m ∈ pre, m < j) → pre.length ≤ j
theorem UpTo.nil : UpTo [] := fun _ _ => Nat.zero_le _
theorem UpTo.snoc {pre : List Nat} {x : Nat} (h : UpTo pre) (hx : ∀ m ∈ pre, m < x) : UpTo (pre ++ [x]) := fun j hj => by
  have h1 := h x hx
  have h2 := hj x (by simp)
  simp only [List.length_append, List.length_cons, List.length_nil]
  omega
def keyAt (l : List Fb) (j : Nat) : List Value := ((l[j]?).map fun x => [.int .u32 x.1.k1, .int .u32 x.1.k2]).getD []
def keysL (l : List Fb) : List (List Value) := (liveIdx l l.length).map (keyAt l)
theorem key_info : (Tryz.prog.info? 31).map (fun i => (i.zero, i.size, i.bytes)) = some (some (.agg #[.int .u32 0, .int .u32 0]), 2, 8) := by kernel_rfl
section
variable {w w' : World} {N cb : Nat} {R : RamAt} {M : List Int} {V : CV} {l : List Fb} {hi mi : Int}
attribute [local go_sem ↓] x_stKy x_stRw x_stLd x_stOu x_stRb x_stCd x_stBk x_stLk
attribute [local go_sem] st_Ky st_Rw st_Ld st_Ou st_Rb st_Cd st_Bk st_Lk ne_s1 en_s1 ne_s2 en_s2 ne_s3 en_s3 ne_s4 en_s4 ne_s5 en_s5 ne_s6 en_s6 ne_s7 en_s7 ne_s8 en_s8 lt_s2 lt_s3 lt_s4 lt_s5 lt_s6 lt_s7 lt_s8 rowAt_at rowAt_old rowAt_drew rowAt_drewN setRow_drew setRow_at setRow_old setRow_setRow rowAt_setRow_eq rowAt_setRow_ne cell_setRow_eq cell_setRow_ne frozen_setRow_eq frozen_setRow_ne ones_lit oc_int oc_bool oc_str oc_ptr oc_sl oc_map oc_fn oc_nf oc_ni oc_if
attribute [local go_sem ↓] x_ldKy
/-- The cache's rows, wherever they lie. -/
theorem IsCache.rowsAt (h : IsCache w N cb R M V l hi mi) : ∃ p cap g, V.bl = .slice p l.length cap ∧ (0 < l.length → p = some ⟨g, 0, none⟩ ∧ l.length ≤ cap ∧ cap ≤ maxLen) ∧ KjI l g [] w := by
  obtain ⟨p, cap, e⟩ := h.bl_sl
  by_cases hl : l = []
  · subst hl
    exact ⟨p, cap, 0, e, fun h => absurd h (by simp), fun j x hj => by simp at hj⟩
  · obtain ⟨x, hx⟩ : ∃ x, l[0]? = some x := ⟨_, List.getElem?_eq_getElem (List.length_pos_iff.2 hl)⟩
    obtain ⟨g, cap', e', h1, h2, -⟩ := h.bk hx
    rw [e] at e'
    cases e'
    refine ⟨_, _, g, e, fun _ => ⟨rfl, h1, h2⟩, fun j x hj _ i v hv => ?_⟩
    obtain ⟨g', cap', e', -, -, hc⟩ := h.bk hj
    rw [e] at e'
    cases e'
    exact hc i v hv
set_option maxRecDepth 100000 in
set_option maxHeartbeats 4000000 in
theorem cs_keys (h : IsCache w N cb R M V l hi mi) (hll : l.length ≤ 10000) :
    Calls Tryz.prog 11 #[.pointer (some ⟨cb, 0, none⟩)] w fun e w' => ∃ v, e = .returned v ∧ RowX w' w.heap.size 31 2 v (keysL l) ∧ Same w w' := by
  obtain ⟨p, cap, g, ebl, hp, hK0⟩ := h.rowsAt
  refine (callsIn_wide (n := 6)).1 ?_
  refine callsIn_of_wp_marks Tryz.func11 rfl trivial ?_ rfl
  simp only [Tryz.ntmps11, List.size_toArray, List.length_cons, List.length_nil, Nat.reduceAdd, Nat.reduceSub, Array.replicate_succ, Array.replicate_zero, List.push_toArray, List.append_toArray, List.nil_append, List.cons_append]
  have hfn : Fence.wide.fn 46 := trivial
  gi_wp2_with (gi_at_call 46; refine (callsIn_wide.2 (each_any _ _)).mono ?_; rintro e w' ⟨rfl, rfl⟩)
  have hb := block_old (.cells #[.pointer (some ⟨cb, 0, none⟩)] 23) (block_new w (.cells #[.slice none 0 0] 39))
  have hk := ((Keeps.refl (fun _ => False) w).alloc (.cells #[.slice none 0 0] 39)).alloc (.cells #[.pointer (some ⟨cb, 0, none⟩)] 23)
  have hc := (cell_of (block_atR (.cells #[.pointer (some ⟨cb, 0, none⟩)] 23) (by simp : (w.alloc (.cells #[.slice none 0 0] 39)).heap.size = w.heap.size + 1))) 0
  have HH := hidE h
  refine wpIn_range_rows rfl (by omega) (gf := 79) (lb := #[.pointer (some ⟨w.heap.size + 1, 0, none⟩)]) rfl trivial (enters_of Tryz.func79 (by kernel_rfl) rfl)
    (each1_any 5 (by omega) (w.heap.size + 1) _ (by simp) hc (h.same hk) g p cap ebl hp (by omega) (h.same hk).fb) (fun x => rfl)
    (fun pre W => ∃ v, W.heap[w.heap.size]? = some (.cells #[v] 39 (0, 0)) ∧ RowX W w.heap.size 31 2 v (pre.map (keyAt l)) ∧ v.oneCell' = true ∧ Same w W ∧ w.heap.size + 2 ≤ W.heap.size ∧ UpTo pre)
    (own_of (fun s A B r h1 h2 h3 h4 => by
      obtain ⟨v, a1, a2, a3, a4, a5, a6⟩ := h1
      exact ⟨v, h4.get a1 (not_cells a1 h3), a2.keeps h4 (rowX_apart a2 h3), a3, same_new a4 h4 (fun k e => by subst e; simp at h2; omega), Nat.le_trans a5 h4.size, a6⟩) (fun s A B h1 h2 => by
      obtain ⟨v, a1, a2, a3, a4, a5, a6⟩ := h1
      exact ⟨v, h2.get a1 id, a2.keeps h2 (fun _ _ => id), a3, a4.trans h2, Nat.le_trans a5 h2.size, a6⟩))
    ⟨_, hb, RowX.nil, rfl, hk, by simp, UpTo.nil⟩
    (fun pre W ⟨v, a1, a2, a3, a4, hge, hpl⟩ j x hj _ i u hu => cell_same1 a4 (hK0 j x hj (fun m hm => by cases hm) i u hu))
    (fun x a' W => ∃ b y, l[x]? = some y ∧ w.heap.size + 2 ≤ b ∧ W.heap[b]? = some (.cells #[.int .u32 y.1.k1, .int .u32 y.1.k2, .int .i64 y.1.pos, y.2.bv, y.2.rv, .int .i64 y.1.fin, y.2.fv, .bool false] 112 (0, 0)) ∧ a' = { tmps := #[.pointer (some ⟨cb, 0, none⟩), undef, .slice none 0 0, .pointer (some ⟨w.heap.size, 0, none⟩), undef, .pointer (some ⟨b, 0, none⟩), .pointer (some ⟨cb, 0, none⟩), .func (.func 79) #[] #[.pointer (some ⟨w.heap.size + 1, 0, none⟩)], .int .i64 (x : Int), .agg #[.int .u32 y.1.k1, .int .u32 y.1.k2, .int .i64 y.1.pos, y.2.bv, y.2.rv, .int .i64 y.1.fin, y.2.fv, .bool false], undef, undef, undef, undef, undef, undef], defers := [] })
    (fun x a' => own_ofB (fun _ A B r h1 h2 h3 h4 => by
      obtain ⟨b, y, hy, hb, hB, e⟩ := h1
      exact ⟨b, y, hy, hb, h4.get hB (not_cells hB h3), e⟩) (fun _ A B h1 h2 => by
      obtain ⟨b, y, hy, hb, hB, e⟩ := h1
      exact ⟨b, y, hy, hb, h2.get hB id, e⟩)) ?assign ?body ?done
  case assign =>
    rintro li pre x W K ⟨v, a1, a2, a3, a4, hge, hpl⟩ ⟨⟨y, hy, hlv⟩, hlt⟩ hK
    obtain ⟨o1, o2, o3⟩ := (h.fb y (List.mem_of_getElem? hy)).ones
    simp only [encI, laidAt, hy, Option.map_some, Option.getD_some, laidV, hlv, Bool.not_true] at hK ⊢
    have hz := a4.size
    have k1 := (Keeps.refl (fun _ => False) W).alloc (.cells #[.int .u32 y.1.k1, .int .u32 y.1.k2, .int .i64 y.1.pos, y.2.bv, y.2.rv, .int .i64 y.1.fin, y.2.fv, .bool false] 112)
    have hzz : w.heap.size + 2 ≤ W.heap.size := hge
    clear h HH
    gi_wp2
    exact hK _ _ (keepsFrom_of k1 (fun _ h => h.elim)) ⟨v, k1.get a1 id, a2.keeps k1 (fun _ _ => id), a3, a4.trans k1, Nat.le_trans hge k1.size, hpl⟩ ⟨W.heap.size, y, (by first | exact hy | rfl), hzz, block_new _ _, rfl⟩
  case body =>
    rintro li pre x a' W ⟨v, a1, a2, a3, a4, hge, hpl⟩ ⟨_, hlt⟩ ⟨b, y, hy, hb, hB, rfl⟩
    have c1 := cell_of a1
    have f1 := frozen_of a1
    have cB := cell_of hB
    have hz := a4.size
    have hne : b ≠ w.heap.size := by omega
    have hkey : keyAt l x = [.int .u32 y.1.k1, .int .u32 y.1.k2] := by simp [keyAt, hy]
    have hld := ld_at (P := Tryz.prog) (w := W) (t := 31) (g := b) (o := 0) Tryz.underlying31 rfl infoKy (c := [.int .u32 y.1.k1, .int .u32 y.1.k2]) rfl (fun i v hv => by
      rw [Nat.zero_add, cB i]
      match i, hv with
      | 0, hv => exact hv
      | 1, hv => exact hv)
    have k1 := (Keeps.refl (fun _ => False) W).alloc (.cells #[.int .u32 y.1.k1, .int .u32 y.1.k2] 31)
    have hxl : x < l.length := (List.getElem?_eq_some_iff.1 hy).1
    have hlen : pre.length ≤ x := hpl x hlt
    obtain ⟨g2, cap2, w2, hr2, h3, h4⟩ := (a2.keeps k1 (fun _ _ => id)).push (P := Tryz.prog) 39 _ 8 Tryz.underlying39 key_info (by rfl) (by decide) (by decide) (keyAt l x) (by simp [hkey]) (by rw [hkey]; simp [Value.oneCell']) W.heap.size 1 (block_new _ _) (by simp [hkey]) (by simp; omega) (by simp; omega)
    obtain ⟨pv, cv, ev⟩ := a2.sl
    simp only [List.length_map] at ev hr2 h3
    subst ev
    have H3 := hidE h3
    have H4 := hidE h4.keeps
    have A2 := hidE a2
    have A1 := hidE a1
    have b3 := h4.keeps.get (k1.get a1 id) (fun e => a2.ne a1 (by decide) e)
    have B3 := hidE b3
    have c3 := cell_of b3
    have f3 := frozen_of b3
    have K1 := hidE k1
    clear h3 h4 h HH b3 a1 a2 k1
    gi_wp2_with (gi_at_builtin; refine wpListIn_app rfl (.tmp 10) (.tmp 13) 39 rfl rfl rfl hr2 ?_; clear hr2)
    have kall := ((K1.out.mono (G := fun k => some k = (Value.slice pv pre.length cv).ownBlock ∨ k = w.heap.size) (fun _ _ h => h.elim)).trans (H4.out.mono fun _ _ h => .inl h)).setCell (p := ⟨w.heap.size, 0, none⟩) (fun _ => .inr rfl) (.slice (some ⟨g2, 0, none⟩) (pre.length + 1) cap2)
    refine ⟨keepsFrom_of kall (fun b e hb => ?_), .slice (some ⟨g2, 0, none⟩) (pre.length + 1) cap2, block_set B3.out 0 _, ?_, rfl, same_then a4 kall (fun k e => ?_), Nat.le_trans hge (by simpa using kall.size), hpl.snoc hlt⟩
    · rcases e with e | e
      · exact rowX_cells A2.out b e
      · omega
    · have h9 := H3.out.keeps ((Keeps.refl (fun k => k = w.heap.size) w2).setCell (p := ⟨w.heap.size, 0, none⟩) (fun _ => rfl) (.slice (some ⟨g2, 0, none⟩) (pre.length + 1) cap2)) (fun g hg e => H3.out.ne B3.out (by decide) (by rw [← hg, e]))
      rw [hkey] at h9
      exact h9
    · rcases e with e | e
      · exact (A2.out.lt k e).1
      · omega
  case done =>
    rintro D xs W hD rfl ⟨v, a1, a2, a3, a4, hge, hpl⟩ hK
    have c1 := cell_of a1
    gi_wp2
    refine ⟨by simp, .inl ⟨_, _, rfl, run_takeDeferred hK, ?_⟩⟩
    refine ⟨_, results_tmp rfl _ _ _, _, rfl, ?_, ?_⟩
    · exact a2.keeps (keeps_grown (F := fun k => k = D) (grownBy_putObj' W D _) fun k e => by cases e; rfl) (rowX_apart a2 ⟨_, hK, rfl⟩)
    · exact same_put a4 (by simp at hD; omega) hK
end
end Go.Proofs.YtomphgpplbekiaaGreat
namespace Go.Proofs.YtomphgpplbekiaaGreat
open Go.RowKit
attribute [local go_sem ↓] Go.wp_at_zero Go.wp_at_succ
section
variable {w w' : World} {N rb : Nat} {Vb : Value} {l : List Fb} {sz : Int}
attribute [local go_sem ↓] x_stKy x_stRw x_stLd x_stOu x_stRb x_stCd x_stBk x_stLk
attribute [local go_sem] st_Ky st_Rw st_Ld st_Ou st_Rb st_Cd st_Bk st_Lk ne_s1 en_s1 ne_s2 en_s2 ne_s3 en_s3 ne_s4 en_s4 ne_s5 en_s5 ne_s6 en_s6 ne_s7 en_s7 ne_s8 en_s8 lt_s2 lt_s3 lt_s4 lt_s5 lt_s6 lt_s7 lt_s8 rowAt_at rowAt_old rowAt_drew rowAt_drewN setRow_drew setRow_at setRow_old setRow_setRow rowAt_setRow_eq rowAt_setRow_ne cell_setRow_eq cell_setRow_ne frozen_setRow_eq frozen_setRow_ne ones_lit oc_int oc_bool oc_str oc_ptr oc_sl oc_map oc_fn oc_nf oc_ni oc_if
theorem liveIdx_le (l : List Fb) (k : Nat) : (liveIdx l k).length ≤ k := by
  have := List.length_filter_le (liveAt l) (List.range k)
  simpa [liveIdx] using this
set_option maxRecDepth 100000 in
set_option maxHeartbeats 2000000 in
theorem rf_keys (h : IsRef w N rb Vb l sz) (hll : l.length ≤ 10000) :
    Calls Tryz.prog 33 #[.pointer (some ⟨rb, 0, none⟩)] w fun e w' => ∃ v, e = .returned v ∧ RowX w' w.heap.size 31 2 v (keysL l) ∧ Same w w' := by
  obtain ⟨p, c, ebl⟩ := h.sl
  have HH := hidE h
  clear h
  go_enter Tryz.func33, Tryz.ntmps33
  go_wp2_with fail
  go_loopw [3, 4] (fun t3 t4 wr => ∃ (k : Nat) (v' : Value), k ≤ l.length ∧ t4 = .int .i64 (k : Int) ∧ t3 = v' ∧ RowX wr w.heap.size 31 2 v' ((liveIdx l k).map (keyAt l)) ∧ Same w wr) (fun _ t4 _ => (l.length - intOf t4).toNat)
  case atStart => exact ⟨0, _, by omega, rfl, rfl, RowX.nil, Keeps.refl _ _⟩
  case round =>
    obtain ⟨k, v', hk, rfl, rfl, h1, h2⟩ := hrel
    have HW := hidE h2
    have HV := hidE h1
    obtain ⟨p', c', e9⟩ := h1.sl
    simp only [List.length_map] at e9
    subst e9
    clear h1 h2
    have d0 := (HH.out.same HW.out).c 0
    simp only [refA, ebl] at d0
    by_cases hlt : k < l.length
    · have q0 : decide ((k : Int) < (l.length : Int)) = true := decide_eq_true (by omega)
      have q1 : (k : Int) < (l.length : Int) := by omega
      have q3 : (0 : Int) ≤ (k : Int) := by omega
      have e1 := wrapI ((k : Int) + 1) (by omega) (by omega)
      obtain ⟨x, hx⟩ : ∃ x, l[k]? = some x := ⟨_, List.getElem?_eq_getElem hlt⟩
      obtain ⟨g, cap, e, n1, n2, hc⟩ := (HH.out.same HW.out).bk hx
      rw [ebl] at e
      cases e
      have a0 := hc 0 _ rfl
      have a1 := hc 1 _ rfl
      have a7 := hc 7 _ rfl
      simp only [Nat.add_zero] at a0
      clear hc
      cases hl : x.1.live with
      | true =>
        rw [hl] at a7
        have hE : liveIdx l (k + 1) = liveIdx l k ++ [k] := by rw [liveIdx_succ]; simp [liveAt, hx, hl]
        have hkey : keyAt l k = [.int .u32 x.1.k1, .int .u32 x.1.k2] := by simp [keyAt, hx]
        have hlen := liveIdx_le l k
        have hz2 := HW.out.size
        have k1 := (Keeps.refl (fun _ => False) wr).alloc (.cells #[.int .u32 x.1.k1, .int .u32 x.1.k2] 31)
        obtain ⟨g2, cap2, w2, hr2, h3, h4⟩ := (HV.out.keeps k1 (fun _ _ => id)).push (P := Tryz.prog) 39 _ 8 Tryz.underlying39 key_info (by rfl) (by decide) (by decide) (keyAt l k) (by simp [hkey]) (by rw [hkey]; simp [Value.oneCell']) wr.heap.size 1 (block_new _ _) (by simp [hkey]) (by simp only [List.length_map]; omega) (by simp; omega)
        simp only [List.length_map] at hr2 h3
        have H3 := hidE h3
        have H4 := hidE (same_then (HW.out.trans k1) h4.keeps (fun b e => (HV.out.lt b e).1))
        clear h3 h4 hz2 hlen k1 hx
        go_wp2_with (at_builtin; refine wpList_app rfl (.tmp 22) (.tmp 31) 39 rfl rfl rfl hr2 ?_; clear hr2)
        refine ⟨⟨k + 1, _, by omega, by simp, rfl, ?_, H4.out⟩, by simp only [intOf]; omega⟩
        rw [hE, List.map_append]
        exact H3.out
      | false =>
        rw [hl] at a7
        have hE : liveIdx l (k + 1) = liveIdx l k := by rw [liveIdx_succ]; simp [liveAt, hx, hl]
        clear hx
        go_wp2_with fail
        refine ⟨⟨k + 1, _, by omega, by simp, rfl, ?_, HW.out⟩, by simp only [intOf]; omega⟩
        rw [hE]
        exact HV.out
    · obtain rfl : k = l.length := by omega
      have q0 : decide ((l.length : Int) < (l.length : Int)) = false := by simp
      go_wp2
      go_ret
      exact ⟨_, rfl, HV.out, HW.out⟩
end
end Go.Proofs.YtomphgpplbekiaaGreat
namespace Go.Proofs.YtomphgpplbekiaaGreat
open Go.RowKit Go.Shelf
attribute [local go_sem ↓] Go.wp_at_zero Go.wp_at_succ

def hasI (xs : List Int) (x : Int) : Bool := xs.any (fun y => y == x)
theorem any_take_succ {xs : List Int} {k : Nat} {y x : Int} (h : xs[k]? = some y) : hasI (xs.take (k + 1)) x = (hasI (xs.take k) x || (y == x)) := by
  unfold hasI
  rw [List.take_add_one, h, List.any_append]
  simp
theorem hasI_at {xs : List Int} {k : Nat} {x : Int} (h : xs[k]? = some x) : hasI xs x = true := by
  unfold hasI
  rw [List.any_eq_true]
  exact ⟨x, List.mem_of_getElem? h, by simp⟩
set_option maxRecDepth 100000 in
theorem index_any (w : World) (v : Value) (xs : List Int) (h : IntSl w v xs) (x : Int) :
    Calls Tryz.prog 97 #[v, .int .i64 x] w fun e w' => ∃ r : Int, e = .returned (.int .i64 r) ∧ decide (0 ≤ r) = hasI xs x ∧ w = w' := by
  obtain ⟨a, c, rfl, h1, h2, h3⟩ := h
  have hmax : maxLen = 9223372036854775807 := rfl
  go_enter Tryz.func97, Tryz.ntmps97
  go_wp2_with fail
  go_loopw [8] (fun t8 wr => ∃ k : Nat, k ≤ xs.length ∧ t8 = .int .i64 (k : Int) ∧ hasI (xs.take k) x = false ∧ w = wr) (fun t8 _ => (xs.length - intOf t8).toNat)
  case atStart => exact ⟨0, by omega, rfl, by simp [hasI], rfl⟩
  case round =>
    obtain ⟨k, hk, rfl, hn, rfl⟩ := hrel
    by_cases hlt : k < xs.length
    · have q0 : decide ((k : Int) < (xs.length : Int)) = true := decide_eq_true (by omega)
      have q1 : (k : Int) < (xs.length : Int) := by omega
      have e1 := wrapI ((k : Int) + 1) (by omega) (by omega)
      obtain ⟨y, hy⟩ : ∃ y, xs[k]? = some y := ⟨_, List.getElem?_eq_getElem hlt⟩
      rcases h3 with h3 | ⟨S, o, rfl, hS, hc⟩
      · rw [h3] at hlt; simp at hlt
      have hcy := hc k y hy
      have HN := hidE (any_take_succ (x := x) hy)
      have HY := hidE hy
      clear hc hy
      by_cases he : x = y
      · subst he
        have q2 : (x == x) = true := beq_self_eq_true _
        go_wp2
        go_ret
        refine ⟨(k : Int), rfl, ?_⟩
        rw [hasI_at HY.out]
        simp
      · have q2 : (x == y) = false := beq_eq_false_iff_ne.2 he
        go_wp2_with fail
        refine ⟨⟨k + 1, by omega, by simp, ?_, trivial⟩, by simp only [intOf]; omega⟩
        rw [HN.out, hn]
        simp [Ne.symm he]
    · obtain rfl : k = xs.length := by omega
      have q0 : decide ((xs.length : Int) < (xs.length : Int)) = false := by simp
      rw [List.take_length] at hn
      go_wp2
      go_ret
      exact ⟨-1, rfl, by rw [hn]; rfl, rfl⟩
theorem contains_any (w : World) (v : Value) (xs : List Int) (h : IntSl w v xs) (x : Int) :
    Calls Tryz.prog 71 #[v, .int .i64 x] w fun e w' => e = .returned (.bool (hasI xs x)) ∧ w = w' := by
  have HI := hidE (index_any w v xs h x)
  clear h
  go_enter Tryz.func71, Tryz.ntmps71
  go_wp2_with fail
  refine HI.out.mono ?_
  rintro _ w1 ⟨r, rfl, hr, rfl⟩
  have HR := hidE hr
  clear hr
  go_wp2
  go_ret
  exact ⟨by rw [← HR.out]; rfl, rfl⟩
end Go.Proofs.YtomphgpplbekiaaGreat
namespace Go.Proofs.YtomphgpplbekiaaGreat
open Go.RowKit

theorem flat_set : ∀ (L : List (List Value)) (s j i : Nat) (c : List Value) (y : Value), (∀ c ∈ L, c.length = s) → L[j]? = some c → i < s → (L.set j (c.set i y)).flatten = L.flatten.set (j * s + i) y
  | [], _, _, _, _, _, _, h, _ => by simp at h
  | c0 :: L, s, 0, i, c, y, hl, h, hi => by
    simp at h; subst h
    have : i < c0.length := by rw [hl c0 (by simp)]; exact hi
    simp only [List.set_cons_zero, List.flatten_cons, Nat.zero_mul, Nat.zero_add]
    rw [List.set_append_left _ _ this]
  | c0 :: L, s, j + 1, i, c, y, hl, h, hi => by
    have h0 := hl c0 (by simp)
    have e : (j + 1) * s + i = s + (j * s + i) := by rw [Nat.succ_mul]; omega
    simp only [List.set_cons_succ, List.flatten_cons]
    rw [flat_set L s j i c y (fun c hc => hl c (by simp [hc])) (by simpa using h) hi, List.set_append_right _ _ (by rw [h0, e]; omega), h0, e, Nat.add_sub_cancel_left]
theorem set_same {α : Type} {l : List α} {n : Nat} {a : α} (h : l[n]? = some a) : l.set n a = l := by
  apply List.ext_getElem?
  intro i
  rw [List.getElem?_set]
  split
  · next e =>
    subst e
    split
    · exact h.symm
    · next hn => rw [List.getElem?_eq_none (by omega)]
  · rfl
theorem RowX.turn {w : World} {B : Nat} {e : TypeId} {s : Nat} {v : Value} {L : List (List Value)} (h : RowX w B e s v L) {j i : Nat} {c : List Value} (hj : L[j]? = some c) (hi : i < s) (y : Value) {g : Nat} (hg : some g = v.ownBlock) : RowX (w.setCell ⟨g, j * s + i, none⟩ y) B e s v (L.set j (c.set i y)) := by
  have hlen := h.len
  obtain ⟨h1, h2⟩ := h.own
  have hcl : c.length = s := hlen c (List.mem_of_getElem? hj)
  rcases h2 with ⟨rfl, -⟩ | ⟨g', cap, cur, rfl, hB, hb, hc1, hc2, hc3, hc4⟩
  · cases hg
  · obtain rfl : g = g' := Option.some.inj hg
    refine ⟨⟨?_, .inr ⟨g, cap, cur.setIfInBounds (j * s + i) y, by simp, hB, block_set hb _ _, by simpa using hc1, hc2, by simpa using hc3, ?_⟩⟩, fun d hd => ?_⟩
    · rw [flat_set L s j i c y hlen hj hi]
      simpa using h1
    · rw [flat_set L s j i c y hlen hj hi, Array.toList_setIfInBounds, List.take_set]
      simp only [List.length_set]
      rw [hc4]
    · rcases List.mem_or_eq_of_mem_set hd with hd | rfl
      · exact hlen d hd
      · simpa using hcl
def deadF (f : Fp) : Fp := { f with live := false }
def deadB (x : Fb) : Fb := (deadF x.1, x.2)
theorem pl_dead (l : List Fb) (n : Nat) (x : Fb) : pl (l.set n (deadB x)) = (pl l).set n (deadF x.1) := by simp [pl, deadB, List.map_set]
theorem usedL_dead {L : List Fp} {n : Nat} {f : Fp} (h : L[n]? = some f) : usedL (L.set n (deadF f)) = usedL L := by
  unfold usedL
  rw [List.map_set]
  congr 1
  exact set_same (by simp [h, deadF])
theorem ownL_map (L : List Fp) : ownL L = ((L.map fun f => exN f.rs).zipIdx).flatMap fun p => List.replicate p.1 (p.2 : Int) := by
  unfold ownL
  rw [List.zipIdx_map, List.flatMap_map]
  rfl
theorem ownL_dead {L : List Fp} {n : Nat} {f : Fp} (h : L[n]? = some f) : ownL (L.set n (deadF f)) = ownL L := by
  rw [ownL_map, ownL_map, List.map_set]
  congr 2
  exact set_same (by simp [h, deadF])
theorem cut_atn {α : Type} {l : List α} {n : Nat} {a : α} (h : l[n]? = some a) : l = l.take n ++ a :: l.drop (n + 1) := by
  have hlt : n < l.length := (List.getElem?_eq_some_iff.1 h).1
  have he : l[n] = a := by rw [List.getElem?_eq_getElem hlt] at h; exact Option.some.inj h
  rw [← he, ← List.drop_eq_getElem_cons hlt, List.take_append_drop]
def liveZ (Z : List (Fp × Nat)) : List ((Int × Int) × Int) := (Z.filter fun p => p.1.live).map fun p => ((p.1.k1, p.1.k2), (p.2 : Int))
theorem liveZ_app (A B : List (Fp × Nat)) : liveZ (A ++ B) = liveZ A ++ liveZ B := by simp [liveZ]
theorem liveL_dead {L : List Fp} {n : Nat} {f : Fp} (h : L[n]? = some f) (hl : f.live = true) (hnd : ((liveL L).map (·.1)).Nodup) : liveL (L.set n (deadF f)) = (liveL L).eraseP (fun p => p.1 == (f.k1, f.k2)) := by
  have hlt : n < L.length := (List.getElem?_eq_some_iff.1 h).1
  have e1 : L.zipIdx = (L.take n).zipIdx ++ (f, n) :: (L.drop (n + 1)).zipIdx (n + 1) := by
    conv => lhs; rw [cut_atn h]
    rw [List.zipIdx_append, List.zipIdx_cons]
    simp [Nat.min_eq_left (Nat.le_of_lt hlt)]
  have e2 : (L.set n (deadF f)).zipIdx = (L.take n).zipIdx ++ (deadF f, n) :: (L.drop (n + 1)).zipIdx (n + 1) := by
    rw [List.set_eq_take_append_cons_drop, if_pos hlt, List.zipIdx_append, List.zipIdx_cons]
    simp [Nat.min_eq_left (Nat.le_of_lt hlt)]
  have a1 : liveL L = liveZ (L.take n).zipIdx ++ ((f.k1, f.k2), (n : Int)) :: liveZ ((L.drop (n + 1)).zipIdx (n + 1)) := by
    show liveZ L.zipIdx = _
    rw [e1, liveZ_app]
    simp [liveZ, hl]
  have a2 : liveL (L.set n (deadF f)) = liveZ (L.take n).zipIdx ++ liveZ ((L.drop (n + 1)).zipIdx (n + 1)) := by
    show liveZ (L.set n (deadF f)).zipIdx = _
    rw [e2, liveZ_app]
    simp [liveZ, deadF]
  rw [a1] at hnd
  rw [a1, a2, List.eraseP_append_right _ _, List.eraseP_cons_of_pos (by simp)]
  intro b hb hk
  simp only [beq_iff_eq] at hk
  rw [List.map_append, List.nodup_append] at hnd
  exact hnd.2.2 b.1 (List.mem_map_of_mem hb) (f.k1, f.k2) (by simp) hk
end Go.Proofs.YtomphgpplbekiaaGreat
namespace Go.Proofs.YtomphgpplbekiaaGreat
open Go.RowKit
section
variable {w w' : World} {N cb : Nat} {R : RamAt} {M : List Int} {V : CV} {l : List Fb} {hi mi : Int}
theorem fbOk_dead {w : World} {x : Fb} (h : FbOk w x) : FbOk w (deadB x) := ⟨h.b, h.r, h.f, h.lt⟩
theorem cacheA_dead {n : Nat} {x : Fb} (hx : l[n]? = some x) : cacheA R V (l.set n (deadB x)) hi mi = cacheA R V l hi mi := by
  unfold cacheA
  rw [pl_dead, usedL_dead (by simp [pl, hx])]
theorem IsCache.gone (h : IsCache w N cb R M V l hi mi) {n : Nat} {x : Fb} (hx : l[n]? = some x) (hl : x.1.live = true) (hnd : ((liveL (pl l)).map (·.1)).Nodup) {g : Nat} (hg : some g = V.bl.ownBlock) (t ty : TypeId) (ht : Tryz.prog.underlying t = some (.map 31 3)) {u : World} (hu : Same (w.setCell ⟨g, n * 8 + 7, none⟩ (.bool true)) u) :
    ∃ w2, (Builtin.delete_ #[t, 31] ty #[.map (some V.mb), kyV x.1.k1 x.1.k2]).run Tryz.prog u = .ok (.tuple #[]) w2 ∧ IsCache w2 N cb R M V (l.set n (deadB x)) hi mi ∧ Keeps (fun k => k = V.mb) u w2 := by
  obtain ⟨t1, t2, t3, t4, t5, t6, t7⟩ := h.c_.tA
  have tg_ := t6 g hg
  have k1 : Keeps (fun k => k = g) w u := ((Keeps.refl (fun k => k = g) w).setCell (p := ⟨g, n * 8 + 7, none⟩) (fun _ => rfl) _).trans (hu.mono fun _ _ h => h.elim)
  have hplx : (pl l)[n]? = some x.1 := by simp [pl, hx]
  have nm : V.mb ≠ g := ne_tg t5 tg_ (by simp)
  have hm1 := h.mp.keeps k1 nm
  obtain ⟨w2, hr, hm2, hk2⟩ := hm1.del t ty ht x.1.k1 x.1.k2
  have kk : Keeps (fun k => k = g ∨ k = V.mb) w w2 := (k1.mono fun _ _ h => .inl h).trans (hk2.mono fun _ _ h => .inr h)
  have hW : ∀ k, (k = g ∨ k = V.mb) → Wr cb R V k := fun k e => by
    rcases e with rfl | rfl
    · exact .inr (.inl hg)
    · exact .inr (.inr (.inr (.inl rfl)))
  refine ⟨w2, hr, ⟨?_, ?_, ?_, ?_, ?_, ?_, ?_, h.far⟩, hk2⟩
  · rw [cacheA_dead hx]
    exact kk.get h.hb (fun e => e.elim (fun e => ne_tg t1 tg_ (by decide) e) (fun e => ne_tg t1 t5 (by simp) e))
  · exact h.ram.keeps kk (fun e => e.elim (fun e => ne_tg t2 tg_ (by decide) e) (fun e => ne_tg t2 t5 (by simp) e)) (fun e => e.elim (fun e => ne_tg t3 tg_ (by decide) e) (fun e => ne_tg t3 t5 (by simp) e)) (fun e => e.elim (fun e => ne_tg t4 tg_ (by decide) e) (fun e => ne_tg t4 t5 (by simp) e))
  · have h9 := h.bl.turn (j := n) (i := 7) (c := fbP x) (by simp [hx]) (by decide) (.bool true) hg
    rw [List.map_set]
    exact (h9.keeps hu (fun _ _ => id)).keeps hk2 fun k hk e => by subst e; exact nm (by rw [← hg] at hk; exact Option.some.inj hk)
  · rw [pl_dead, ownL_dead hplx]
    exact owns_apart h.ow kk fun k hk e => by
      rcases e with e | e
      · exact ne_tg (t7 k hk) tg_ (by decide) e
      · exact ne_tg (t7 k hk) t5 (by simp) e
  · rw [pl_dead, liveL_dead hplx hl hnd]
    exact hm2
  · intro y hy
    rcases List.mem_or_eq_of_mem_set hy with hy | rfl
    · exact (h.fb y hy).keeps kk fun k hk e => h.ro y hy k hk (hW k e)
    · exact fbOk_dead ((h.fb x (List.mem_of_getElem? hx)).keeps kk fun k hk e => h.ro x (List.mem_of_getElem? hx) k hk (hW k e))
  · intro y hy
    rcases List.mem_or_eq_of_mem_set hy with hy | rfl
    · exact h.ro y hy
    · exact h.ro x (List.mem_of_getElem? hx)
end
end Go.Proofs.YtomphgpplbekiaaGreat
namespace Go.Proofs.YtomphgpplbekiaaGreat
open Go.RowKit
section
variable {P : Program} {ops : Array Oper} {Q : Exit → Act → World → Prop} {md : Region.Mode} {S : World → Prop}
theorem seqV_putM {mk : Nat → Value} {oz : Oper} {b : Nat} {K K' : Act → Prop} (hK : ∀ a, K a → K' (a.put oz.dst (mk b))) : ∀ (l : List Oper) (a : Act), (∀ o ∈ l, oz.apart ops o = true ∧ ∀ cs b, o.op ≠ .select cs b) → seqV P ops S K l a → seqV P ops S K' l (a.put oz.dst (mk b))
  | [], a, _, h => hK a h
  | o :: l, a, hp, ⟨v, h1, h2⟩ => by
    obtain ⟨p1, p2, p3⟩ := Oper.apart_spec (hp o (by simp)).1
    refine ⟨v, fun u hu => (h1 u hu).of_same (execOp_put o (fun cs b => (hp o (by simp)).2 cs b) a oz.dst (mk b) p1) (wanted_put o a oz.dst (mk b) p1), ?_⟩
    rw [Act.put_comm a (mk b) v p2]
    exact seqV_putM hK l _ (fun o ho => hp o (by simp [ho])) h2
theorem chainP_putM {mk : Nat → Value} {oz : Oper} {b : Nat} {Z : Array Value} {t : TypeId} {K K' : Act → (World → Prop) → Prop}
    (hK : ∀ a Ψ, K a Ψ → K' (a.put oz.dst (mk b)) (fun u => Ψ u ∧ u.heap[b]? = some (.cells Z t (0, 0)))) (hm : ∀ a (Ψ Ψ' : World → Prop), (∀ u, Ψ' u → Ψ u) → K' a Ψ → K' a Ψ') :
    ∀ (l : List Oper) (a : Act) (Ψ : World → Prop), (∀ o ∈ l, oz.apart ops o = true ∧ ∀ cs b, o.op ≠ .select cs b) → chainP P ops S K l a Ψ → chainP P ops S K' l (a.put oz.dst (mk b)) (fun u => Ψ u ∧ u.heap[b]? = some (.cells Z t (0, 0)))
  | [], a, Ψ, _, h => hK a Ψ h
  | o :: l, a, Ψ, hp, h => by
    obtain ⟨Φ, h1, h2, h3⟩ := h
    obtain ⟨p1, p2, p3⟩ := Oper.apart_spec (hp o (by simp)).1
    refine ⟨fun x u => Φ x u ∧ u.heap[b]? = some (.cells Z t (0, 0)), fun x u u' hx hk => ⟨h1 x u u' hx.1 hk, hk.get hx.2 id⟩, fun u hu hpu => ?_, fun x hx => ?_⟩
    · have h4 := (h2 u hu hpu.1).of_same (execOp_put o (fun cs b => (hp o (by simp)).2 cs b) a oz.dst (mk b) p1) (wanted_put o a oz.dst (mk b) p1)
      exact h4.mono fun x u' hx => ⟨hx.1, hx.2, hx.1.get hpu.2 id⟩
    · rw [Act.put_comm a (mk b) x p2]
      obtain ⟨u, hu, hx⟩ := hx
      exact chainP_putM hK hm l _ _ (fun o ho => hp o (by simp [ho])) (h3 x ⟨u, hu, hx.1⟩)
theorem RA_insM {mk : Nat → Value} (hmk : ∀ b b', mk b = mk b' → b = b') {l : List Oper} {ea vs : List Nat} (hsel : Region.noSelect l.toArray = true) (hS : ∀ u u', S u → Same u u' → S u') (N : Nat) (hN : ∀ u, S u → N ≤ u.heap.size) {oz : Oper} {z : Nat} (hoz : l[z]? = some oz) {Z : Array Value} {ty : TypeId} (hgz : oz.guard = none)
    (hz : ∀ (a : Act) u, S u → (execOp a.eval oz).run P u = .ok (.value (mk u.heap.size)) (u.alloc (.cells Z ty))) (hlv : lateE md l.toArray vs ea = true) (hv : ∀ t ∈ vs, t < l.length) (hva : ∀ o ∈ opsOf l vs, oz.apart l.toArray o = true) (R : List Nat) (c : Nat) (hR : ∀ t ∈ R, t < l.length) (hL : ∀ t ∈ R.drop c, (!ea.contains t) = true) :
    ∀ (ch : List Nat) (listed : Array Bool) (a : Act) (Ψ : World → Prop), (∀ u u', Ψ u → Same u u' → Ψ u') → insE md l.toArray z vs R ch listed = true → (∀ t ∈ ch, t < l.length) → (∀ o ∈ opsOf l ch, oz.apart l.toArray o = true) →
      chainP P l.toArray S (fun a Ψ => seqV P l.toArray S (fun a' => ∀ b, N ≤ b → tailR P l.toArray Q S c (opsOf l R) (a'.put oz.dst (mk b)) (fun u => Ψ u ∧ u.heap[b]? = some (.cells Z ty (0, 0)))) (opsOf l vs) a) (opsOf l ch) a Ψ → RA P md l.toArray Q S (fun t => !ea.contains t) (ch.length + (vs.length + (R.length + 1))) listed a Ψ := by
  have hzl : z < l.length := (List.getElem?_eq_some_iff.1 hoz).1
  have hz0 : l.toArray[z]? = some oz := by simpa using hoz
  have zstep : ∀ (a : Act) (Ψ : World → Prop), (∀ u u', Ψ u → Same u u' → Ψ u') → ∀ u, S u → Ψ u → OpR P l.toArray oz a u (fun x u' => S u' ∧ ∃ b, x = mk b ∧ N ≤ b ∧ Ψ u' ∧ u'.heap[b]? = some (.cells Z ty (0, 0))) := fun a Ψ hΨ u hu hp => by
    refine .inl ⟨by simp [Region.wanted, hgz], ?_⟩
    rw [hz a u hu]
    have hk : Same u (u.alloc (.cells Z ty)) := (Keeps.refl _ _).alloc _
    exact ⟨hS _ _ hu hk, _, rfl, hN u hu, hΨ _ _ hp hk, block_new _ _⟩
  have zst : ∀ (Ψ : World → Prop), (∀ u u', Ψ u → Same u u' → Ψ u') → ∀ (x : Value) u u', (∃ b, x = mk b ∧ N ≤ b ∧ Ψ u ∧ u.heap[b]? = some (.cells Z ty (0, 0))) → Same u u' → (∃ b, x = mk b ∧ N ≤ b ∧ Ψ u' ∧ u'.heap[b]? = some (.cells Z ty (0, 0))) := fun Ψ hΨ x u u' hx hk => by
    obtain ⟨b, e, hb, hp, hh⟩ := hx
    exact ⟨b, e, hb, hΨ _ _ hp hk, hk.get hh id⟩
  have zout : ∀ (Ψ : World → Prop) (b : Nat) u, (∃ b', mk b = mk b' ∧ N ≤ b' ∧ Ψ u ∧ u.heap[b']? = some (.cells Z ty (0, 0))) → Ψ u ∧ u.heap[b]? = some (.cells Z ty (0, 0)) := fun Ψ b u hu => by
    obtain ⟨b', e, _, hp, hh⟩ := hu
    have : b = b' := hmk _ _ e
    subst this
    exact ⟨hp, hh⟩
  have hnos : ∀ is : List Nat, ∀ o ∈ opsOf l is, ∀ cs bb, o.op ≠ .select cs bb := fun is o ho cs bb => by
    obtain ⟨s, hs, hos⟩ := opsOf_mem ho
    exact Region.noSelect_spec hsel s o cs bb (by simpa using hos)
  intro ch
  induction ch with
  | nil =>
    intro listed a Ψ hΨ hB _ _ h
    simp only [insE] at hB
    have h' : seqV P l.toArray S (fun a' => tailR P l.toArray Q S (c + 1) (opsOf l (z :: R)) a' Ψ) (opsOf l vs) a := seqV_mono (fun a' hk => by
      rw [opsOf_cons l z R oz hoz]
      refine ⟨_, zst Ψ hΨ, zstep a' Ψ hΨ, fun x hx => ?_⟩
      obtain ⟨u, _, b, rfl, hb, _⟩ := hx
      exact tailR_mono (zout Ψ b) (hk b hb)) _ _ h
    have hd : ∀ t ∈ (z :: R).drop (c + 1), (!ea.contains t) = true := fun t ht => hL t (by simpa using ht)
    have := RA_lexG (P := P) (Q := Q) (S := S) hsel hlv (tailE md l.toArray (z :: R)) (z :: R).length _ Ψ (fun listed a' hi hk => RA_tail (L := fun t => !ea.contains t) (z :: R) (c + 1) listed a' _ hi hd (fun t ht => by
      rcases List.mem_cons.1 ht with rfl | ht
      · exact hzl
      · exact hR t ht) hk) vs listed a (fun i hi => ⟨hi, hv i hi⟩) hB h'
    simpa using this
  | cons t ch ih =>
    intro listed a Ψ hΨ hB hlt hap h
    have ht : t < l.length := hlt t (by simp)
    have h0 : l.toArray[t]? = some l[t] := by simp [ht]
    have hch := h
    rw [opsOf_cons l t ch l[t] (List.getElem?_eq_getElem ht)] at h
    simp only [insE, Bool.and_eq_true] at hB
    obtain ⟨⟨⟨h1, h2⟩, h3⟩, h4⟩ := hB
    rw [show (t :: ch).length + (vs.length + (R.length + 1)) = (ch.length + (vs.length + (R.length + 1))) + 1 by simp only [List.length_cons]; omega]
    obtain ⟨Φ, k1, k2, k3⟩ := h
    refine ⟨fun hr => (by rw [hr] at h2; cases h2), fun i hi o ho => ?_⟩
    have hiz := List.all_eq_true.1 h1 i hi
    simp only [Bool.or_eq_true, decide_eq_true_eq] at hiz
    by_cases hit : i = t
    · subst hit
      obtain rfl : o = l[i] := Option.some.inj (ho.symm.trans h0)
      refine .inr (.inl ⟨Φ, k1, fun u hu hp => (k2 u hu hp).mono fun x u' hx => ⟨hS _ _ hu hx.1, hx.2⟩, fun x hx => ?_⟩)
      exact ih _ _ _ (k1 x) h4 (fun s hs => hlt s (by simp [hs])) (fun o ho => hap o (by rw [opsOf_cons l i ch l[i] (List.getElem?_eq_getElem ht)]; simp [ho])) (k3 x hx)
    · obtain rfl : i = z := hiz.resolve_left hit
      obtain rfl : o = oz := Option.some.inj (ho.symm.trans hz0)
      refine .inr (.inl ⟨_, zst Ψ hΨ, zstep a Ψ hΨ, fun x hx => ?_⟩)
      obtain ⟨u, _, b, rfl, hb, _⟩ := hx
      rw [show ch.length + (vs.length + (R.length + 1)) = (t :: ch).length + (vs.length + R.length) by simp only [List.length_cons]; omega]
      refine RA_ch hsel hS hlv hv R c hR hL (t :: ch) _ _ _ h3 hlt ?_
      have hx := chainP_putM (mk := mk) (P := P) (S := S) (ops := l.toArray) (oz := o) (b := b) (Z := Z) (t := ty) (K' := fun a Ψ => seqV P l.toArray S (fun a' => tailR P l.toArray Q S c (opsOf l R) a' Ψ) (opsOf l vs) a) (fun a Ψ hk => seqV_putM (fun a' hk => hk b hb) _ _ (fun o' ho' => ⟨hva o' ho', hnos _ o' ho'⟩) hk)
        (fun a Ψ Ψ' hm hk => seqV_mono (fun a' hk => tailR_mono hm hk) _ _ hk) (opsOf l (t :: ch)) a Ψ (fun o' ho' => ⟨hap o' ho', hnos _ o' ho'⟩) hch
      exact chainP_mono (P := P) (ops := l.toArray) (S := S) (K := fun a Ψ => seqV P l.toArray S (fun a' => tailR P l.toArray Q S c (opsOf l R) a' Ψ) (opsOf l vs) a) (zout Ψ b) (fun a Ψ Ψ' hm hk => seqV_mono (fun a' hk => tailR_mono hm hk) _ _ hk) hx
theorem wp_region_rzM (mk : Nat → Value) (hmk : ∀ b b', mk b = mk b' → b = b') {id : Nat} {a : Act} {w : World} {l : List Oper} (is ch : List Nat) (z : Nat) (vs R : List Nat) (c : Nat) (S : World → Prop) (N : Nat) (hm : P.follows .mixedOrders = true) (hB : evzB .any l.toArray is ch z vs R c = true)
    (hS : ∀ u u', S u → Same u u' → S u') (hS0 : S w.drew) (Ψ0 : World → Prop) (hΨ0 : ∀ u u', Ψ0 u → Same u u' → Ψ0 u') (hi0 : Ψ0 w.drew) (hN : ∀ u, S u → N ≤ u.heap.size) (oz : Oper) (hoz : l[z]? = some oz) {Z : Array Value} {ty : TypeId} (hgz : oz.guard = none)
    (hz : ∀ (a : Act) u, S u → (execOp a.eval oz).run P u = .ok (.value (mk u.heap.size)) (u.alloc (.cells Z ty)))
    (h : seqV P l.toArray S (fun a' => chainP P l.toArray S (fun a Ψ => seqV P l.toArray S (fun a' => ∀ b, N ≤ b → tailR P l.toArray Q S c (opsOf l R) (a'.put oz.dst (mk b)) (fun u => Ψ u ∧ u.heap[b]? = some (.cells Z ty (0, 0)))) (opsOf l vs) a) (opsOf l ch) a' Ψ0) (opsOf l is) a) :
    (Code.region id l.toArray true).wp P Q a w := by
  simp only [evzB, Bool.and_eq_true, decide_eq_true_eq] at hB
  obtain ⟨⟨⟨⟨⟨⟨⟨hsel, hl⟩, hlv⟩, hh⟩, ht⟩, htl⟩, hsz⟩, hap⟩ := hB
  have hlt : ∀ t, t ∈ is ∨ t ∈ ch ∨ t ∈ vs ∨ t ∈ R → t < l.length := fun t ht' => by
    have := List.all_eq_true.1 htl t (by simpa [or_assoc] using ht')
    simpa using this
  have e1 : l.toArray[z]? = some oz := by simpa using hoz
  have hapart : ∀ o, (∃ t ∈ ch ++ vs, l[t]? = some o) → oz.apart l.toArray o = true := fun o ho => by
    obtain ⟨t, ht', hot⟩ := ho
    have := List.all_eq_true.1 hap t ht'
    have e2 : l.toArray[t]? = some o := by simpa using hot
    rw [e1, e2] at this
    exact this
  have hx := RA_lexG (P := P) (Q := Q) (S := S) hsel hl (insE .any l.toArray z vs R ch) (ch.length + (vs.length + (R.length + 1))) _ Ψ0
    (fun listed a' hi hk => RA_insM hmk (ea := is ++ vs ++ z :: (ch ++ R.take c)) hsel hS N hN hoz hgz hz hlv (fun t ht' => hlt t (.inr (.inr (.inl ht')))) (fun o ho => hapart o (by obtain ⟨t, h1, h2⟩ := opsOf_mem ho; exact ⟨t, List.mem_append.2 (.inr h1), h2⟩)) R c (fun t ht' => hlt t (.inr (.inr (.inr ht')))) (fun t ht' => List.all_eq_true.1 ht t ht') ch listed a' _ hΨ0 hi (fun t ht' => hlt t (.inr (.inl ht'))) (fun o ho => hapart o (by obtain ⟨t, h1, h2⟩ := opsOf_mem ho; exact ⟨t, List.mem_append.2 (.inl h1), h2⟩)) hk) is (Array.replicate l.toArray.size false) a (fun i hi => ⟨hi, hlt i (.inl hi)⟩) hh h
  rw [hsz] at hx
  exact wp_region_any hm (wpAny_of_RA hS _ _ _ _ hΨ0 hx w.drew hS0 hi0)
/-- A value of which something is known. -/
theorem chainP_new {K : Act → (World → Prop) → Prop} {o : Oper} {l : List Oper} {a : Act} {Ψ : World → Prop} {mk : Nat → Value} {Z : Array Value} {t : TypeId} (N : Nat) (hw : Region.wanted o (yielded ops a.tmps) = true) (hN : ∀ u, S u → N ≤ u.heap.size) (hΨ : ∀ u u', Ψ u → Same u u' → Ψ u')
    (h : ∀ u, S u → Ψ u → (execOp a.eval o).run P u = .ok (.value (mk u.heap.size)) (u.alloc (.cells Z t))) (h2 : ∀ b, N ≤ b → chainP P ops S K l (a.put o.dst (mk b)) (fun u => Ψ u ∧ u.heap[b]? = some (.cells Z t (0, 0)))) (hmk : ∀ b b', mk b = mk b' → b = b') (hm : ∀ a (Ψ Ψ' : World → Prop), (∀ u, Ψ' u → Ψ u) → K a Ψ → K a Ψ') : chainP P ops S K (o :: l) a Ψ := by
  refine chainP_cons (fun x u => ∃ b, x = mk b ∧ N ≤ b ∧ Ψ u ∧ u.heap[b]? = some (.cells Z t (0, 0))) hw ?_ ?_ ?_
  · rintro x u u' ⟨b, e, hb, hp, hh⟩ hk
    exact ⟨b, e, hb, hΨ _ _ hp hk, hk.get hh id⟩
  · intro u hu hp
    rw [h u hu hp]
    have hk : Same u (u.alloc (.cells Z t)) := (Keeps.refl _ _).alloc _
    exact ⟨hk, _, rfl, hN u hu, hΨ _ _ hp hk, block_new _ _⟩
  · rintro x ⟨u, _, b, rfl, hb, _⟩
    refine chainP_mono ?_ hm (h2 b hb)
    rintro v ⟨b', e, _, hp, hh⟩
    have : b = b' := hmk _ _ e
    subst this
    exact ⟨hp, hh⟩
/-- As chainP, but an operation may turn what S lets turn. -/
def chainS (P : Program) (ops : Array Oper) (S : World → Prop) (K : Act → (World → Prop) → Prop) : List Oper → Act → (World → Prop) → Prop
  | [], a, Ψ => K a Ψ
  | o :: l, a, Ψ => ∃ Φ : Value → World → Prop, (∀ x u u', Φ x u → Same u u' → Φ x u') ∧ (∀ u, S u → Ψ u → OpR P ops o a u (fun x u' => S u' ∧ Φ x u')) ∧ ∀ x, (∃ u, S u ∧ Φ x u) → chainS P ops S K l (a.put o.dst x) (Φ x)
theorem RA_chS {l : List Oper} {ea vs : List Nat} (hsel : Region.noSelect l.toArray = true) (hlv : lateE md l.toArray vs ea = true) (hv : ∀ t ∈ vs, t < l.length) (R : List Nat) (c : Nat) (hR : ∀ t ∈ R, t < l.length) (hL : ∀ t ∈ R.drop c, (!ea.contains t) = true) :
    ∀ (ch : List Nat) (listed : Array Bool) (a : Act) (Ψ : World → Prop), chE md l.toArray vs R ch listed = true → (∀ t ∈ ch, t < l.length) →
      chainS P l.toArray S (fun a Ψ => seqV P l.toArray S (fun a' => tailR P l.toArray Q S c (opsOf l R) a' Ψ) (opsOf l vs) a) (opsOf l ch) a Ψ → RA P md l.toArray Q S (fun t => !ea.contains t) (ch.length + (vs.length + R.length)) listed a Ψ
  | [], listed, a, Ψ, hB, _, h => by
    have := RA_lexG (P := P) (Q := Q) (S := S) hsel hlv (tailE md l.toArray R) R.length _ Ψ (fun listed a' hi hk => RA_tail (L := fun t => !ea.contains t) R c listed a' _ hi hL hR hk) vs listed a (fun i hi => ⟨hi, hv i hi⟩) hB h
    simpa using this
  | t :: ch, listed, a, Ψ, hB, hlt, h => by
    have ht : t < l.length := hlt t (by simp)
    have h0 : l.toArray[t]? = some l[t] := by simp [ht]
    rw [opsOf_cons l t ch l[t] (List.getElem?_eq_getElem ht)] at h
    simp only [chE, Bool.and_eq_true, decide_eq_true_eq] at hB
    rw [show (t :: ch).length + (vs.length + R.length) = (ch.length + (vs.length + R.length)) + 1 by simp only [List.length_cons]; omega]
    obtain ⟨Φ, k1, k2, k3⟩ := h
    refine ⟨fun hr => (by rw [hB.1] at hr; cases hr), fun i hi o ho => ?_⟩
    rw [hB.1] at hi
    obtain rfl : i = t := by simpa using hi
    obtain rfl : o = l[i] := Option.some.inj (ho.symm.trans h0)
    exact .inr (.inl ⟨Φ, k1, k2, fun x hx => RA_chS hsel hlv hv R c hR hL ch _ _ _ hB.2 (fun s hs => hlt s (by simp [hs])) (k3 x hx)⟩)
def evsB (md : Region.Mode) (ops : Array Oper) (is ch vs R : List Nat) (c : Nat) : Bool :=
  Region.noSelect ops && lateE md ops is (is ++ vs ++ (ch ++ R.take c)) && lateE md ops vs (is ++ vs ++ (ch ++ R.take c)) && headG md ops (chE md ops vs R ch) is (Array.replicate ops.size false) && (R.drop c).all (fun t => !(is ++ vs ++ (ch ++ R.take c)).contains t) && (is ++ ch ++ vs ++ R).all (fun t => decide (t < ops.size)) && decide (is.length + (ch.length + (vs.length + R.length)) = ops.size)
/-- The readers 'is'; the chain 'ch', each waiting alone, which may turn what S lets turn (Ψ holds till its first has come); the calculations 'vs' in any order; 'R' the others. -/
theorem wp_region_rs {id : Nat} {a : Act} {w : World} {l : List Oper} (is ch vs R : List Nat) (c : Nat) (S Ψ : World → Prop) (hm : P.follows .mixedOrders = true) (hB : evsB .any l.toArray is ch vs R c = true)
    (hS : ∀ u u', S u → Same u u' → S u') (hS0 : S w.drew) (hΨ : ∀ u u', Ψ u → Same u u' → Ψ u') (hΨ0 : Ψ w.drew)
    (h : seqV P l.toArray S (fun a' => chainS P l.toArray S (fun a Ψ => seqV P l.toArray S (fun a' => tailR P l.toArray Q S c (opsOf l R) a' Ψ) (opsOf l vs) a) (opsOf l ch) a' Ψ) (opsOf l is) a) :
    (Code.region id l.toArray true).wp P Q a w := by
  simp only [evsB, Bool.and_eq_true, decide_eq_true_eq] at hB
  obtain ⟨⟨⟨⟨⟨⟨hsel, hl⟩, hlv⟩, hh⟩, ht⟩, htl⟩, hsz⟩ := hB
  have hlt : ∀ t, t ∈ is ∨ t ∈ ch ∨ t ∈ vs ∨ t ∈ R → t < l.length := fun t ht' => by
    have := List.all_eq_true.1 htl t (by simpa [or_assoc] using ht')
    simpa using this
  have hx := RA_lexG (P := P) (Q := Q) (S := S) hsel hl (chE .any l.toArray vs R ch) (ch.length + (vs.length + R.length)) _ Ψ
    (fun listed a' hi hk => RA_chS (ea := is ++ vs ++ (ch ++ R.take c)) hsel hlv (fun t ht' => hlt t (.inr (.inr (.inl ht')))) R c (fun t ht' => hlt t (.inr (.inr (.inr ht')))) (fun t ht' => List.all_eq_true.1 ht t ht') ch listed a' _ hi (fun t ht' => hlt t (.inr (.inl ht'))) hk) is (Array.replicate l.toArray.size false) a (fun i hi => ⟨hi, hlt i (.inl hi)⟩) hh h
  rw [hsz] at hx
  exact wp_region_any hm (wpAny_of_RA hS _ _ _ _ hΨ hx w.drew hS0 hΨ0)
theorem chainS_call {K : Act → (World → Prop) → Prop} {o : Oper} {l : List Oper} {a : Act} {Ψ : World → Prop} {f : FuncId} {args : Array Value} (Φ : Value → World → Prop) (hw : Region.wanted o (yielded ops a.tmps) = true) (hc : ∀ x u u', Φ x u → Same u u' → Φ x u')
    (he : ∀ u, S u → Ψ u → (execOp a.eval o).run P u = .ok (.enter f args) u) (h : ∀ u, S u → Ψ u → Calls P f args u (fun e u' => ∃ v, e = .returned v ∧ S u' ∧ Φ v u')) (h2 : ∀ x, (∃ u, S u ∧ Φ x u) → chainS P ops S K l (a.put o.dst x) (Φ x)) : chainS P ops S K (o :: l) a Ψ :=
  ⟨Φ, hc, fun u hu hp => .inl ⟨hw, by rw [he u hu hp]; exact h u hu hp⟩, h2⟩
theorem chainS_nil {K : Act → (World → Prop) → Prop} {a : Act} {Ψ : World → Prop} (h : K a Ψ) : chainS P ops S K [] a Ψ := h
end
end Go.Proofs.YtomphgpplbekiaaGreat
namespace Go.Proofs.YtomphgpplbekiaaGreat
open Go.RowKit
section
variable {P : Program} {ops : Array Oper} {Q : Exit → Act → World → Prop} {md : Region.Mode} {S : World → Prop} {li n : Nat}
theorem uponIn_of {o : Oper} {a : Act} {K : Act → World → Prop} {r : Result Next} (h : o.upon P a K Q r) : o.uponIn (Fence.wide.inRound li) n P a K Q r := by
  cases r with
  | halt x w' => cases x <;> exact h
  | ok x w' =>
    cases x
    case value v => exact h
    case skip => exact h
    case defer d => exact h
    case enter f args =>
      refine ⟨fun h => (by cases h), CallsIn.mono (CallsIn.inRound li (callsIn_wide.2 h)) fun e w'' he => ?_⟩
      cases e <;> exact he
    case row row args =>
      refine ⟨fun h => (by cases h), fun c cs _ => ?_⟩
      obtain ⟨v, w2, hv, hs⟩ := h c cs
      exact ⟨v, w2, hv, stepsIn_wide.2 hs⟩
    all_goals exact h.elim
theorem wpOpIn_of {i : Nat} {K K' : Act → World → Prop} {a : Act} {w : World} (hd : ∀ (j : Nat) (o : Oper), ops[j]? = some o → ∀ c, o.op ≠ .defer c) (hQ : ∀ a w, ¬ Q .outgrown a w) (hK : ∀ a w, K a w → K' a w) (h : wpOp P ops Q i K a w) : wpOpIn (Fence.wide.inRound li) n P ops Q i K' a w := by
  unfold Go.wpOp at h
  unfold Go.wpOpIn
  cases ho : ops[i]? with
  | none => rw [ho] at h; exact hK _ _ h
  | some o =>
    rw [ho] at h
    simp only at h ⊢
    split at h
    · next hw =>
      rw [if_pos hw]
      refine Oper.wpIn_mono hK ⟨fun _ _ => trivial, ?_⟩
      rw [Oper.semAt_plain _ _ _ (hd i o ho)]
      rcases h with h | ⟨_, a9, w9, h⟩
      · exact uponIn_of h
      · exact absurd h (hQ a9 w9)
    · next hw =>
      rw [if_neg hw]
      exact ⟨fun _ _ => trivial, hK _ _ h⟩
theorem wpAnyIn_of (hd : ∀ (j : Nat) (o : Oper), ops[j]? = some o → ∀ c, o.op ≠ .defer c) (hQ : ∀ a w, ¬ Q .outgrown a w) : ∀ (fuel : Nat) (listed : Array Bool) (a : Act) (w : World), wpAny P md ops Q fuel listed a w → wpAnyIn (Fence.wide.inRound li) n P md ops Q fuel listed a w
  | 0, _, _, _, h => h
  | fuel + 1, _, _, _, h => ⟨h.1, fun i hi => wpOpIn_of hd hQ (fun a w hk => wpAnyIn_of hd hQ fuel _ a w hk) (h.2 i hi)⟩
def noDefer (ops : Array Oper) : Bool := ops.all fun o => match o.op with | .defer _ => false | _ => true
theorem noDefer_spec (h : noDefer ops = true) : ∀ (j : Nat) (o : Oper), ops[j]? = some o → ∀ c, o.op ≠ .defer c := fun j o ho c e => by
  have hm := Array.mem_of_getElem? ho
  unfold noDefer at h
  rw [Array.all_eq_true_iff_forall_mem] at h
  have := h o hm
  rw [e] at this
  cases this
/-- As 'wp_region_ra', in a round. -/
theorem wpIn_region_ra {id : Nat} {a : Act} {w : World} {l : List Oper} (is tl : List Nat) (c : Nat) (S : World → Prop) (hm : P.follows .mixedOrders = true) (hd : noDefer l.toArray = true) (hQ : ∀ a w, ¬ Q .outgrown a w) (hB : evpB .any l.toArray is tl c = true)
    (hS : ∀ u u', S u → Same u u' → S u') (hS0 : S w.drew)
    (h : seqV P l.toArray S (fun a' => tailR P l.toArray Q S c (opsOf l tl) a' (fun _ => True)) (opsOf l is) a) : (Code.region id l.toArray true).wpIn (Fence.wide.inRound li) n P Q a w := by
  simp only [evpB, Bool.and_eq_true, decide_eq_true_eq] at hB
  obtain ⟨⟨⟨⟨⟨⟨hsel, hl⟩, hh⟩, ht⟩, htl⟩, his⟩, hsz⟩ := hB
  have hx := RA_lex (P := P) (Q := Q) (S := S) c hsel hl (fun t ht' => by have := List.all_eq_true.1 ht t ht'; simpa using this) (fun t ht' => by have := List.all_eq_true.1 htl t ht'; simpa using this) is (Array.replicate l.toArray.size false) a
    (fun i hi => ⟨hi, by have := List.all_eq_true.1 his i hi; simpa using this⟩) hh h
  rw [hsz] at hx
  exact wpIn_region_any hm (wpAnyIn_of (noDefer_spec hd) hQ _ _ _ _ (wpAny_of_RA hS _ _ _ _ (fun _ _ _ _ => trivial) hx w.drew hS0 trivial))
/-- As 'wp_region_rs', in a round. -/
theorem wpIn_region_rs {id : Nat} {a : Act} {w : World} {l : List Oper} (is ch vs R : List Nat) (c : Nat) (S Ψ : World → Prop) (hm : P.follows .mixedOrders = true) (hd : noDefer l.toArray = true) (hQ : ∀ a w, ¬ Q .outgrown a w) (hB : evsB .any l.toArray is ch vs R c = true)
    (hS : ∀ u u', S u → Same u u' → S u') (hS0 : S w.drew) (hΨ : ∀ u u', Ψ u → Same u u' → Ψ u') (hΨ0 : Ψ w.drew)
    (h : seqV P l.toArray S (fun a' => chainS P l.toArray S (fun a Ψ => seqV P l.toArray S (fun a' => tailR P l.toArray Q S c (opsOf l R) a' Ψ) (opsOf l vs) a) (opsOf l ch) a' Ψ) (opsOf l is) a) :
    (Code.region id l.toArray true).wpIn (Fence.wide.inRound li) n P Q a w := by
  simp only [evsB, Bool.and_eq_true, decide_eq_true_eq] at hB
  obtain ⟨⟨⟨⟨⟨⟨hsel, hl⟩, hlv⟩, hh⟩, ht⟩, htl⟩, hsz⟩ := hB
  have hlt : ∀ t, t ∈ is ∨ t ∈ ch ∨ t ∈ vs ∨ t ∈ R → t < l.length := fun t ht' => by
    have := List.all_eq_true.1 htl t (by simpa [or_assoc] using ht')
    simpa using this
  have hx := RA_lexG (P := P) (Q := Q) (S := S) hsel hl (chE .any l.toArray vs R ch) (ch.length + (vs.length + R.length)) _ Ψ
    (fun listed a' hi hk => RA_chS (ea := is ++ vs ++ (ch ++ R.take c)) hsel hlv (fun t ht' => hlt t (.inr (.inr (.inl ht')))) R c (fun t ht' => hlt t (.inr (.inr (.inr ht')))) (fun t ht' => List.all_eq_true.1 ht t ht') ch listed a' _ hi (fun t ht' => hlt t (.inr (.inl ht'))) hk) is (Array.replicate l.toArray.size false) a (fun i hi => ⟨hi, hlt i (.inl hi)⟩) hh h
  rw [hsz] at hx
  exact wpIn_region_any hm (wpAnyIn_of (noDefer_spec hd) hQ _ _ _ _ (wpAny_of_RA hS _ _ _ _ hΨ hx w.drew hS0 hΨ0))
theorem chainS_step {K : Act → (World → Prop) → Prop} {o : Oper} {l : List Oper} {a : Act} {Ψ : World → Prop} (Φ : World → Prop) (hw : Region.wanted o (yielded ops a.tmps) = true) (hc : ∀ u u', Φ u → Same u u' → Φ u')
    (h : ∀ u, S u → Ψ u → ∃ v u', (execOp a.eval o).run P u = .ok (.value v) u' ∧ S u' ∧ Φ u') (h2 : ∀ x, chainS P ops S K l (a.put o.dst x) Φ) : chainS P ops S K (o :: l) a Ψ :=
  ⟨fun _ u => Φ u, fun _ u u' h k => hc u u' h k, fun u hu hp => by
    obtain ⟨v, u', e, h3, h4⟩ := h u hu hp
    exact .inl ⟨hw, by rw [e]; exact ⟨h3, h4⟩⟩, fun x _ => h2 x⟩
end
end Go.Proofs.YtomphgpplbekiaaGreat
namespace Go.Proofs.YtomphgpplbekiaaGreat
open Go.RowKit Go.Shelf
attribute [local go_sem ↓] Go.wp_at_zero Go.wp_at_succ
attribute [local go_sem] Oper.semAt_some

theorem Keeps.trans' {F : Nat → Prop} {a b c : World} (h : Same a b) (k : Keeps F b c) : Keeps F a c := (h.mono fun _ _ h => h.elim).trans k
def hasf (l : List Fb) (f : Int) (j : Nat) : Bool := ((l[j]?).map fun x => hasI x.1.frs f).getD false
def dropStep (l : List Fb) (f : Int) (l' : List Fb) (j : Nat) : List Fb := if hasf l f j then (match l[j]? with | some x => l'.set j (deadB x) | none => l') else l'
def dropTo (l : List Fb) (f : Int) (pre : List Nat) : List Fb := pre.foldl (dropStep l f) l
theorem dropTo_snoc (l : List Fb) (f : Int) (pre : List Nat) (x : Nat) : dropTo l f (pre ++ [x]) = dropStep l f (dropTo l f pre) x := by simp [dropTo]
theorem dropStep_len (l : List Fb) (f : Int) (l' : List Fb) (j : Nat) : (dropStep l f l' j).length = l'.length := by
  unfold dropStep
  split
  · split <;> simp
  · rfl
theorem dropTo_len (l : List Fb) (f : Int) (pre : List Nat) : (dropTo l f pre).length = l.length := by
  unfold dropTo
  suffices ∀ l', (pre.foldl (dropStep l f) l').length = l'.length from this l
  induction pre with
  | nil => exact fun _ => rfl
  | cons j pre ih => exact fun l' => (ih _).trans (dropStep_len l f l' j)
theorem dropTo_ne (l : List Fb) (f : Int) (j : Nat) (pre : List Nat) (h : ∀ m ∈ pre, m < j) : (dropTo l f pre)[j]? = l[j]? := by
  unfold dropTo
  suffices ∀ l' : List Fb, (pre.foldl (dropStep l f) l')[j]? = l'[j]? from this l
  induction pre with
  | nil => exact fun _ => rfl
  | cons m pre ih =>
    intro l'
    rw [List.foldl_cons, ih (fun k hk => h k (by simp [hk]))]
    have hm := h m (by simp)
    unfold dropStep
    split
    · split
      · rw [List.getElem?_set_ne (by omega)]
      · rfl
    · rfl
theorem dropTo_mem (l : List Fb) (f : Int) (pre : List Nat) : ∀ x ∈ dropTo l f pre, ∃ y ∈ l, y.2 = x.2 ∧ y.1.frs = x.1.frs := by
  unfold dropTo
  suffices ∀ l' : List Fb, (∀ x ∈ l', ∃ y ∈ l, y.2 = x.2 ∧ y.1.frs = x.1.frs) → ∀ x ∈ pre.foldl (dropStep l f) l', ∃ y ∈ l, y.2 = x.2 ∧ y.1.frs = x.1.frs from this l (fun x hx => ⟨x, hx, rfl, rfl⟩)
  induction pre with
  | nil => exact fun _ h => h
  | cons m pre ih =>
    intro l' h
    refine ih _ fun x hx => ?_
    unfold dropStep at hx
    split at hx
    · split at hx
      · next y hy =>
        rcases List.mem_or_eq_of_mem_set hx with hx | rfl
        · exact h x hx
        · exact ⟨y, List.mem_of_getElem? hy, rfl, rfl⟩
      · exact h x hx
    · exact h x hx
section
variable {w w' W W' : World} {N cb : Nat} {R : RamAt} {M : List Int} {V : CV} {l : List Fb} {hi mi : Int}
theorem IsCache.away {F : Nat → Prop} {f : Int} {pre : List Nat} (h0 : IsCache w N cb R M V l hi mi) (h : IsCache W N cb R M V (dropTo l f pre) hi mi) (k : Keeps F W W') (hF : ∀ k, F k → w.heap.size ≤ k) : IsCache W' N cb R M V (dropTo l f pre) hi mi := by
  have hb := lt_of_block h0.ram.hb
  obtain ⟨cs, hS, -⟩ := h0.ram.hS
  have hS := lt_of_block hS
  refine h.keeps k (fun k hk e => ?_) (fun e => ?_) (fun e => ?_) (fun x hx k hk e => ?_)
  · have := h0.lt k hk; have := hF k e; omega
  · have := hF _ e; omega
  · have := hF _ e; omega
  · obtain ⟨y, hy, e2, e3⟩ := dropTo_mem l f pre x hx
    have := (h0.fb y hy).lt k (by unfold ROk at *; rw [e2, e3]; exact hk)
    have := hF k e
    omega
def dropK (l : List Fb) (f : Int) (pre : List Nat) : List (List Value) := (pre.filter (hasf l f)).map (keyAt l)
/-- Between two rounds of Drop. -/
structure DropI (w : World) (N cb : Nat) (R : RamAt) (M : List Int) (V : CV) (l : List Fb) (hi mi f : Int) (pre : List Nat) (W : World) (v : Value) : Prop where
  b0 : W.heap[w.heap.size]? = some (.cells #[.pointer (some ⟨cb, 0, none⟩)] 23 (0, 0))
  b1 : W.heap[w.heap.size + 1]? = some (.cells #[.int .i64 f] 3 (0, 0))
  b2 : W.heap[w.heap.size + 2]? = some (.cells #[v] 39 (0, 0))
  ks : RowX W w.heap.size 31 2 v (dropK l f pre)
  one : v.oneCell' = true
  is : IsCache W N cb R M V (dropTo l f pre) hi mi
  kp : Keeps (fun k => some k = V.bl.ownBlock ∨ k = V.mb) w W
  sz : w.heap.size + 4 ≤ W.heap.size
  up : UpTo pre
  nd : ((liveL (pl (dropTo l f pre))).map (·.1)).Nodup
theorem DropI.far {f : Int} {pre : List Nat} {v : Value} {F : Nat → Prop} (h0 : IsCache w N cb R M V l hi mi) (h : DropI w N cb R M V l hi mi f pre W v) (k : Keeps F W W') (hF : ∀ k, F k → w.heap.size + 4 ≤ k) (hv : ∀ g, some g = v.ownBlock → ¬ F g) : DropI w N cb R M V l hi mi f pre W' v :=
  ⟨k.get h.b0 (fun e => by have := hF _ e; omega), k.get h.b1 (fun e => by have := hF _ e; omega), k.get h.b2 (fun e => by have := hF _ e; omega), h.ks.keeps k hv, h.one, h0.away h.is k (fun b e => by have := hF b e; omega),
    keepsThen h.kp k (fun b e => .inr (by have := hF b e; omega)), Nat.le_trans h.sz k.size, h.up, h.nd⟩
attribute [local go_sem ↓] x_stKy x_stRw x_stLd x_stOu x_stRb x_stCd x_stBk x_stLk
attribute [local go_sem] st_Ky st_Rw st_Ld st_Ou st_Rb st_Cd st_Bk st_Lk ne_s1 en_s1 ne_s2 en_s2 ne_s3 en_s3 ne_s4 en_s4 ne_s5 en_s5 ne_s6 en_s6 ne_s7 en_s7 ne_s8 en_s8 lt_s2 lt_s3 lt_s4 lt_s5 lt_s6 lt_s7 lt_s8 rowAt_at rowAt_old rowAt_drew rowAt_drewN setRow_drew setRow_at setRow_old setRow_setRow rowAt_setRow_eq rowAt_setRow_ne cell_setRow_eq cell_setRow_ne frozen_setRow_eq frozen_setRow_ne ones_lit oc_int oc_bool oc_str oc_ptr oc_sl oc_map oc_fn oc_nf oc_ni oc_if
def dropAct (w : World) (cb : Nat) (f : Int) (x b : Nat) (y : Fb) : Act := { tmps := #[.pointer (some ⟨cb, 0, none⟩), .int .i64 f, .pointer (some ⟨w.heap.size, 0, none⟩), .pointer (some ⟨w.heap.size + 1, 0, none⟩), .slice none 0 0, .pointer (some ⟨w.heap.size + 2, 0, none⟩), .int .i64 (x : Int), .pointer (some ⟨b, 0, none⟩), .pointer (some ⟨cb, 0, none⟩), .func (.func 79) #[] #[.pointer (some ⟨w.heap.size + 3, 0, none⟩)], .int .i64 (x : Int), .agg #[.int .u32 y.1.k1, .int .u32 y.1.k2, .int .i64 y.1.pos, y.2.bv, y.2.rv, .int .i64 y.1.fin, y.2.fv, .bool false], undef, undef, undef, undef, undef, undef, undef, undef, undef, undef, undef, undef, undef, undef, undef, undef, undef, undef, undef, undef, undef, undef, undef], defers := [] }
set_option maxRecDepth 100000 in
set_option maxHeartbeats 4000000 in
theorem cs_drop (h : IsCache w N cb R M V l hi mi) (hll : l.length ≤ 10000) (f : Int) (hnd : ((liveL (pl l)).map (·.1)).Nodup) :
    Calls Tryz.prog 36 #[.pointer (some ⟨cb, 0, none⟩), .int .i64 f] w fun e w' => ∃ v, e = .returned v ∧ RowX w' w.heap.size 31 2 v (dropK l f (liveIdx l l.length)) ∧ IsCache w' N cb R M V (dropTo l f (liveIdx l l.length)) hi mi ∧ Keeps (fun k => some k = V.bl.ownBlock ∨ k = V.mb) w w' := by
  obtain ⟨p, cap, g, ebl, hp, hK0⟩ := h.rowsAt
  have d1 := h.c 1
  refine (callsIn_wide (n := 6)).1 ?_
  refine callsIn_of_wp_marks Tryz.func36 rfl trivial ?_ rfl
  simp only [Tryz.ntmps36, List.size_toArray, List.length_cons, List.length_nil, Nat.reduceAdd, Nat.reduceSub, Array.replicate_succ, Array.replicate_zero, List.push_toArray, List.append_toArray, List.nil_append, List.cons_append]
  have hfn : Fence.wide.fn 46 := trivial
  gi_wp2_with (gi_at_call 46; refine (callsIn_wide.2 (each_any _ _)).mono ?_; rintro e w' ⟨rfl, rfl⟩)
  obtain ⟨W0, hW0⟩ : ∃ W0, (((w.alloc (.cells #[.pointer (some ⟨cb, 0, none⟩)] 23)).alloc (.cells #[.int .i64 f] 3)).alloc (.cells #[.slice none 0 0] 39)).alloc (.cells #[.pointer (some ⟨cb, 0, none⟩)] 23) = W0 := ⟨_, rfl⟩
  have B0 : W0.heap[w.heap.size]? = some (.cells #[.pointer (some ⟨cb, 0, none⟩)] 23 (0, 0)) := by rw [← hW0]; exact block_old _ (block_old _ (block_old _ (block_new _ _)))
  have B1 : W0.heap[w.heap.size + 1]? = some (.cells #[.int .i64 f] 3 (0, 0)) := by rw [← hW0]; exact block_old _ (block_old _ (block_atR _ (by simp)))
  have B2 : W0.heap[w.heap.size + 2]? = some (.cells #[.slice none 0 0] 39 (0, 0)) := by rw [← hW0]; exact block_old _ (block_atR _ (by simp))
  have B3 : W0.heap[w.heap.size + 3]? = some (.cells #[.pointer (some ⟨cb, 0, none⟩)] 23 (0, 0)) := by rw [← hW0]; exact block_atR _ (by simp)
  have hk : Same w W0 := by rw [← hW0]; exact ((((Keeps.refl _ _).alloc _).alloc _).alloc _).alloc _
  have hsz : W0.heap.size = w.heap.size + 4 := by rw [← hW0]; simp
  try simp only [Nat.add_assoc, Nat.reduceAdd] at hW0 ⊢
  try rw [hW0]
  clear hW0
  refine wpIn_range_rows rfl (by omega) (gf := 79) (lb := #[.pointer (some ⟨w.heap.size + 3, 0, none⟩)]) rfl trivial (enters_of Tryz.func79 (by kernel_rfl) rfl)
    (each1_any 5 (by omega) (w.heap.size + 3) _ (by omega) (cell_of B3 0) (h.same hk) g p cap ebl hp (by omega) (h.same hk).fb) (fun x => rfl)
    (fun pre W => ∃ v, DropI w N cb R M V l hi mi f pre W v)
    (own_of (fun s A B r h1 h2 h3 h4 => h1.elim fun v h1 => ⟨v, h1.far h h4 (fun k e => by omega) (rowX_apart h1.ks h3)⟩) (fun s A B h1 h2 => h1.elim fun v h1 => ⟨v, h1.far h h2 (fun k e => e.elim) (fun _ _ => id)⟩))
    ⟨_, B0, B1, B2, RowX.nil, rfl, h.same hk, hk.mono fun _ _ h => h.elim, by omega, UpTo.nil, hnd⟩
    (fun pre W ⟨v, hD⟩ j x hj hlt i u hu => ?kj)
    (fun x a' W => ∃ b y, l[x]? = some y ∧ w.heap.size + 4 ≤ b ∧ W.heap[b]? = some (.cells #[.int .u32 y.1.k1, .int .u32 y.1.k2, .int .i64 y.1.pos, y.2.bv, y.2.rv, .int .i64 y.1.fin, y.2.fv, .bool false] 112 (0, 0)) ∧ a' = dropAct w cb f x b y)
    (fun x a' => own_ofB (fun _ A B r h1 h2 h3 h4 => by
      obtain ⟨b, y, hy, hb, hB, e⟩ := h1
      exact ⟨b, y, hy, hb, h4.get hB (not_cells hB h3), e⟩) (fun _ A B h1 h2 => by
      obtain ⟨b, y, hy, hb, hB, e⟩ := h1
      exact ⟨b, y, hy, hb, h2.get hB id, e⟩)) ?assign ?body ?done
  case kj =>
    have hj' : (dropTo l f pre)[j]? = some x := (dropTo_ne l f j pre hlt).trans hj
    obtain ⟨g', cap', e', -, -, hc⟩ := hD.is.bk hj'
    have hl0 : 0 < l.length := Nat.lt_of_le_of_lt (Nat.zero_le _) (List.getElem?_eq_some_iff.1 hj).1
    rw [ebl, (hp hl0).1] at e'
    simp only [Value.slice.injEq, Option.some.injEq, Addr.mk.injEq] at e'
    rw [e'.1.1]
    exact hc i u hu
  case assign =>
    rintro li pre x W K ⟨v, hD⟩ ⟨⟨y, hy, hlv⟩, hlt⟩ hK
    obtain ⟨o1, o2, o3⟩ := (h.fb y (List.mem_of_getElem? hy)).ones
    simp only [encI, laidAt, hy, Option.map_some, Option.getD_some, laidV, hlv, Bool.not_true] at hK ⊢
    have k1 := (Keeps.refl (fun _ => False) W).alloc (.cells #[.int .u32 y.1.k1, .int .u32 y.1.k2, .int .i64 y.1.pos, y.2.bv, y.2.rv, .int .i64 y.1.fin, y.2.fv, .bool false] 112)
    have HD1 := hidE (hD.far h k1 (fun k e => e.elim) (fun _ _ => id))
    have hge := hD.sz
    have HK := hidE hK
    clear hK hD d1 hK0
    gi_wp2
    exact HK.out _ _ (keepsFrom_of k1 (fun _ h => h.elim)) ⟨v, HD1.out⟩ ⟨W.heap.size, y, (by first | exact hy | rfl), hge, block_new _ _, rfl⟩
  case body =>
    rintro li pre x a' W ⟨v, hD⟩ ⟨⟨y, hy, hlv⟩, hlt⟩ ⟨b, y', hy', hb, hB, rfl⟩
    obtain rfl : y = y' := Option.some.inj (hy.symm.trans hy')
    clear hy'
    have hxd : (dropTo l f pre)[x]? = some y := (dropTo_ne l f x pre hlt).trans hy
    have hfy : hasf l f x = hasI y.1.frs f := by simp [hasf, hy]
    have c0 := cell_of hD.b0
    have c1 := cell_of hD.b1
    have c2 := cell_of hD.b2
    have f2 := frozen_of hD.b2
    have cB := cell_of hB
    have HC := hidE (contains_any W y.2.fv y.1.frs (hD.is.fb y (List.mem_of_getElem? hxd)).f f)
    have hge := hD.sz
    have hfn7 : (Fence.wide.inRound li).fn 71 := trivial
    cases hh : hasI y.1.frs f with
    | false =>
      rw [hh] at HC hfy
      have e1 : dropTo l f (pre ++ [x]) = dropTo l f pre := by rw [dropTo_snoc]; unfold dropStep; rw [hfy]; rfl
      have e2 : dropK l f (pre ++ [x]) = dropK l f pre := by simp [dropK, List.filter_append, hfy]
      have HD : Hid (DropI w N cb R M V l hi mi f (pre ++ [x]) W v) := hidE ⟨hD.b0, hD.b1, hD.b2, by rw [e2]; exact hD.ks, hD.one, by rw [e1]; exact hD.is, hD.kp, hD.sz, hD.up.snoc hlt, by rw [e1]; exact hD.nd⟩
      unfold dropAct
      clear hD e1 e2 hK0 d1 h hk B0 B1 B2 B3
      gi_wp2_with (refine ⟨trivial, ?_⟩; gi_at_call 71; refine (CallsIn.inRound li (callsIn_wide.2 HC.out)).mono ?_; rintro e w' ⟨rfl, rfl⟩)
      exact ⟨KeepsFrom.refl _ _, v, HD.out⟩
    | true =>
      rw [hh] at HC hfy
      have hxl : x < l.length := (List.getElem?_eq_some_iff.1 hy).1
      have hlen : pre.length ≤ x := hD.up x hlt
      have hql : (dropK l f pre).length ≤ pre.length := by simpa [dropK] using List.length_filter_le _ _
      have hkey : keyAt l x = [.int .u32 y.1.k1, .int .u32 y.1.k2] := by simp [keyAt, hy]
      have k1 := (Keeps.refl (fun _ => False) W).alloc (.cells #[.int .u32 y.1.k1, .int .u32 y.1.k2] 31)
      obtain ⟨g2, cap2, w2, hr2, h3, h4⟩ := (hD.ks.keeps k1 (fun _ _ => id)).push (P := Tryz.prog) 39 _ 8 Tryz.underlying39 key_info (by rfl) (by decide) (by decide) (keyAt l x) (by simp [hkey]) (by rw [hkey]; simp [Value.oneCell']) W.heap.size 1 (block_new _ _) (by simp [hkey]) (by omega) (by simp; omega)
      obtain ⟨pv, cv, ev⟩ := hD.ks.sl
      have hDs := hidE hD
      have HK4 := hidE (k1.trans' h4.keeps)
      have c2' := c2
      generalize hq : (dropK l f pre).length = q at *
      subst ev
      have n2v : some (w.heap.size + 2) ≠ (Value.slice pv q cv).ownBlock := hDs.out.ks.ne hDs.out.b2 (by decide)
      have nbv : some b ≠ (Value.slice pv q cv).ownBlock := hDs.out.ks.ne hB (by decide)
      have b22 := HK4.out.get hDs.out.b2 (fun e => n2v e)
      have c22 := cell_of b22
      have f22 := frozen_of b22
      have HB22 := hidE b22
      have H3 := hidE h3
      have hl0 : 0 < l.length := by omega
      obtain ⟨rfl, -, -⟩ := hp hl0
      have b02 := HK4.out.get hDs.out.b0 (fun e => hDs.out.ks.ne hDs.out.b0 (by decide) e)
      have bB2 := HK4.out.get hB (fun e => nbv e)
      have c02 := cell_of b02
      have cB2 := cell_of bB2
      have is2 := h.away hDs.out.is HK4.out (fun k e => (hDs.out.ks.lt k e).1)
      have e1 := is2.c 1
      have e2 := is2.c 2
      simp only [cacheA, ebl] at e1 e2
      have hown : some g = V.bl.ownBlock := by rw [ebl]; rfl
      obtain ⟨g', cap', e', -, -, hc⟩ := is2.bk hxd
      rw [ebl] at e'
      simp only [Value.slice.injEq, Option.some.injEq, Addr.mk.injEq] at e'
      obtain ⟨⟨rfl, -, -⟩, -, -⟩ := e'
      have a7 := hc 7 _ rfl
      obtain ⟨g', cap', e', -, -, -, -, -, hfz⟩ := is2.bl.at_ (j := x) (c := fbP y) (by simp [hxd])
      rw [ebl] at e'
      simp only [Value.slice.injEq, Option.some.injEq, Addr.mk.injEq] at e'
      obtain ⟨⟨rfl, -, -⟩, -, -⟩ := e'
      have f7 := hfz (x * 8 + 7)
      have gl := h.lt g (.inr (.inl hown))
      have cl := h.lt cb (.inl rfl)
      have gc : g ≠ cb := ne_tg (h.c_.tA.2.2.2.2.2.1 g hown) h.c_.tA.1 (by decide)
      have m1 : g ≠ w.heap.size := by omega
      have m2 : w.heap.size ≠ g := by omega
      have m3 : g ≠ w.heap.size + 2 := by omega
      have m4 : w.heap.size + 2 ≠ g := by omega
      have m5 : g ≠ b := by omega
      have m6 : b ≠ g := by omega
      have m7 : cb ≠ w.heap.size + 2 := by omega
      have m8 : w.heap.size + 2 ≠ cb := by omega
      have m9 : b ≠ w.heap.size + 2 := by omega
      have m10 : w.heap.size + 2 ≠ b := by omega
      have m11 : w.heap.size + 2 ≠ w.heap.size := by omega
      have m12 : w.heap.size ≠ w.heap.size + 2 := by omega
      have gc' := gc.symm
      have q1 : (0 : Int) ≤ (x : Int) := by omega
      have q2 : (x : Int) < (l.length : Int) := by omega
      have IS2 := hidE is2
      have BB2 := hidE bB2
      have B02 := hidE b02
      unfold dropAct
      have HH := hidE h
      have HH0 := hidE hK0
      clear hD h3 h4 k1 b22 hK0 d1 hk B0 B1 B2 B3 h is2 hc hfz b02 bB2
      gi_wp2_with (first | (refine ⟨trivial, ?_⟩; gi_at_call 71; refine (CallsIn.inRound li (callsIn_wide.2 HC.out)).mono ?_; rintro e w' ⟨rfl, rfl⟩) | (gi_at_builtin; refine wpListIn_app rfl (.tmp 16) (.tmp 19) 39 rfl rfl rfl hr2 ?_; clear hr2))
      have k3 := (Keeps.refl (fun k => k = w.heap.size + 2) w2).setCell (p := ⟨w.heap.size + 2, 0, none⟩) (fun _ => rfl) (.slice (some ⟨g2, 0, none⟩) (q + 1) cap2)
      obtain ⟨W3, hW3⟩ : ∃ W3, w2.setCell ⟨w.heap.size + 2, 0, none⟩ (.slice (some ⟨g2, 0, none⟩) (q + 1) cap2) = W3 := ⟨_, rfl⟩
      rw [hW3] at k3
      have is3 := HH.out.away IS2.out k3 (fun k e => by omega)
      have b03 := k3.get B02.out (by omega)
      have bB3 := k3.get BB2.out (by omega)
      have b23 : W3.heap[w.heap.size + 2]? = some (.cells #[.slice (some ⟨g2, 0, none⟩) (q + 1) cap2] 39 (0, 0)) := by rw [← hW3]; exact block_set HB22.out 0 _
      have ks3 := H3.out.keeps k3 (fun k hk e => H3.out.ne HB22.out (by decide) (by rw [← hk, e]))
      try rw [hW3]
      clear hW3 e1 e2 a7 f7 c02 cB2 c22 f22
      obtain ⟨W4, hW4⟩ : ∃ W4, W3.setCell ⟨g, x * 8 + 7, none⟩ (.bool true) = W4 := ⟨_, rfl⟩
      have k4 : Keeps (fun k => k = g) W3 W4 := by rw [← hW4]; exact (Keeps.refl (fun k => k = g) W3).setCell (p := ⟨g, x * 8 + 7, none⟩) (fun _ => rfl) _
      have HG := hidE (fun (u : World) (hu : Same W4 u) => is3.gone hxd hlv hDs.out.nd hown 93 0 Tryz.underlying93 (u := u) (by rw [hW4]; exact hu))
      rw [hW4]
      clear hW4
      have nm0 : w.heap.size ≠ V.mb := by have := HH.out.lt V.mb (.inr (.inr (.inr (.inl rfl)))); omega
      have nmb : b ≠ V.mb := by have := HH.out.lt V.mb (.inr (.inr (.inr (.inl rfl)))); omega
      have nmc : cb ≠ V.mb := ne_tg HH.out.c_.tA.1 HH.out.c_.tA.2.2.2.2.1 (by simp)
      have HB0 := hidE (k4.get b03 m2)
      have HBB := hidE (k4.get bB3 m6)
      have HCB := hidE (k4.get is3.hb gc')
      have HK34 := hidE ((k3.mono (G := fun k => k = w.heap.size + 2 ∨ k = g) (fun _ _ h => .inl h)).trans (k4.mono fun _ _ h => .inr h))
      have tgm : tg W4 V.mb = some none := tg_keeps k4 is3.c_.tA.2.2.2.2.1 (ne_tg is3.c_.tA.2.2.2.2.1 (is3.c_.tA.2.2.2.2.2.1 g hown) (by simp))
      have KS4 := hidE (ks3.keeps k4 (fun k hk e => ne_tg (tg_own ks3.own k hk) (is3.c_.tA.2.2.2.2.2.1 g hown) (by decide) e))
      have HB2 := hidE (k4.get b23 m4)
      clear is3 ks3 b03 bB3 b23 k3 k4
      refine wpIn_region_rs [0, 1, 2, 3, 4, 5] [6] [] [] 0 (Keeps (fun k => k = V.mb) W4) (Same W4) (by kernel_rfl) (by kernel_rfl) ?hQ (by kernel_rfl) (fun u u' h k => h.trans (k.mono fun _ _ h => h.elim)) (Keeps.refl _ _).drew (fun u u' h k => h.trans k) (Keeps.refl _ _).drew ?_
      case hQ =>
        intro a8 w8 h8
        have h9 : Exit.outgrown = Exit.normal := And.left h8
        cases h9
      simp only [opsOf, List.filterMap_cons, List.filterMap_nil, List.getElem?_cons_zero, List.getElem?_cons_succ]
      repeat (first | (refine seqV_run (v := ?_) rfl (fun u hu => ?_) ?_; rotate_left; (focus (have d1 := cell_of (hu.get HB0.out nm0); have d2 := cell_of (hu.get HBB.out nmb); have d3 := cell_of (hu.get HCB.out nmc); simp only [cacheA] at d3; clear hu; go_simp; first | done | with_reducible rfl)); (try simp only [Act.put, List.setIfInBounds_toArray, List.set_cons_zero, List.set_cons_succ])) | (refine seqV_no rfl ?_; (try simp only [Act.put, List.setIfInBounds_toArray, List.set_cons_zero, List.set_cons_succ])))
      refine seqV_nil ?_
      refine chainS_step (fun u => IsCache u N cb R M V ((dropTo l f pre).set x (deadB y)) hi mi) rfl (fun u u' h k => h.same k) (fun u hu hp => ?_) (fun v9 => ?_)
      · obtain ⟨w5, hdel, is5, hk5⟩ := HG.out u hp
        refine ⟨.tuple #[], w5, ?_, hu.trans hk5, is5⟩
        simp only [kyV] at hdel
        clear hu hp is5 hk5
        go_simp
      refine chainS_nil ?_
      refine seqV_nil ?_
      refine tailR_zero fun u9 hu hp => ?_
      have lm : V.mb < w.heap.size := HH.out.lt V.mb (.inr (.inr (.inr (.inl rfl))))
      have kall : Keeps (fun k => some k = (Value.slice pv q cv).ownBlock ∨ k = w.heap.size + 2 ∨ k = g ∨ k = V.mb) W u9 := (HK4.out.mono fun _ _ h => Or.inl h).trans ((HK34.out.mono fun _ _ h => Or.inr (h.elim Or.inl fun h => Or.inr (Or.inl h))).trans (hu.mono fun _ _ h => Or.inr (Or.inr (Or.inr h))))
      have e1 : dropTo l f (pre ++ [x]) = (dropTo l f pre).set x (deadB y) := by rw [dropTo_snoc]; unfold dropStep; rw [hfy]; simp [hy]
      have e2 : dropK l f (pre ++ [x]) = dropK l f pre ++ [keyAt l x] := by simp [dropK, List.filter_append, hfy]
      have hplx : (pl (dropTo l f pre))[x]? = some y.1 := by simp [pl, hxd]
      refine (show Exit.normal = Exit.normal ∧ KeepsFrom W0.heap.size W u9 ∧ ∃ v, DropI w N cb R M V l hi mi f (pre ++ [x]) u9 v from ⟨rfl, keepsFrom_of kall (fun k e hk => ?_), .slice (some ⟨g2, 0, none⟩) (q + 1) cap2, ?_⟩)
      · rcases e with e | e | e | e
        · exact rowX_cells hDs.out.ks k e
        · omega
        · omega
        · omega
      · refine ⟨hu.get HB0.out nm0, kall.get hDs.out.b1 ?_, hu.get HB2.out (by omega), ?_, rfl, by rw [e1]; exact hp, keepsThen hDs.out.kp kall (fun k e => ?_), Nat.le_trans hge kall.size, hDs.out.up.snoc hlt, ?_⟩
        · rintro (e | e | e | e)
          · exact hDs.out.ks.ne hDs.out.b1 (by decide) e
          · omega
          · omega
          · omega
        · rw [e2]
          exact KS4.out.keeps hu fun k hk e => ne_tg (tg_own KS4.out.own k hk) tgm (by simp) e
        · rcases e with e | e | e | e
          · exact .inr (hDs.out.ks.lt k e).1
          · exact .inr (by omega)
          · exact .inl (.inl (by rw [e]; exact hown))
          · exact .inl (.inr e)
        · rw [e1, pl_dead, liveL_dead hplx hlv hDs.out.nd]
          exact hDs.out.nd.sublist (List.eraseP_sublist.map _)
  case done =>
    rintro D xs W hDz rfl ⟨v, hD⟩ hK
    have c1 := cell_of hD.b2
    have HD := hidE hD
    have hx : ∃ o : Obj, W.heap[D]? = some o ∧ o.isCells = false := ⟨_, hK, rfl⟩
    have HR := hidE (hD.far h (keeps_grown (F := fun k => k = D) (grownBy_putObj' W D (.deferred none)) fun k e => by cases e; rfl) (fun k e => by subst e; omega) (rowX_apart hD.ks hx))
    clear hD
    gi_wp2
    refine ⟨by simp, .inl ⟨_, _, rfl, run_takeDeferred hK, ?_⟩⟩
    refine ⟨_, results_tmp rfl _ _ _, _, rfl, ?_⟩
    exact ⟨HR.out.ks, HR.out.is, HR.out.kp⟩
end
end Go.Proofs.YtomphgpplbekiaaGreat
namespace Go.Proofs.YtomphgpplbekiaaGreat
open Go.RowKit
attribute [local go_sem ↓] Go.wp_at_zero Go.wp_at_succ
section
variable {w w' : World} {N rb : Nat} {Vb : Value} {l : List Fb} {sz : Int}
theorem refA_dead {n : Nat} {x : Fb} (hx : l[n]? = some x) : refA Vb (l.set n (deadB x)) sz = refA Vb l sz := by
  unfold refA
  rw [pl_dead, usedL_dead (by simp [pl, hx]), ownL_dead (by simp [pl, hx])]
theorem IsRef.gone (h : IsRef w N rb Vb l sz) {n : Nat} {x : Fb} (hx : l[n]? = some x) {g : Nat} (hg : some g = Vb.ownBlock) : IsRef (w.setCell ⟨g, n * 8 + 7, none⟩ (.bool false)) N rb Vb (l.set n (deadB x)) sz := by
  have k1 : Keeps (fun k => k = g) w (w.setCell ⟨g, n * 8 + 7, none⟩ (.bool false)) := (Keeps.refl (fun k => k = g) w).setCell (p := ⟨g, n * 8 + 7, none⟩) (fun _ => rfl) _
  have hne : rb ≠ g := fun e => by
    have := h.bl.ne h.hb (by decide)
    exact this (by rw [e]; exact hg)
  refine ⟨by rw [refA_dead hx]; exact k1.get h.hb hne, ?_, fun y hy => ?_, fun y hy => ?_, h.far⟩
  · have h9 := h.bl.turn (j := n) (i := 7) (c := fbR x) (by simp [hx]) (by decide) (.bool false) hg
    rw [List.map_set]
    exact h9
  · rcases List.mem_or_eq_of_mem_set hy with hy | rfl
    · exact (h.fb y hy).keeps k1 fun k hk e => (h.ro y hy k hk).2 (by rw [e]; exact hg)
    · exact fbOk_dead ((h.fb x (List.mem_of_getElem? hx)).keeps k1 fun k hk e => (h.ro x (List.mem_of_getElem? hx) k hk).2 (by rw [e]; exact hg))
  · rcases List.mem_or_eq_of_mem_set hy with hy | rfl
    · exact h.ro y hy
    · exact h.ro x (List.mem_of_getElem? hx)
theorem dropTo_live {f : Int} {n : Nat} {x : Fb} (hx : l[n]? = some x) (hl : x.1.live = true) : dropTo l f (liveIdx l (n + 1)) = (if hasI x.1.frs f then (dropTo l f (liveIdx l n)).set n (deadB x) else dropTo l f (liveIdx l n)) ∧ dropK l f (liveIdx l (n + 1)) = (if hasI x.1.frs f then dropK l f (liveIdx l n) ++ [keyAt l n] else dropK l f (liveIdx l n)) := by
  have hE : liveIdx l (n + 1) = liveIdx l n ++ [n] := by rw [liveIdx_succ]; simp [liveAt, hx, hl]
  have hf : hasf l f n = hasI x.1.frs f := by simp [hasf, hx]
  rw [hE, dropTo_snoc]
  constructor
  · unfold dropStep
    rw [hf]
    split <;> simp [hx]
  · simp only [dropK, List.filter_append, List.map_append]
    cases hh : hasI x.1.frs f <;> simp [hf, hh]
theorem dropTo_dead {n : Nat} {x : Fb} (hx : l[n]? = some x) (hl : x.1.live = false) : liveIdx l (n + 1) = liveIdx l n := by
  rw [liveIdx_succ]; simp [liveAt, hx, hl]
attribute [local go_sem ↓] x_stKy x_stRw x_stLd x_stOu x_stRb x_stCd x_stBk x_stLk
attribute [local go_sem] st_Ky st_Rw st_Ld st_Ou st_Rb st_Cd st_Bk st_Lk ne_s1 en_s1 ne_s2 en_s2 ne_s3 en_s3 ne_s4 en_s4 ne_s5 en_s5 ne_s6 en_s6 ne_s7 en_s7 ne_s8 en_s8 lt_s2 lt_s3 lt_s4 lt_s5 lt_s6 lt_s7 lt_s8 rowAt_at rowAt_old rowAt_drew rowAt_drewN setRow_drew setRow_at setRow_old setRow_setRow rowAt_setRow_eq rowAt_setRow_ne cell_setRow_eq cell_setRow_ne frozen_setRow_eq frozen_setRow_ne ones_lit oc_int oc_bool oc_str oc_ptr oc_sl oc_map oc_fn oc_nf oc_ni oc_if
set_option maxRecDepth 100000 in
set_option maxHeartbeats 4000000 in
theorem rf_drop (h : IsRef w N rb Vb l sz) (hll : l.length ≤ 10000) (f : Int) :
    Calls Tryz.prog 41 #[.pointer (some ⟨rb, 0, none⟩), .int .i64 f] w fun e w' => ∃ v, e = .returned v ∧ RowX w' w.heap.size 31 2 v (dropK l f (liveIdx l l.length)) ∧ IsRef w' N rb Vb (dropTo l f (liveIdx l l.length)) sz ∧ Keeps (fun k => some k = Vb.ownBlock) w w' := by
  obtain ⟨p, c, ebl⟩ := h.sl
  have hmax : maxLen = 9223372036854775807 := rfl
  have HH := hidE h
  clear h
  go_enter Tryz.func41, Tryz.ntmps41
  go_wp2_with fail
  go_loopw [5, 6] (fun t5 t6 wr => ∃ (n : Nat) (v' : Value), n ≤ l.length ∧ t6 = .int .i64 (n : Int) ∧ t5 = v' ∧ RowX wr w.heap.size 31 2 v' (dropK l f (liveIdx l n)) ∧ IsRef wr N rb Vb (dropTo l f (liveIdx l n)) sz ∧ Keeps (fun k => some k = Vb.ownBlock) w wr) (fun _ t6 _ => (l.length - intOf t6).toNat)
  case atStart => exact ⟨0, _, by omega, rfl, rfl, RowX.nil, HH.out, Keeps.refl _ _⟩
  case round =>
    obtain ⟨n, v', hn, rfl, rfl, h1, h3, h2⟩ := hrel
    have HW := hidE h2
    have HV := hidE h1
    have HI := hidE h3
    obtain ⟨p', c', e9⟩ := h1.sl
    have hql : (dropK l f (liveIdx l n)).length ≤ n := by
      have h4 := liveIdx_le l n
      have h5 : (dropK l f (liveIdx l n)).length ≤ (liveIdx l n).length := by simpa [dropK] using List.length_filter_le _ _
      omega
    generalize hq : (dropK l f (liveIdx l n)).length = q at *
    subst e9
    clear h1 h2 h3
    have d0 := HI.out.c 0
    simp only [refA, ebl] at d0
    by_cases hlt : n < l.length
    · have q0 : decide ((n : Int) < (l.length : Int)) = true := decide_eq_true (by omega)
      have q1 : (n : Int) < (l.length : Int) := by omega
      have q3 : (0 : Int) ≤ (n : Int) := by omega
      have e1 := wrapI ((n : Int) + 1) (by omega) (by omega)
      obtain ⟨x, hx⟩ : ∃ x, l[n]? = some x := ⟨_, List.getElem?_eq_getElem hlt⟩
      have hxd : (dropTo l f (liveIdx l n))[n]? = some x := (dropTo_ne l f n _ (fun m hm => liveIdx_lt hm)).trans hx
      obtain ⟨g, cap, e, n1, n2, hc⟩ := HI.out.bk hxd
      rw [dropTo_len, ebl] at e
      cases e
      have a0 := hc 0 _ rfl
      have a1 := hc 1 _ rfl
      have a5 := hc 5 _ rfl
      have a7 := hc 7 _ rfl
      simp only [Nat.add_zero] at a0
      obtain ⟨fa, fc, efv, f1, f2, f3⟩ := (HI.out.fb x (List.mem_of_getElem? hxd)).f
      rw [efv] at a5
      have hown : some g = Vb.ownBlock := by rw [ebl]; rfl
      have hfz : ∀ o, wr.frozen? ⟨g, o, none⟩ = false := by
        obtain ⟨g', cap', e', -, -, -, -, -, hfz⟩ := HI.out.bl.at_ (j := n) (c := fbR x) (by simp [hxd])
        rw [ebl] at e'
        simp only [Value.slice.injEq, Option.some.injEq, Addr.mk.injEq] at e'
        obtain ⟨⟨rfl, -, -⟩, -, -⟩ := e'
        exact hfz
      have f7 := hfz (n * 8 + 7)
      have HC := hidE hc
      clear hc hfz
      go_wp2_with fail
      go_loopw [7, 8] (fun t7 t8 wr2 => ∃ j : Nat, j ≤ x.1.frs.length ∧ t8 = .int .i64 (j : Int) ∧ t7 = .bool (hasI (x.1.frs.take j) f) ∧ wr = wr2) (fun _ t8 _ => (x.1.frs.length - intOf t8).toNat)
      case atStart => exact ⟨0, by omega, rfl, by simp [hasI], rfl⟩
      case round =>
        obtain ⟨j, hj, rfl, rfl, rfl⟩ := hrel
        by_cases hlt2 : j < x.1.frs.length
        · have p0 : decide ((j : Int) < (x.1.frs.length : Int)) = true := decide_eq_true (by omega)
          have p1 : (j : Int) < (x.1.frs.length : Int) := by omega
          have p3 : (0 : Int) ≤ (j : Int) := by omega
          have e2 := wrapI ((j : Int) + 1) (by omega) (by omega)
          obtain ⟨y, hy⟩ : ∃ y, x.1.frs[j]? = some y := ⟨_, List.getElem?_eq_getElem hlt2⟩
          rcases f3 with f3 | ⟨S, o, rfl, hS, hcell⟩
          · rw [f3] at hlt2; simp at hlt2
          have hcy := hcell j y hy
          have HN := hidE (any_take_succ (x := f) hy)
          clear hcell hy
          cases hh : hasI (x.1.frs.take j) f with
          | true =>
            go_wp2_with fail
            exact ⟨⟨j + 1, by omega, by simp, by rw [HN.out, hh]; rfl, trivial⟩, by simp only [intOf]; omega⟩
          | false =>
            go_wp2_with fail
            exact ⟨⟨j + 1, by omega, by simp, by rw [HN.out, hh, Bool.false_or], trivial⟩, by simp only [intOf]; omega⟩
        · obtain rfl : j = x.1.frs.length := by omega
          have p0 : decide ((x.1.frs.length : Int) < (x.1.frs.length : Int)) = false := by simp
          have ht : x.1.frs.take x.1.frs.length = x.1.frs := List.take_length
          cases hl : x.1.live with
          | false =>
            rw [hl] at a7
            have hE := dropTo_dead hx hl
            clear hx
            go_wp2_with fail
            exact ⟨⟨n + 1, _, by omega, by simp, rfl, by rw [hE]; exact HV.out, by rw [hE]; exact HI.out, HW.out⟩, by simp only [intOf]; omega⟩
          | true =>
            rw [hl] at a7
            obtain ⟨hE1, hE2⟩ := dropTo_live (f := f) hx hl
            cases hh : hasI x.1.frs f with
            | false =>
              rw [hh] at hE1 hE2
              simp only [Bool.false_eq_true, if_false] at hE1 hE2
              clear hx
              go_wp2_with fail
              exact ⟨⟨n + 1, _, by omega, by simp, rfl, by rw [hE2]; exact HV.out, by rw [hE1]; exact HI.out, HW.out⟩, by simp only [intOf]; omega⟩
            | true =>
              rw [hh] at hE1 hE2
              simp only [if_true] at hE1 hE2
              have hkey : keyAt l n = [.int .u32 x.1.k1, .int .u32 x.1.k2] := by simp [keyAt, hx]
              have hz2 := HW.out.size
              have k1 := (Keeps.refl (fun _ => False) wr).alloc (.cells #[.int .u32 x.1.k1, .int .u32 x.1.k2] 31)
              obtain ⟨g2, cap2, w2, hr2, h3, h4⟩ := (HV.out.keeps k1 (fun _ _ => id)).push (P := Tryz.prog) 39 _ 8 Tryz.underlying39 key_info (by rfl) (by decide) (by decide) (keyAt l n) (by simp [hkey]) (by rw [hkey]; simp [Value.oneCell']) wr.heap.size 1 (block_new _ _) (by simp [hkey]) (by omega) (by simp; omega)
              rw [hq] at hr2 h3
              have hlv := HV.out.lt
              have HK4 := k1.trans' h4.keeps
              have lr := lt_of_block HH.out.hb
              have lg := (HH.out.bl.lt g hown).2
              have is2 := HI.out.keeps HK4 (fun e => by have := (hlv _ e).1; omega) (fun k hk e => by have := (hlv _ e).1; have := (HH.out.bl.lt k hk).2; omega) (fun z hz k hk e => by
                obtain ⟨y, hy, e2, e3⟩ := dropTo_mem l f _ z hz
                have h8 := (HH.out.fb y hy).lt k (by unfold ROk at *; rw [e2, e3]; exact hk)
                have := (hlv _ e).1
                omega)
              have d2 := is2.c 0
              simp only [refA, ebl] at d2
              obtain ⟨g', cap', e', -, -, hc2⟩ := is2.bk hxd
              rw [ebl] at e'
              simp only [Value.slice.injEq, Option.some.injEq, Addr.mk.injEq] at e'
              obtain ⟨⟨rfl, -, -⟩, -, -⟩ := e'
              have a72 := hc2 7 _ rfl
              rw [hl] at a72
              obtain ⟨g', cap', e', -, -, -, -, -, hfz2⟩ := is2.bl.at_ (j := n) (c := fbR x) (by simp [hxd])
              rw [ebl] at e'
              simp only [Value.slice.injEq, Option.some.injEq, Addr.mk.injEq] at e'
              obtain ⟨⟨rfl, -, -⟩, -, -⟩ := e'
              have f72 := hfz2 (n * 8 + 7)
              have kg : Keeps (fun k => k = g) w2 (w2.setCell ⟨g, n * 8 + 7, none⟩ (.bool false)) := (Keeps.refl (fun k => k = g) w2).setCell (p := ⟨g, n * 8 + 7, none⟩) (fun _ => rfl) _
              have IS3 := hidE (is2.gone hxd hown)
              have KS3 := hidE (h3.keeps kg (fun k hk e => ne_tg (tg_own h3.own k hk) (tg_own is2.bl.own g hown) (by decide) e))
              have KK := hidE ((keepsThen HW.out HK4 (fun k e => .inr (hlv k e).1)).trans (kg.mono (G := fun k => some k = Vb.ownBlock) (fun k _ e => by rw [e]; exact hown)))
              clear h3 h4 k1 hlv is2 hc2 hfz2 kg hx HK4
              go_wp2_with (at_builtin; refine wpList_app rfl (.tmp 58) (.tmp 67) 39 rfl rfl rfl hr2 ?_; clear hr2)
              exact ⟨⟨n + 1, _, by omega, by simp, rfl, by rw [hE2]; exact KS3.out, by rw [hE1]; exact IS3.out, KK.out⟩, by simp only [intOf]; omega⟩
    · obtain rfl : n = l.length := by omega
      have q0 : decide ((l.length : Int) < (l.length : Int)) = false := by simp
      go_wp2
      go_ret
      exact ⟨_, rfl, HV.out, HI.out, HW.out⟩
end
end Go.Proofs.YtomphgpplbekiaaGreat
