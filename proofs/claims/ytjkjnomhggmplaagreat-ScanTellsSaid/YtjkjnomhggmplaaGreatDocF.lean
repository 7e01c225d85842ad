/- The walk of the document's fetch (the reference of layer 18). The walk of the document's fetch (the reference of layer 18). The document's Scan under way: facts. -/
import Derived.Test.YtjkjnomhggmplaaGreatDoc18
import Derived.Test.YtjkjnomhggmplaaGreatRef6
import Derived.Test.YtjkjnomhggmplaaGreatScanI
namespace Go.Proofs.YtjkjnomhggmplaaGreat
open Go.RowKit
attribute [local go_sem ↓] Go.wp_at_zero Go.wp_at_succ

def sizeD (bs : List Int) : Nat := if bs = [] then 1 else (formL (headX bs) false).n.toNat
def contD (R : RamAt) (M : List Int) (root ps pc : Nat) (bs : List Int) (f : Fd) : Fetched := if bs = [] then fetchD R M root ps pc f else restD R M root ps pc bs f
theorem headX_app {bs : List Int} (h : bs ≠ []) (x : Int) : headX (bs ++ [x]) = headX bs := by
  cases bs with
  | nil => exact absurd rfl h
  | cons a l => rfl
theorem sizeD_le (bs : List Int) : sizeD bs ≤ 6 := by
  unfold sizeD
  split
  · omega
  · have := form_n6 (headX bs)
    omega
theorem contD_none {R : RamAt} {M : List Int} {root ps pc : Nat} {bs : List Int} {f : Fd} (h : bs.length < sizeD bs) (ht : toL R M root ps ((pc + bs.length) % 4294967296) 1 = none) : contD R M root ps pc bs f = ⟨5, (pc + bs.length) % 4294967296, in0, 0, f⟩ := by
  unfold contD
  by_cases he : bs = []
  · subst he
    rw [if_pos rfl]
    unfold fetchD byteD
    simp only [List.length_nil, Nat.add_zero] at ht ⊢
    rw [ht]
  · rw [if_neg he]
    unfold sizeD at h
    rw [if_neg he] at h
    unfold restD
    obtain ⟨k, hk⟩ : ∃ k, (formL (headX bs) false).n.toNat - bs.length = k + 1 := ⟨(formL (headX bs) false).n.toNat - bs.length - 1, by omega⟩
    rw [hk]
    unfold moreD byteD
    rw [ht]
theorem contD_some {R : RamAt} {M : List Int} {root ps pc : Nat} {bs : List Int} {f : Fd} {a : Nat} (h : bs.length < sizeD bs) (ht : toL R M root ps ((pc + bs.length) % 4294967296) 1 = some a) :
    contD R M root ps pc bs f = contD R M root ps pc (bs ++ [R.get M a]) ⟨putL f.fr ((a : Int) / 64), if ps / 4 % 2 = 0 then f.tb else putL (putL f.tb (((lookL R M root ((pc + bs.length) % 4294967296)).getD way0).dir : Nat)) (((lookL R M root ((pc + bs.length) % 4294967296)).getD way0).tab : Nat), pageL f.pg ((((pc + bs.length) % 4294967296 : Nat) : Int) / 64)⟩ := by
  have hne : ∀ x : Int, bs ++ [x] ≠ [] := fun x => by simp
  unfold contD
  rw [if_neg (hne _)]
  by_cases he : bs = []
  · subst he
    rw [if_pos rfl]
    unfold fetchD byteD
    simp only [List.length_nil, Nat.add_zero] at ht ⊢
    rw [ht]
    rfl
  · rw [if_neg he]
    unfold sizeD at h
    rw [if_neg he] at h
    unfold restD
    rw [headX_app he]
    obtain ⟨k, hk⟩ : ∃ k, (formL (headX bs) false).n.toNat - bs.length = k + 1 := ⟨(formL (headX bs) false).n.toNat - bs.length - 1, by omega⟩
    rw [hk, show (formL (headX bs) false).n.toNat - (bs ++ [R.get M a]).length = k by simp only [List.length_append, List.length_cons, List.length_nil]; omega]
    conv => lhs; unfold moreD byteD
    rw [ht]
theorem contD_done {R : RamAt} {M : List Int} {root ps pc : Nat} {bs : List Int} {f : Fd} (h : ¬ bs.length < sizeD bs) : contD R M root ps pc bs f = decR pc bs f := by
  unfold contD
  by_cases he : bs = []
  · subst he
    unfold sizeD at h
    simp at h
  · rw [if_neg he]
    unfold sizeD at h
    rw [if_neg he] at h
    unfold restD
    rw [show (formL (headX bs) false).n.toNat - bs.length = 0 by omega]
    rfl

/-- fetch under way. -/
structure FeI (w wr : World) (R : RamAt) (M : List Int) (g : Nat) (S : Array Value) (n : Nat) (vb vf vt vp : Value) (bs : List Int) (f : Fd) : Prop where
  b0 : wr.heap[w.heap.size]? = some (.cells (docV R g) 34 (0, 0))
  b1 : wr.heap[w.heap.size + 1]? = some (.cells S 28 (0, 0))
  b2 : wr.heap[w.heap.size + 1 + 1]? = some (.cells #[vf, vt, vp] 77 (0, 0))
  b3 : wr.heap[w.heap.size + 1 + 1 + 1]? = some (.cells #[.int .u8 0, .int .u8 0, .int .u8 0, .int .i32 0] 67 (0, 0))
  b4 : wr.heap[w.heap.size + 1 + 1 + 1 + 1]? = some (.cells #[.slice none 0 0, .slice none 0 0, .slice none 0 0] 77 (0, 0))
  b5 : wr.heap[w.heap.size + 1 + 1 + 1 + 1 + 1]? = some (.cells #[.int .i64 0, .int .u32 0] 42 (0, 0))
  rb : RowB wr (w.heap.size + 1 + 1 + 1 + 1 + 1 + 1) vb bs
  rf : rowI wr 0 vf f.fr
  rt : rowI wr 0 vt f.tb
  rp : rowU wr 0 vp f.pg
  q1 : Rising f.fr
  q2 : Rising f.tb
  n6 : n ≤ 100
  l1 : f.fr.length ≤ 1000 + n
  l2 : f.tb.length ≤ 1000 + 2 * n
  l3 : f.pg.length ≤ 1000 + n
  by8 : ∀ y ∈ bs, 0 ≤ y ∧ y < 256
  same : Same w wr
section
variable {w wr u : World} {R : RamAt} {M : List Int} {g : Nat} {S : Array Value} {n : Nat} {vb vf vt vp : Value} {bs : List Int} {f : Fd}
theorem owns_S {w w' : World} {B : Nat} {e : TypeId} {s n : Nat} {v : Value} {xs : List Value} (h : w.ownsRow B e s v n xs) (k : Same w w') : w'.ownsRow B e s v n xs := owns_keeps h k (fun _ _ => id)
theorem FeI.st (h : FeI w wr R M g S n vb vf vt vp bs f) (k : Same wr u) : FeI w u R M g S n vb vf vt vp bs f :=
  { h with b0 := k.get h.b0 id, b1 := k.get h.b1 id, b2 := k.get h.b2 id, b3 := k.get h.b3 id, b4 := k.get h.b4 id, b5 := k.get h.b5 id, rb := owns_S h.rb k, rf := owns_S h.rf k, rt := owns_S h.rt k, rp := owns_S h.rp k, same := h.same.trans k }
theorem FeI.size (h : FeI w wr R M g S n vb vf vt vp bs f) : w.heap.size + 1 + 1 + 1 + 1 + 1 < wr.heap.size := lt_of_block h.b5
theorem FeI.put (_h : FeI w wr R M g S n vb vf vt vp bs f) (j : Nat) (v : Value) : Keeps (fun k => k = w.heap.size + 1 + 1) wr (wr.setCell ⟨w.heap.size + 1 + 1, j, none⟩ v) :=
  Keeps.setCell (F := fun k => k = w.heap.size + 1 + 1) (Keeps.refl _ _) (p := ⟨w.heap.size + 1 + 1, j, none⟩) (fun _ => rfl) _
theorem FeI.low (h : FeI w wr R M g S n vb vf vt vp bs f) {B : Nat} {e : TypeId} {s m : Nat} {v : Value} {xs : List Value} (ho : wr.ownsRow B e s v m xs) (he : e ≠ 77) (j : Nat) (x : Value) : (wr.setCell ⟨w.heap.size + 1 + 1, j, none⟩ x).ownsRow B e s v m xs :=
  owns_box ho h.b2 he (h.put j x)
theorem FeI.setF (h : FeI w wr R M g S n vb vf vt vp bs f) {v : Value} {y : Int} (hv : rowI wr 0 v (putL f.fr y)) (hn : n + 1 ≤ 100) : FeI w (wr.setCell ⟨w.heap.size + 1 + 1, 0, none⟩ v) R M g S (n + 1) vb v vt vp bs ⟨putL f.fr y, f.tb, f.pg⟩ :=
  { b0 := block_other _ h.b0 (by simp only; omega), b1 := block_other _ h.b1 (by simp only; omega), b2 := block_set h.b2 0 v, b3 := block_other _ h.b3 (by simp only; omega), b4 := block_other _ h.b4 (by simp only; omega), b5 := block_other _ h.b5 (by simp only; omega),
    rb := h.low h.rb (by decide) 0 v, rf := h.low hv (by decide) 0 v, rt := h.low h.rt (by decide) 0 v, rp := h.low h.rp (by decide) 0 v, q1 := rising_putL h.q1 _, q2 := h.q2, n6 := hn,
    l1 := by have := length_putL_le f.fr y; have := h.l1; simp only; omega, l2 := by have := h.l2; simp only; omega, l3 := by have := h.l3; simp only; omega, by8 := h.by8,
    same := same_then h.same (h.put 0 v) (fun k hk => by omega) }
theorem FeI.setT (h : FeI w wr R M g S n vb vf vt vp bs f) {v : Value} {ys : List Int} (hv : rowI wr 0 v ys) (hq : Rising ys) (hl : ys.length ≤ f.tb.length + 2) (hn : n + 1 ≤ 100) : FeI w (wr.setCell ⟨w.heap.size + 1 + 1, 1, none⟩ v) R M g S (n + 1) vb vf v vp bs ⟨f.fr, ys, f.pg⟩ :=
  { b0 := block_other _ h.b0 (by simp only; omega), b1 := block_other _ h.b1 (by simp only; omega), b2 := block_set h.b2 1 v, b3 := block_other _ h.b3 (by simp only; omega), b4 := block_other _ h.b4 (by simp only; omega), b5 := block_other _ h.b5 (by simp only; omega),
    rb := h.low h.rb (by decide) 1 v, rf := h.low h.rf (by decide) 1 v, rt := h.low hv (by decide) 1 v, rp := h.low h.rp (by decide) 1 v, q1 := h.q1, q2 := hq, n6 := hn,
    l1 := by have := h.l1; simp only; omega, l2 := by have := h.l2; simp only; omega, l3 := by have := h.l3; simp only; omega, by8 := h.by8,
    same := same_then h.same (h.put 1 v) (fun k hk => by omega) }
theorem pageL_len (xs : List Int) (y : Int) : (pageL xs y).length ≤ xs.length + 1 := by
  unfold pageL
  split <;> simp
theorem FeI.setP (h : FeI w wr R M g S n vb vf vt vp bs f) {v : Value} {y : Int} (hv : rowU wr 0 v (pageL f.pg y)) (hn : n + 1 ≤ 100) : FeI w (wr.setCell ⟨w.heap.size + 1 + 1, 2, none⟩ v) R M g S (n + 1) vb vf vt v bs ⟨f.fr, f.tb, pageL f.pg y⟩ :=
  { b0 := block_other _ h.b0 (by simp only; omega), b1 := block_other _ h.b1 (by simp only; omega), b2 := block_set h.b2 2 v, b3 := block_other _ h.b3 (by simp only; omega), b4 := block_other _ h.b4 (by simp only; omega), b5 := block_other _ h.b5 (by simp only; omega),
    rb := h.low h.rb (by decide) 2 v, rf := h.low h.rf (by decide) 2 v, rt := h.low h.rt (by decide) 2 v, rp := h.low hv (by decide) 2 v, q1 := h.q1, q2 := h.q2, n6 := hn,
    l1 := by have := h.l1; simp only; omega, l2 := by have := h.l2; simp only; omega, l3 := by have := pageL_len f.pg y; have := h.l3; simp only; omega, by8 := h.by8,
    same := same_then h.same (h.put 2 v) (fun k hk => by omega) }
theorem FeI.app (h : FeI w wr R M g S n vb vf vt vp bs f) {v : Value} {y : Int} (hr : RowB u (w.heap.size + 1 + 1 + 1 + 1 + 1 + 1) v (bs ++ [y])) (hk : Keeps (fun k => w.heap.size + 1 + 1 + 1 + 1 + 1 + 1 ≤ k ∧ some k = vb.ownBlock) wr u) (hy : 0 ≤ y ∧ y < 256) :
    FeI w u R M g S n v vf vt vp (bs ++ [y]) f :=
  ⟨hk.get h.b0 (by omega), hk.get h.b1 (by omega), hk.get h.b2 (by omega), hk.get h.b3 (by omega), hk.get h.b4 (by omega), hk.get h.b5 (by omega), hr,
    owns_stay h.rf hk (fun j e1 e2 => owns_apart h.rf h.rb (by decide) j e1 e2.2), owns_stay h.rt hk (fun j e1 e2 => owns_apart h.rt h.rb (by decide) j e1 e2.2), owns_stay h.rp hk (fun j e1 e2 => owns_apart h.rp h.rb (by decide) j e1 e2.2),
    h.q1, h.q2, h.n6, h.l1, h.l2, h.l3, (fun z hz => (List.mem_append.1 hz).elim (h.by8 z) (fun e => by simp at e; subst e; exact hy)), same_then h.same hk (fun k hk => by omega)⟩
end
/-- What fetch gives. -/
def FePost (w : World) (vp0 : Value) (Z : Fetched) (e : Ending) (w' : World) : Prop :=
  ∃ vf vt vp, e = .returned (.tuple #[.agg #[.int .u8 Z.i.op, .int .u8 Z.i.a, .int .u8 Z.i.b, .int .i32 Z.i.imm], .int .i64 Z.sz, .agg #[vf, vt, vp], .agg #[.int .i64 Z.c, .int .u32 (Z.a : Nat)]]) ∧ rowI w' 0 vf Z.f.fr ∧ rowI w' 0 vt Z.f.tb ∧ rowU w' 0 vp Z.f.pg ∧ Same w w' ∧ From w.heap.size vp0 vp
theorem results_ctcc {P : Program} {fn : Func} {tmps : Array Value} {w : World} {a u a' a'' : Tmp} {t t' t'' : TypeId} {b b' b'' : Nat} {A A' A'' : Array Value} {ty ty' ty'' : TypeId} {f f' f'' : Nat × Nat} {d d' d'' : TypeDesc} (h : fn.results = #[.cell a t, .tmp u, .cell a' t', .cell a'' t''])
    (hp : tmps.getD a undef = .pointer (some ⟨b, 0, none⟩)) (hb : w.heap[b]? = some (.cells A ty f)) (hu : P.underlying t = some d) (hd : isAggD d = true) (hi : (P.info? t).map (·.size) = some A.size)
    (hp' : tmps.getD a' undef = .pointer (some ⟨b', 0, none⟩)) (hb' : w.heap[b']? = some (.cells A' ty' f')) (hu' : P.underlying t' = some d') (hd' : isAggD d' = true) (hi' : (P.info? t').map (·.size) = some A'.size)
    (hp'' : tmps.getD a'' undef = .pointer (some ⟨b'', 0, none⟩)) (hb'' : w.heap[b'']? = some (.cells A'' ty'' f'')) (hu'' : P.underlying t'' = some d'') (hd'' : isAggD d'' = true) (hi'' : (P.info? t'').map (·.size) = some A''.size) :
    (results fn tmps).run P w = .ok (.tuple #[.agg A, tmps.getD u undef, .agg A', .agg A'']) w := by
  have h1 := run_rescell (P := P) hb hu hd hi
  have h2 := run_rescell (P := P) hb' hu' hd' hi'
  have h3 := run_rescell (P := P) hb'' hu'' hd'' hi''
  have hq : tmps[a]?.getD undef = .pointer (some ⟨b, 0, none⟩) := by simpa using hp
  have hq' : tmps[a']?.getD undef = .pointer (some ⟨b', 0, none⟩) := by simpa using hp'
  have hq'' : tmps[a'']?.getD undef = .pointer (some ⟨b'', 0, none⟩) := by simpa using hp''
  simp [results, h, hq, hq', hq'', run_asAddr, h1, h2, h3]
/-- As W, but for two blocks. -/
structure S3 (W : World) (A B : Nat) (u : World) : Prop where
  k : Keeps (fun j => j = A ∨ j = B) W u
  zA : (rowAt u A).size = 3 + 1
  zB : (rowAt u B).size = 2 + 1
theorem S3.same {W : World} {A B : Nat} (u u' : World) (h : S3 W A B u) (k : Same u u') : S3 W A B u' :=
  ⟨h.k.trans (k.mono fun _ _ h => h.elim), by rw [row_same k (by rw [h.zA]; omega)]; exact h.zA, by rw [row_same k (by rw [h.zB]; omega)]; exact h.zB⟩
theorem rowAt_other {u : World} {A B : Nat} (h : B ≠ A) (X : Array Value) : rowAt (u.setRow A X) B = rowAt u B := by
  unfold rowAt
  simp [World.setRow, Array.getElem?_modify, Ne.symm h]
theorem S3.setA {W u : World} {A B : Nat} {X : Array Value} (hAB : A ≠ B) (h : S3 W A B u) (hX : X.size = 3 + 1) : S3 W A B (u.setRow A X) :=
  ⟨h.k.setRow (fun _ => .inl rfl) _, by rw [rowAt_setRow_eq _ _ _ (by rw [h.zA]; omega)]; exact hX, by rw [rowAt_other hAB.symm]; exact h.zB⟩
theorem S3.setB {W u : World} {A B : Nat} {X : Array Value} (hAB : A ≠ B) (h : S3 W A B u) (hX : X.size = 2 + 1) : S3 W A B (u.setRow B X) :=
  ⟨h.k.setRow (fun _ => .inr rfl) _, by rw [rowAt_other hAB]; exact h.zA, by rw [rowAt_setRow_eq _ _ _ (by rw [h.zB]; omega)]; exact hX⟩
theorem tail3 {P : Program} {ops : Array Oper} {Q : Exit → Act → World → Prop} {W : World} {A B : Nat} {iA sB : Array Value} {v5 : Value} {o4 o5 o6 : Oper} {l : List Oper} {a : Act} (hAB : A ≠ B) (hi : iA.size = 3 + 1) (hs : sB.size = 2 + 1)
    (w4 : Region.wanted o4 (yielded ops a.tmps) = true) (r4 : ∀ u, S3 W A B u → (execOp a.eval o4).run P u = .ok .skip (u.setRow A iA))
    (w5 : Region.wanted o5 (yielded ops (a.put o4.dst undef).tmps) = true) (r5 : ∀ u, (execOp (a.put o4.dst undef).eval o5).run P u = .ok (.value v5) u)
    (w6 : Region.wanted o6 (yielded ops ((a.put o4.dst undef).put o5.dst v5).tmps) = true) (r6 : ∀ u, S3 W A B u → (execOp ((a.put o4.dst undef).put o5.dst v5).eval o6).run P u = .ok .skip (u.setRow B sB))
    (h : ∀ u, S3 W A B u → rowAt u A = iA → rowAt u B = sB → wpList P ops Q l (((a.put o4.dst undef).put o5.dst v5).put o6.dst undef) u) : tailR P ops Q (S3 W A B) 3 (o4 :: o5 :: o6 :: l) a (fun _ => True) := by
  refine tailR_cons (fun x u => x = undef ∧ rowAt u A = iA) w4 (fun x u u' hx hk => ⟨hx.1, ?_⟩) (fun u hu _ => ?_) (fun x hx => ?_)
  · rw [row_same hk (by rw [hx.2, hi]; omega)]; exact hx.2
  · rw [r4 u hu]
    exact ⟨hu.setA hAB hi, rfl, rowAt_setRow_eq _ _ _ (by rw [hu.zA]; omega)⟩
  obtain ⟨_, _, rfl, _⟩ := hx
  refine tailR_cons (fun x u => x = v5 ∧ rowAt u A = iA) w5 (fun x u u' hx hk => ⟨hx.1, ?_⟩) (fun u hu hp => ?_) (fun x hx => ?_)
  · rw [row_same hk (by rw [hx.2, hi]; omega)]; exact hx.2
  · rw [r5 u]
    exact ⟨hu, rfl, hp.2⟩
  obtain ⟨_, _, rfl, _⟩ := hx
  refine tailR_cons (fun x u => x = undef ∧ rowAt u A = iA ∧ rowAt u B = sB) w6 (fun x u u' hx hk => ⟨hx.1, ?_, ?_⟩) (fun u hu hp => ?_) (fun x hx => ?_)
  · rw [row_same hk (by rw [hx.2.1, hi]; omega)]; exact hx.2.1
  · rw [row_same hk (by rw [hx.2.2, hs]; omega)]; exact hx.2.2
  · rw [r6 u hu]
    exact ⟨hu.setB hAB hs, rfl, by rw [rowAt_other hAB]; exact hp.2, rowAt_setRow_eq _ _ _ (by rw [hu.zB]; omega)⟩
  obtain ⟨_, _, rfl, _⟩ := hx
  exact tailR_zero fun u hu hp => h u hu hp.2.1 hp.2.2
theorem st_S {W : World} {b : Nat} (h : (rowAt W b).size = 2 + 1) (x y z : Value) (h1 : x.oneCell' = true) (h2 : y.oneCell' = true) (h3 : z.oneCell' = true) :
    (stRow 77 (.pointer (some ⟨b, 0, none⟩)) (.agg #[x, y, z])).run Tryz.prog W = .ok .skip (W.setRow b #[x, y, z]) :=
  stRow_run W _ _ 2 _ (by kernel_rfl) h rfl (by simp [Ones, h1, h2, h3])
end Go.Proofs.YtjkjnomhggmplaaGreat
namespace Go.Proofs.YtjkjnomhggmplaaGreat
open Go.RowKit
attribute [local go_sem ↓] Go.wp_at_zero Go.wp_at_succ

theorem stepR_call {P : Program} {R : Value → World → Prop} {X : Result Next} {f : FuncId} {args : Array Value} {w' : World} (h : X = .ok (.enter f args) w') (hc : Calls P f args w' (fun e w'' => ∃ v, e = .returned v ∧ R v w'')) : stepR P R X := by
  rw [h]
  exact hc
theorem row_blk {u : World} {A : Nat} {X : Array Value} (h : rowAt u A = X) (hX : 0 < X.size) : ∃ t, u.heap[A]? = some (.cells X t (0, 0)) := by
  obtain ⟨t, hb⟩ := block_row0 (w := u) (k := A) (by rw [h]; exact hX)
  rw [h] at hb
  exact ⟨t, hb⟩
theorem fld2 (n m : Int) (A B S : Bool) (u : World) : (Instr.field 148 (.agg #[.int .i64 n, .bool A, .bool B, .int .i64 m, .bool S]) 0).run Tryz.prog u = .ok (.int .i64 n) u := by kernel_rfl
def feW (w : World) (R : RamAt) (g : Nat) (S : Array Value) (vf vt vp : Value) : World :=
  (((((w.alloc (.cells (docV R g) 34)).alloc (.cells S 28)).alloc (.cells #[vf, vt, vp] 77)).alloc (.cells #[.int .u8 0, .int .u8 0, .int .u8 0, .int .i32 0] 67)).alloc (.cells #[.slice none 0 0, .slice none 0 0, .slice none 0 0] 77)).alloc (.cells #[.int .i64 0, .int .u32 0] 42)
theorem feI_new {w : World} {R : RamAt} {M : List Int} {g : Nat} {S : Array Value} {vf vt vp : Value} {f : Fd} (h1 : rowI w 0 vf f.fr) (h2 : rowI w 0 vt f.tb) (h3 : rowU w 0 vp f.pg) (q1 : Rising f.fr) (q2 : Rising f.tb)
    (l1 : f.fr.length ≤ 1000) (l2 : f.tb.length ≤ 1000) (l3 : f.pg.length ≤ 1000) : FeI w (feW w R g S vf vt vp) R M g S 0 (.slice none 0 0) vf vt vp [] f := by
  have hk : Same w (feW w R g S vf vt vp) := ((((((Keeps.refl _ _).alloc _).alloc _).alloc _).alloc _).alloc _).alloc _
  refine ⟨?_, ?_, ?_, ?_, ?_, ?_, World.ownsRow_nil _ _ _ _, owns_S h1 hk, owns_S h2 hk, owns_S h3 hk, q1, q2, by omega, by omega, by omega, by omega, fun y hy => by simp at hy, hk⟩
  all_goals (unfold feW; repeat (first | exact block_new _ _ | (refine block_atR _ ?_; (simp; done)) | refine block_old _ ?_))
theorem fe_row {w wr u : World} {R : RamAt} {M : List Int} {g : Nat} {S : Array Value} {n : Nat} {vb vf vt vp : Value} {bs : List Int} {f : Fd} (h : FeI w wr R M g S n vb vf vt vp bs f) {e : TypeId} {s m : Nat} {v : Value} {xs : List Value} (ho : wr.ownsRow 0 e s v m xs)
    (e1 : e ≠ 67) (e2 : e ≠ 77) (e3 : e ≠ 42) (k : Keeps (fun k => k = w.heap.size + 1 + 1 + 1 ∨ k = w.heap.size + 1 + 1 + 1 + 1 ∨ k = w.heap.size + 1 + 1 + 1 + 1 + 1) wr u) : u.ownsRow 0 e s v m xs :=
  owns_stay ho k fun j hj hF => by
    rcases hF with rfl | rfl | rfl
    · exact owns_no ho h.b3 e1 hj
    · exact owns_no ho h.b4 e2 hj
    · exact owns_no ho h.b5 e3 hj
theorem feI_num {w wr : World} {R : RamAt} {M : List Int} {g : Nat} {S : Array Value} {n n' : Nat} {vb vf vt vp : Value} {bs : List Int} {f : Fd} (h : FeI w wr R M g S n vb vf vt vp bs f) (e : n ≤ n' ∧ n' ≤ 100) : FeI w wr R M g S n' vb vf vt vp bs f :=
  { h with n6 := by have := h.n6; omega, l1 := by have := h.l1; omega, l2 := by have := h.l2; omega, l3 := by have := h.l3; omega }
theorem bySz_of {u : World} {B : Nat} {pb : Option Addr} {n cb : Nat} {bs : List Int} (h : RowB u B (.slice pb n cb) bs) (h8 : ∀ y ∈ bs, 0 ≤ y ∧ y < 256) : BySz u pb bs.length (fun k => bs.getD k 0) := by
  obtain ⟨-, ⟨e, h0⟩ | ⟨gg, cap, cur, e, -, hg, h1, h2, h3, h4⟩⟩ := h
  · exact .inl h0
  · cases e
    by_cases hz : bs.length = 0
    · exact .inl hz
    refine .inr ⟨gg, rfl, fun j hj => ?_⟩
    have hj2 : bs.getD j 0 = bs[j] := by simp [hj]
    have hx := h8 _ (List.getElem_mem hj)
    rw [← hj2] at hx
    refine ⟨hx.1, hx.2, ?_⟩
    show u.cell? ⟨gg, j, none⟩ = some (.int .u8 (bs.getD j 0))
    rw [cell_of hg, hj2]
    have := congrArg (fun l => l[j]?) h4
    simp only [List.getElem?_take, List.getElem?_map] at this
    rw [if_pos (by omega)] at this
    simpa [hj] using this
set_option maxRecDepth 100000 in
set_option maxHeartbeats 16000000 in
theorem d_fetch {R : RamAt} {M : List Int} {g : Nat} (w : World) (H : DocR w R M g) (S : Array Value) (root ps pc0 : Nat) (hS : StV S root ps pc0) (pc : Nat) (_hpc : pc < 4294967296) (vf vt vp : Value) (f0 : Fd)
    (h1 : rowI w 0 vf f0.fr) (h2 : rowI w 0 vt f0.tb) (h3 : rowU w 0 vp f0.pg) (q1 : Rising f0.fr) (q2 : Rising f0.tb) (l1 : f0.fr.length ≤ 1000) (l2 : f0.tb.length ≤ 1000) (l3 : f0.pg.length ≤ 1000) :
    Calls Tryz.prog 26 #[.agg (docV R g), .agg S, .int .u32 (pc : Nat), .agg #[vf, vt, vp]] w (FePost w vp (fetchD R M root ps pc f0)) := by
  obtain ⟨vp0, hvp0⟩ : ∃ v, v = vp := ⟨_, rfl⟩
  refine Calls.mono (R := FePost w vp0 (fetchD R M root ps pc f0)) ?_ (fun e w' h => by rw [hvp0] at h; exact h)
  obtain ⟨Z, hZ⟩ : ∃ Z, Z = fetchD R M root ps pc f0 := ⟨_, rfl⟩
  rw [← hZ]
  have HFr := hidE (show From w.heap.size vp0 vp from hvp0 ▸ From.refl _ _)
  clear hvp0
  have hZ : contD R M root ps pc [] f0 = Z := by rw [hZ]; rfl
  have HZ := hidE hZ
  have HI := hidE (feI_new (R := R) (M := M) (g := g) (S := S) h1 h2 h3 q1 q2 l1 l2 l3)
  have hr := hS.hr
  have hp := hS.hp
  have n2 := H.n2
  have HS := hidE hS
  have HD := hidE H
  obtain ⟨pf, cf, rfl⟩ := owns_sl h1
  obtain ⟨pt, ct, rfl⟩ := owns_sl h2
  obtain ⟨pp, cp, rfl⟩ := owns_sl h3
  clear H hS h1 h2 h3 q1 q2 hZ
  unfold docV
  go_enter Tryz.func26, Tryz.ntmps26
  go_wp2_with fail
  go_loopw [12, 13, 14] (fun t12 t13 t14 wr => ∃ (bs : List Int) (f : Fd) (vf vt vp : Value), FeI w wr R M g S (3 * bs.length) t12 vf vt vp bs f ∧ contD R M root ps pc bs f = Z ∧ bs.length ≤ 6 ∧ t14 = .int .i64 (bs.length : Nat) ∧ t13 = .int .i64 (sizeD bs : Nat) ∧ From w.heap.size vp0 vp) (fun _ _ t14 _ => 7 - (intOf t14).toNat)
  case atStart => exact ⟨[], f0, _, _, _, HI.out, HZ.out, by simp, rfl, rfl, HFr.out⟩
  case round =>
    clear HZ HI l1 l2 l3 HFr
    obtain ⟨bs, f, vf, vt, vp, hI, hZ, hb6, rfl, rfl, hFr⟩ := hrel
    have HFr := hidE hFr
    clear hFr
    have hs6 := sizeD_le bs
    obtain ⟨pb, cb, rfl⟩ := owns_sl hI.rb
    obtain ⟨pf, cf, rfl⟩ := owns_sl hI.rf
    obtain ⟨pt, ct, rfl⟩ := owns_sl hI.rt
    obtain ⟨pp, cp, rfl⟩ := owns_sl hI.rp
    have HI := hidE hI
    have HZ := hidE hZ
    have hsz := hI.size
    have c0 := cell_of hI.b0
    have c10 := (cell_of hI.b1 10).trans HS.out.e10
    have c9 := (cell_of hI.b1 9).trans HS.out.e9
    simp only [docV] at c0
    have e0 := wrapI ((bs.length : Int) + 1) (by omega) (by omega)
    by_cases hlt : bs.length < sizeD bs
    · have p0 : decide ((bs.length : Int) < (sizeD bs : Nat)) = true := decide_eq_true (by omega)
      obtain ⟨va, hva⟩ : ∃ va, va = (pc + bs.length) % 4294967296 := ⟨_, rfl⟩
      have hvl : va < 4294967296 := by omega
      have e1 : IntKind.u32.wrap (bs.length : Int) = bs.length := by simp [IntKind.wrap, IntKind.bits, IntKind.signed]; omega
      have e2 : IntKind.u32.wrap ((pc : Int) + bs.length) = (va : Nat) := by subst hva; simp [IntKind.wrap, IntKind.bits, IntKind.signed]
      have HVA := hidE hva
      clear hI hZ hva
      go_wp2_with fail
      cases ht : toL R M root ps va 1 with
      | none =>
        obtain rfl : (⟨5, va, in0, 0, f⟩ : Fetched) = Z := by
          have h := HZ.out
          rw [contD_none hlt (by rw [← HVA.out]; exact ht), ← HVA.out] at h
          exact h
        refine (d_to _ (HD.out.same HI.out.same) root ps va hr hp hvl).mono ?_
        rintro _ u1 ⟨rfl, hk⟩
        rw [ht]
        simp only [Option.getD_none, Option.isSome_none]
        have HI1 := hidE (HI.out.st hk)
        clear hk c0 c9 c10 HI ht
        go_wp2_with fail
        refine wp_region_ra [0, 1, 2, 3] [4, 5, 6, 7] 3 (S3 u1 (w.heap.size + 1 + 1 + 1) (w.heap.size + 1 + 1 + 1 + 1)) (by kernel_rfl) (by kernel_rfl) S3.same ⟨(Keeps.refl _ _).drew, by show (rowAt u1 _).size = _; rw [rowAt_of HI1.out.b3]; rfl, by show (rowAt u1 _).size = _; rw [rowAt_of HI1.out.b4]; rfl⟩ ?_
        simp only [opsOf, List.filterMap_cons, List.filterMap_nil, List.getElem?_cons_zero, List.getElem?_cons_succ]
        repeat (refine seqV_run (v := ?_) rfl (fun u hu => ?_) ?_; rotate_left; (focus (have d2 := cell_of (hu.k.get HI1.out.b2 (by omega)); clear hu; go_simp; first | done | with_reducible rfl)); (try simp only [Act.put, List.setIfInBounds_toArray, List.set_cons_zero, List.set_cons_succ]))
        refine seqV_nil ?_
        refine tail3 (iA := #[.int .u8 0, .int .u8 0, .int .u8 0, .int .i32 0]) (sB := #[.slice pf f.fr.length cf, .slice pt f.tb.length ct, .slice pp f.pg.length cp]) (v5 := .int .i64 0) (by omega) rfl rfl rfl (fun u hu => st_I hu.zA 0 0 0 0) rfl (fun u => rfl) rfl (fun u hu => st_S hu.zB _ _ _ rfl rfl rfl) (fun u hu hA hB => ?_)
        (try simp only [Act.put, List.setIfInBounds_toArray, List.set_cons_zero, List.set_cons_succ])
        obtain ⟨TA, hbA⟩ := row_blk hA (by simp)
        obtain ⟨TB, hbB⟩ := row_blk hB (by simp)
        have HbA := hidE hbA
        have HbB := hidE hbB
        have HU := hidE hu
        have b5 := hu.k.get HI1.out.b5 (by omega)
        have B5 := hidE b5
        have c5 := cell_of b5
        have f5 := frozen_of b5
        clear hu hA hB hbA hbB b5
        go_wp2
        have kF : Keeps (fun k => k = w.heap.size + 1 + 1 + 1 ∨ k = w.heap.size + 1 + 1 + 1 + 1 ∨ k = w.heap.size + 1 + 1 + 1 + 1 + 1) _ _ := Keeps.setCell (F := fun k => k = w.heap.size + 1 + 1 + 1 ∨ k = w.heap.size + 1 + 1 + 1 + 1 ∨ k = w.heap.size + 1 + 1 + 1 + 1 + 1) (p := ⟨w.heap.size + 1 + 1 + 1 + 1 + 1, 1, none⟩) (Keeps.setCell (F := fun k => k = w.heap.size + 1 + 1 + 1 ∨ k = w.heap.size + 1 + 1 + 1 + 1 ∨ k = w.heap.size + 1 + 1 + 1 + 1 + 1) (p := ⟨w.heap.size + 1 + 1 + 1 + 1 + 1, 0, none⟩) (HU.out.k.mono fun j _ h => h.elim .inl (fun h => .inr (.inl h))) (fun _ => .inr (.inr rfl)) (.int .i64 5)) (fun _ => .inr (.inr rfl)) (.int .u32 (va : Nat))
        exact bodyPost_ret (results_ctcc rfl rfl (block_other _ (block_other _ HbA.out (by simp only; omega)) (by simp only; omega)) Tryz.underlying67 rfl (by kernel_rfl) rfl (block_other _ (block_other _ HbB.out (by simp only; omega)) (by simp only; omega)) Tryz.underlying77 rfl (by kernel_rfl) rfl (block_set (block_set B5.out 0 _) 1 _) Tryz.underlying42 rfl (by kernel_rfl)) rfl
          ⟨_, _, _, by rfl, fe_row HI1.out HI1.out.rf (by decide) (by decide) (by decide) kF, fe_row HI1.out HI1.out.rt (by decide) (by decide) (by decide) kF, fe_row HI1.out HI1.out.rp (by decide) (by decide) (by decide) kF, same_then HI1.out.same kF (fun k hk => by omega), HFr.out⟩
      | some a =>
        have ha := toL_lt ht
        have hZ := HZ.out
        rw [contD_some hlt (by rw [← HVA.out]; exact ht), ← HVA.out] at hZ
        clear HZ
        have HZ := hidE hZ
        clear hZ
        refine (d_to _ (HD.out.same HI.out.same) root ps va hr hp hvl).mono ?_
        rintro _ u1 ⟨rfl, hk⟩
        rw [ht]
        simp only [Option.getD_some, Option.isSome_some]
        have hI1 := HI.out.st hk
        have HI1 := hidE hI1
        clear hk c0 c9 c10 HI ht hsz
        have hsz := hI1.size
        have c0 := cell_of hI1.b0
        have c10 := (cell_of hI1.b1 10).trans HS.out.e10
        have c9 := (cell_of hI1.b1 9).trans HS.out.e9
        simp only [docV] at c0
        have t1 : (ps : Int).tdiv 4 = (ps : Int) / 4 := by rw [Int.tdiv_eq_ediv_of_nonneg (by omega)]
        have t2 : IntKind.u32.wrap ((ps : Int) / 4) = (ps : Int) / 4 := by simp [IntKind.wrap, IntKind.bits, IntKind.signed]; omega
        have t3 : ((ps : Int) / 4).tmod 2 = (ps : Int) / 4 % 2 := by rw [Int.tmod_eq_emod_of_nonneg (by omega)]
        have t4 : IntKind.u32.wrap ((ps : Int) / 4 % 2) = (ps : Int) / 4 % 2 := by simp [IntKind.wrap, IntKind.bits, IntKind.signed]; omega
        have z1 : (a : Int).tdiv 64 = (a : Int) / 64 := by rw [Int.tdiv_eq_ediv_of_nonneg (by omega)]
        have z2 : IntKind.u32.wrap ((a : Int) / 64) = (a : Int) / 64 := by simp [IntKind.wrap, IntKind.bits, IntKind.signed]; omega
        have z3 := wrapI ((a : Int) / 64) (by omega) (by omega)
        have z4 : (va : Int).tdiv 64 = (va : Int) / 64 := by rw [Int.tdiv_eq_ediv_of_nonneg (by omega)]
        have z5 : IntKind.u32.wrap ((va : Int) / 64) = (va : Int) / 64 := by simp [IntKind.wrap, IntKind.bits, IntKind.signed]; omega
        clear hI1
        by_cases h4 : ps / 4 % 2 = 0
        · have t5 : ((ps : Int) / 4 % 2 == 1) = false := beq_eq_false_iff_ne.2 (by omega)
          have hZ := HZ.out
          rw [if_pos h4] at hZ
          clear HZ
          have HZ := hidE hZ
          clear hZ
          have HJ := HI1
          have hn := HJ.out.n6
          have c2 := cell_of HJ.out.b2
          go_wp2_with fail
          clear c0 c9 c10 c2
          refine (d_withInt _ _ _ _ HJ.out.rf HJ.out.q1 (by have := HJ.out.l1; omega)).mono ?_
          rintro _ u5 ⟨v5, rfl, hr5, hk5⟩
          obtain ⟨p5, k5, rfl⟩ := owns_sl hr5
          have HJ5 := hidE ((HJ.out.st hk5).setF hr5 (by omega))
          have c2 := cell_of (HJ.out.st hk5).b2
          have f2 := frozen_of (HJ.out.st hk5).b2
          have hn5 := HJ5.out.n6
          clear hr5 hk5 HJ
          go_wp2_with fail
          clear c2 f2
          refine (d_withPage _ _ _ _ HJ5.out.rp (by have := HJ5.out.l3; omega)).mono ?_
          rintro _ u6 ⟨v6, rfl, hr6, hk6, hfr6⟩
          have HFr6 := hidE (fun k hk => (hfr6 k hk).elim (HFr.out k) (fun h => .inr (Nat.le_trans HJ5.out.same.size h)))
          clear hfr6
          obtain ⟨p6, k6, rfl⟩ := owns_sl hr6
          have HJ6 := hidE ((HJ5.out.st hk6).setP hr6 (by omega))
          have c2 := cell_of (HJ5.out.st hk6).b2
          have f2 := frozen_of (HJ5.out.st hk6).b2
          have c0 := cell_of HJ6.out.b0
          simp only [docV] at c0
          clear hr6 hk6 HJ5
          go_wp2_with fail
          clear c2 f2 c0
          refine (d_byte_yes _ (HD.out.same HJ6.out.same) a (by omega) ha).mono ?_
          rintro _ u7 ⟨rfl, hk7⟩
          have HJ7 := hidE (HJ6.out.st hk7)
          have hx := HD.out.rng ha
          clear hk7 HJ6
          generalize R.get M a = x at *
          by_cases hb0 : bs = []
          · subst hb0
            have HO := hidE (of2_any x false hx.1 hx.2)
            rw [of2_form x false hx.1 hx.2] at HO
            have hfl := fld2 (formL x false).n (formL x false).m (decide ((formL x false).a = 1)) (decide ((formL x false).b = 1)) (decide ((formL x false).s = 1))
            have hfn := form_n0 x
            have HSD := hidE (show ((sizeD ([] ++ [x]) : Nat) : Int) = (formL x false).n by unfold sizeD; simp [headX]; omega)
            clear hfn
            generalize formL x false = F at *
            obtain ⟨fn, fa, fb, fm, fs⟩ := F
            simp only at HO hfl HSD
            go_wp2_with (at_builtin; (refine append_byte rfl (.tmp 93) (.tmp 95) rfl (w.heap.size + 1 + 1 + 1 + 1 + 1 + 1) _ [] rfl _ x rfl (HJ7.out.st ((Keeps.refl (fun _ => False) _).alloc (.cells #[.int .u8 x] 5))).rb (block_new _ _) (by simp) (by have := HJ7.out.size; simp; omega) ?_; intro vn wn hrn hkn; have HJ8 := hidE ((HJ7.out.st ((Keeps.refl (fun _ => False) _).alloc (.cells #[.int .u8 x] 5))).app hrn hkn hx); clear hrn hkn))
            refine (HO.out _).mono ?_
            rintro _ u8 ⟨rfl, hk8⟩
            have HJ9 := hidE (HJ8.out.st hk8)
            clear hk8
            go_wp2_with fail
            go_roundw
            case rel => exact ⟨[] ++ [x], _, _, _, _, feI_num HJ9.out (by simp only [List.length_append, List.length_cons, List.length_nil]; omega), HZ.out, by simp, by simp, by rw [HSD.out], HFr6.out⟩
            case measure => simp [intOf]
          · have hl0 : bs.length ≠ 0 := fun e => hb0 (List.length_eq_zero_iff.1 e)
            have e9 : ((bs.length : Int) == 0) = false := beq_eq_false_iff_ne.2 (by omega)
            have HSD := hidE (show sizeD (bs ++ [x]) = sizeD bs by unfold sizeD; rw [if_neg hb0, if_neg (by simp), headX_app hb0])
            go_wp2_with (at_builtin; (refine append_byte rfl (.tmp 93) (.tmp 95) rfl (w.heap.size + 1 + 1 + 1 + 1 + 1 + 1) _ bs rfl _ x rfl (HJ7.out.st ((Keeps.refl (fun _ => False) _).alloc (.cells #[.int .u8 x] 5))).rb (block_new _ _) (by omega) (by have := HJ7.out.size; simp; omega) ?_; intro vn wn hrn hkn; have HJ8 := hidE ((HJ7.out.st ((Keeps.refl (fun _ => False) _).alloc (.cells #[.int .u8 x] 5))).app hrn hkn hx); clear hrn hkn))
            go_roundw
            case rel => exact ⟨bs ++ [x], _, _, _, _, feI_num HJ8.out (by simp only [List.length_append, List.length_cons, List.length_nil]; omega), HZ.out, by simp; omega, by simp, by rw [HSD.out], HFr6.out⟩
            case measure => simp only [intOf]; omega
        · have t5 : ((ps : Int) / 4 % 2 == 1) = true := beq_iff_eq.2 (by omega)
          have hZ := HZ.out
          rw [if_neg h4] at hZ
          clear HZ
          have HZ := hidE hZ
          clear hZ
          go_wp2_with fail
          refine (d_look _ (HD.out.same HI1.out.same) root va hr hvl).mono ?_
          rintro _ u2 ⟨rfl, hk⟩
          generalize (lookL R M root va).getD way0 = x at *
          obtain ⟨xb, xa, xe, xd, xt, xp⟩ := x
          simp only at HZ
          simp only [wayA]
          have HI2 := hidE ((HI1.out.st hk).st ((Keeps.refl _ _).alloc (.cells #[.int .u32 (xb : Nat), .int .u32 (xa : Nat), .int .u32 (xe : Nat), .int .i64 (xd : Nat), .int .i64 (xt : Nat), .int .i64 (xp : Nat)] 143)))
          clear hk HI1 c0 c9 c10
          have hl2 := HI2.out.l2
          have hn2 := HI2.out.n6
          go_wp2_with fail
          refine wp_region_ra [0, 1, 2, 3, 5, 6] [4, 7, 8, 9] 2 (Same _) (by kernel_rfl) (by kernel_rfl) (fun u u' h k => Keeps.trans h k) (Keeps.refl _ _).drew ?_
          simp only [opsOf, List.filterMap_cons, List.filterMap_nil, List.getElem?_cons_zero, List.getElem?_cons_succ]
          repeat (refine seqV_run (v := ?_) rfl (fun u hu => ?_) ?_; rotate_left; (focus (have d2 := cell_of (HI2.out.st hu).b2; have dW := cell_of (hu.get (block_new _ _) id); clear hu; go_simp; first | done | with_reducible rfl)); (try simp only [Act.put, List.setIfInBounds_toArray, List.set_cons_zero, List.set_cons_succ]))
          refine seqV_nil ?_
          have hq3 := length_putL_le f.tb (xd : Nat)
          have hq4 := length_putL_le (putL f.tb (xd : Nat)) (xt : Nat)
          refine tailR_cons (fun v u => rowI u 0 v (putL f.tb (xd : Nat))) rfl (fun v u u' h k => owns_S h k) (fun u hu _ => ?_) (fun v1 hv1 => ?_)
          · refine stepR_call (w' := u) (f := 53) (args := #[.slice pt f.tb.length ct, .int .i64 (xd : Nat)]) (by go_simp) ?_
            exact (d_withInt u _ f.tb (xd : Nat) (HI2.out.st hu).rt HI2.out.q2 (by omega)).mono fun e w' h => by
              obtain ⟨v', rfl, hr, hk⟩ := h
              exact ⟨v', rfl, Keeps.trans hu hk, hr⟩
          (try simp only [Act.put, List.setIfInBounds_toArray, List.set_cons_zero, List.set_cons_succ])
          obtain ⟨_, _, hv1⟩ := hv1
          obtain ⟨p1, k1, rfl⟩ := owns_sl hv1
          clear hv1
          refine tailR_cons (fun v u => rowI u 0 v (putL (putL f.tb (xd : Nat)) (xt : Nat))) rfl (fun v u u' h k => owns_S h k) (fun u hu hrow => ?_) (fun v2 hv2 => ?_)
          · refine stepR_call (w' := u) (f := 53) (args := #[.slice p1 (putL f.tb (xd : Nat)).length k1, .int .i64 (xt : Nat)]) (by go_simp) ?_
            exact (d_withInt u _ _ (xt : Nat) hrow (rising_putL HI2.out.q2 _) (by omega)).mono fun e w' h => by
              obtain ⟨v', rfl, hr, hk⟩ := h
              exact ⟨v', rfl, Keeps.trans hu hk, hr⟩
          (try simp only [Act.put, List.setIfInBounds_toArray, List.set_cons_zero, List.set_cons_succ])
          obtain ⟨_, _, hv2⟩ := hv2
          obtain ⟨p2, k2, rfl⟩ := owns_sl hv2
          clear hv2
          refine tailR_zero fun u4 hu hr2 => ?_
          have HJ := hidE ((HI2.out.st hu).setT hr2 (rising_putL (rising_putL HI2.out.q2 _) _) (by omega) (by omega))
          have c2 := cell_of (HI2.out.st hu).b2
          have f2 := frozen_of (HI2.out.st hu).b2
          have hn := HJ.out.n6
          clear hu hr2
          go_wp2_with fail
          clear c2 f2
          refine (d_withInt _ _ _ _ HJ.out.rf HJ.out.q1 (by have := HJ.out.l1; omega)).mono ?_
          rintro _ u5 ⟨v5, rfl, hr5, hk5⟩
          obtain ⟨p5, k5, rfl⟩ := owns_sl hr5
          have HJ5 := hidE ((HJ.out.st hk5).setF hr5 (by omega))
          have c2 := cell_of (HJ.out.st hk5).b2
          have f2 := frozen_of (HJ.out.st hk5).b2
          have hn5 := HJ5.out.n6
          clear hr5 hk5 HJ
          go_wp2_with fail
          clear c2 f2
          refine (d_withPage _ _ _ _ HJ5.out.rp (by have := HJ5.out.l3; omega)).mono ?_
          rintro _ u6 ⟨v6, rfl, hr6, hk6, hfr6⟩
          have HFr6 := hidE (fun k hk => (hfr6 k hk).elim (HFr.out k) (fun h => .inr (Nat.le_trans HJ5.out.same.size h)))
          clear hfr6
          obtain ⟨p6, k6, rfl⟩ := owns_sl hr6
          have HJ6 := hidE ((HJ5.out.st hk6).setP hr6 (by omega))
          have c2 := cell_of (HJ5.out.st hk6).b2
          have f2 := frozen_of (HJ5.out.st hk6).b2
          have c0 := cell_of HJ6.out.b0
          simp only [docV] at c0
          clear hr6 hk6 HJ5
          go_wp2_with fail
          clear c2 f2 c0
          refine (d_byte_yes _ (HD.out.same HJ6.out.same) a (by omega) ha).mono ?_
          rintro _ u7 ⟨rfl, hk7⟩
          have HJ7 := hidE (HJ6.out.st hk7)
          have hx := HD.out.rng ha
          clear hk7 HJ6
          generalize R.get M a = x at *
          by_cases hb0 : bs = []
          · subst hb0
            have HO := hidE (of2_any x false hx.1 hx.2)
            rw [of2_form x false hx.1 hx.2] at HO
            have hfl := fld2 (formL x false).n (formL x false).m (decide ((formL x false).a = 1)) (decide ((formL x false).b = 1)) (decide ((formL x false).s = 1))
            have hfn := form_n0 x
            have HSD := hidE (show ((sizeD ([] ++ [x]) : Nat) : Int) = (formL x false).n by unfold sizeD; simp [headX]; omega)
            clear hfn
            generalize formL x false = F at *
            obtain ⟨fn, fa, fb, fm, fs⟩ := F
            simp only at HO hfl HSD
            go_wp2_with (at_builtin; (refine append_byte rfl (.tmp 93) (.tmp 95) rfl (w.heap.size + 1 + 1 + 1 + 1 + 1 + 1) _ [] rfl _ x rfl (HJ7.out.st ((Keeps.refl (fun _ => False) _).alloc (.cells #[.int .u8 x] 5))).rb (block_new _ _) (by simp) (by have := HJ7.out.size; simp; omega) ?_; intro vn wn hrn hkn; have HJ8 := hidE ((HJ7.out.st ((Keeps.refl (fun _ => False) _).alloc (.cells #[.int .u8 x] 5))).app hrn hkn hx); clear hrn hkn))
            refine (HO.out _).mono ?_
            rintro _ u8 ⟨rfl, hk8⟩
            have HJ9 := hidE (HJ8.out.st hk8)
            clear hk8
            go_wp2_with fail
            go_roundw
            case rel => exact ⟨[] ++ [x], _, _, _, _, feI_num HJ9.out (by simp only [List.length_append, List.length_cons, List.length_nil]; omega), HZ.out, by simp, by simp, by rw [HSD.out], HFr6.out⟩
            case measure => simp [intOf]
          · have hl0 : bs.length ≠ 0 := fun e => hb0 (List.length_eq_zero_iff.1 e)
            have e9 : ((bs.length : Int) == 0) = false := beq_eq_false_iff_ne.2 (by omega)
            have HSD := hidE (show sizeD (bs ++ [x]) = sizeD bs by unfold sizeD; rw [if_neg hb0, if_neg (by simp), headX_app hb0])
            go_wp2_with (at_builtin; (refine append_byte rfl (.tmp 93) (.tmp 95) rfl (w.heap.size + 1 + 1 + 1 + 1 + 1 + 1) _ bs rfl _ x rfl (HJ7.out.st ((Keeps.refl (fun _ => False) _).alloc (.cells #[.int .u8 x] 5))).rb (block_new _ _) (by omega) (by have := HJ7.out.size; simp; omega) ?_; intro vn wn hrn hkn; have HJ8 := hidE ((HJ7.out.st ((Keeps.refl (fun _ => False) _).alloc (.cells #[.int .u8 x] 5))).app hrn hkn hx); clear hrn hkn))
            go_roundw
            case rel => exact ⟨bs ++ [x], _, _, _, _, feI_num HJ8.out (by simp only [List.length_append, List.length_cons, List.length_nil]; omega), HZ.out, by simp; omega, by simp, by rw [HSD.out], HFr6.out⟩
            case measure => simp only [intOf]; omega
    · have p0 : decide ((bs.length : Int) < (sizeD bs : Nat)) = false := decide_eq_false (by omega)
      have hZ := HZ.out
      rw [contD_done hlt] at hZ
      have HZ := hidE hZ
      clear hI hZ
      obtain ⟨gb, hgb⟩ : ∃ X : Nat → Int, X = (fun k => bs.getD k 0) := ⟨_, rfl⟩
      have hby : BySz _ pb bs.length (fun k => bs.getD k 0) := bySz_of HI.out.rb HI.out.by8
      have HBy := hidE hby
      clear hby
      go_wp2_with fail
      refine (d_decode pb bs.length cb _ _ (by omega) HBy.out).mono ?_
      rintro _ u1 ⟨rfl, hk⟩
      have hZ := HZ.out
      unfold decR at hZ
      have hs1 := HI.out.same.size
      generalize decL (fun k => bs.getD k 0) bs.length false = D at *
      obtain ⟨⟨io, ia, ib, im⟩, sz, cc⟩ := D
      simp only at hZ
      simp only [decV, inA]
      have HI1 := hidE ((HI.out.st hk).st ((Keeps.refl _ _).alloc (.cells #[.int .u8 io, .int .u8 ia, .int .u8 ib, .int .i32 im] 67)))
      have HU1 := hidE (HI.out.st hk).size
      have BN := hidE (block_new u1 (.cells #[.int .u8 io, .int .u8 ia, .int .u8 ib, .int .i32 im] 67))
      clear hk HI HZ HBy c0 c9 c10
      by_cases hc : cc = 0
      · rw [if_neg (by simpa using hc)] at hZ
        subst hZ hc
        go_wp2_with fail
        refine wp_region_ra [0, 1, 2, 3] [4, 5, 6, 7] 3 (S3 _ (w.heap.size + 1 + 1 + 1) (w.heap.size + 1 + 1 + 1 + 1)) (by kernel_rfl) (by kernel_rfl) S3.same ⟨(Keeps.refl _ _).drew, by show (rowAt (u1.alloc _) _).size = _; rw [rowAt_of HI1.out.b3]; rfl, by show (rowAt (u1.alloc _) _).size = _; rw [rowAt_of HI1.out.b4]; rfl⟩ ?_
        simp only [opsOf, List.filterMap_cons, List.filterMap_nil, List.getElem?_cons_zero, List.getElem?_cons_succ]
        repeat (refine seqV_run (v := ?_) rfl (fun u hu => ?_) ?_; rotate_left; (focus (have d2 := cell_of (hu.k.get HI1.out.b2 (by omega)); have d3 := cell_of (hu.k.get BN.out (by have := HU1.out; omega)); clear hu; go_simp; first | done | with_reducible rfl)); (try simp only [Act.put, List.setIfInBounds_toArray, List.set_cons_zero, List.set_cons_succ]))
        refine seqV_nil ?_
        refine tail3 (iA := #[.int .u8 io, .int .u8 ia, .int .u8 ib, .int .i32 im]) (sB := #[.slice pf f.fr.length cf, .slice pt f.tb.length ct, .slice pp f.pg.length cp]) (v5 := .int .i64 sz) (by omega) rfl rfl rfl (fun u hu => st_I hu.zA io ia ib im) rfl (fun u => rfl) rfl (fun u hu => st_S hu.zB _ _ _ rfl rfl rfl) (fun u hu hA hB => ?_)
        (try simp only [Act.put, List.setIfInBounds_toArray, List.set_cons_zero, List.set_cons_succ])
        obtain ⟨TA, hbA⟩ := row_blk hA (by simp)
        obtain ⟨TB, hbB⟩ := row_blk hB (by simp)
        have HbA := hidE hbA
        have HbB := hidE hbB
        have HU := hidE hu
        have b5 := hu.k.get HI1.out.b5 (by omega)
        have B5 := hidE b5
        have c5 := cell_of b5
        have f5 := frozen_of b5
        clear hu hA hB hbA hbB b5
        go_wp2
        have kF : Keeps (fun k => k = w.heap.size + 1 + 1 + 1 ∨ k = w.heap.size + 1 + 1 + 1 + 1 ∨ k = w.heap.size + 1 + 1 + 1 + 1 + 1) _ _ := Keeps.setCell (F := fun k => k = w.heap.size + 1 + 1 + 1 ∨ k = w.heap.size + 1 + 1 + 1 + 1 ∨ k = w.heap.size + 1 + 1 + 1 + 1 + 1) (p := ⟨w.heap.size + 1 + 1 + 1 + 1 + 1, 1, none⟩) (Keeps.setCell (F := fun k => k = w.heap.size + 1 + 1 + 1 ∨ k = w.heap.size + 1 + 1 + 1 + 1 ∨ k = w.heap.size + 1 + 1 + 1 + 1 + 1) (p := ⟨w.heap.size + 1 + 1 + 1 + 1 + 1, 0, none⟩) (HU.out.k.mono fun j _ h => h.elim .inl (fun h => .inr (.inl h))) (fun _ => .inr (.inr rfl)) (.int .i64 0)) (fun _ => .inr (.inr rfl)) (.int .u32 0)
        exact bodyPost_ret (results_ctcc rfl rfl (block_other _ (block_other _ HbA.out (by simp only; omega)) (by simp only; omega)) Tryz.underlying67 rfl (by kernel_rfl) rfl (block_other _ (block_other _ HbB.out (by simp only; omega)) (by simp only; omega)) Tryz.underlying77 rfl (by kernel_rfl) rfl (block_set (block_set B5.out 0 _) 1 _) Tryz.underlying42 rfl (by kernel_rfl)) rfl
          ⟨_, _, _, by rfl, fe_row HI1.out HI1.out.rf (by decide) (by decide) (by decide) kF, fe_row HI1.out HI1.out.rt (by decide) (by decide) (by decide) kF, fe_row HI1.out HI1.out.rp (by decide) (by decide) (by decide) kF, same_then HI1.out.same kF (fun k hk => by omega), HFr.out⟩
      · rw [if_pos (by simpa using hc)] at hZ
        subst hZ
        have q2 : (cc != 0) = true := by simpa using hc
        go_wp2_with fail
        refine wp_region_ra [0, 1, 2, 3] [4, 5, 6, 7] 3 (S3 _ (w.heap.size + 1 + 1 + 1) (w.heap.size + 1 + 1 + 1 + 1)) (by kernel_rfl) (by kernel_rfl) S3.same ⟨(Keeps.refl _ _).drew, by show (rowAt (u1.alloc _) _).size = _; rw [rowAt_of HI1.out.b3]; rfl, by show (rowAt (u1.alloc _) _).size = _; rw [rowAt_of HI1.out.b4]; rfl⟩ ?_
        simp only [opsOf, List.filterMap_cons, List.filterMap_nil, List.getElem?_cons_zero, List.getElem?_cons_succ]
        repeat (refine seqV_run (v := ?_) rfl (fun u hu => ?_) ?_; rotate_left; (focus (have d2 := cell_of (hu.k.get HI1.out.b2 (by omega)); clear hu; go_simp; first | done | with_reducible rfl)); (try simp only [Act.put, List.setIfInBounds_toArray, List.set_cons_zero, List.set_cons_succ]))
        refine seqV_nil ?_
        refine tail3 (iA := #[.int .u8 0, .int .u8 0, .int .u8 0, .int .i32 0]) (sB := #[.slice pf f.fr.length cf, .slice pt f.tb.length ct, .slice pp f.pg.length cp]) (v5 := .int .i64 0) (by omega) rfl rfl rfl (fun u hu => st_I hu.zA 0 0 0 0) rfl (fun u => rfl) rfl (fun u hu => st_S hu.zB _ _ _ rfl rfl rfl) (fun u hu hA hB => ?_)
        (try simp only [Act.put, List.setIfInBounds_toArray, List.set_cons_zero, List.set_cons_succ])
        obtain ⟨TA, hbA⟩ := row_blk hA (by simp)
        obtain ⟨TB, hbB⟩ := row_blk hB (by simp)
        have HbA := hidE hbA
        have HbB := hidE hbB
        have HU := hidE hu
        have b5 := hu.k.get HI1.out.b5 (by omega)
        have B5 := hidE b5
        have c5 := cell_of b5
        have f5 := frozen_of b5
        clear hu hA hB hbA hbB b5
        go_wp2
        have kF : Keeps (fun k => k = w.heap.size + 1 + 1 + 1 ∨ k = w.heap.size + 1 + 1 + 1 + 1 ∨ k = w.heap.size + 1 + 1 + 1 + 1 + 1) _ _ := Keeps.setCell (F := fun k => k = w.heap.size + 1 + 1 + 1 ∨ k = w.heap.size + 1 + 1 + 1 + 1 ∨ k = w.heap.size + 1 + 1 + 1 + 1 + 1) (p := ⟨w.heap.size + 1 + 1 + 1 + 1 + 1, 1, none⟩) (Keeps.setCell (F := fun k => k = w.heap.size + 1 + 1 + 1 ∨ k = w.heap.size + 1 + 1 + 1 + 1 ∨ k = w.heap.size + 1 + 1 + 1 + 1 + 1) (p := ⟨w.heap.size + 1 + 1 + 1 + 1 + 1, 0, none⟩) (HU.out.k.mono fun j _ h => h.elim .inl (fun h => .inr (.inl h))) (fun _ => .inr (.inr rfl)) (.int .i64 1)) (fun _ => .inr (.inr rfl)) (.int .u32 (pc : Nat))
        exact bodyPost_ret (results_ctcc rfl rfl (block_other _ (block_other _ HbA.out (by simp only; omega)) (by simp only; omega)) Tryz.underlying67 rfl (by kernel_rfl) rfl (block_other _ (block_other _ HbB.out (by simp only; omega)) (by simp only; omega)) Tryz.underlying77 rfl (by kernel_rfl) rfl (block_set (block_set B5.out 0 _) 1 _) Tryz.underlying42 rfl (by kernel_rfl)) rfl
          ⟨_, _, _, by rfl, fe_row HI1.out HI1.out.rf (by decide) (by decide) (by decide) kF, fe_row HI1.out HI1.out.rt (by decide) (by decide) (by decide) kF, fe_row HI1.out HI1.out.rp (by decide) (by decide) (by decide) kF, same_then HI1.out.same kF (fun k hk => by omega), HFr.out⟩
end Go.Proofs.YtjkjnomhggmplaaGreat
namespace Go.Proofs.YtjkjnomhggmplaaGreat
open Go.RowKit
attribute [local go_sem ↓] Go.wp_at_zero Go.wp_at_succ

/-- Scan under way: the block so far, the row of pages. -/
structure SdI (w wr : World) (R : RamAt) (M : List Int) (g : Nat) (S : Array Value) (vi va vf vt vp : Value) (ins : List In) (at_ fr tb qg : List Int) : Prop where
  b0 : wr.heap[w.heap.size]? = some (.cells (docV R g) 34 (0, 0))
  b1 : wr.heap[w.heap.size + 1]? = some (.cells S 28 (0, 0))
  b2 : wr.heap[w.heap.size + 1 + 1]? = some (.cells #[.slice none 0 0, .slice none 0 0, .int .u32 0, .int .u32 0, .int .i64 0, .slice none 0 0, .slice none 0 0] 40 (0, 0))
  b3 : wr.heap[w.heap.size + 1 + 1 + 1]? = some (.cells #[.int .i64 0, .int .u32 0] 42 (0, 0))
  b4 : wr.heap[w.heap.size + 1 + 1 + 1 + 1]? = some (.cells #[vi, va, .int .u32 0, .int .u32 0, .int .i64 1, .slice none 0 0, .slice none 0 0] 40 (0, 0))
  b5 : wr.heap[w.heap.size + 1 + 1 + 1 + 1 + 1]? = some (.cells #[vf, vt, vp] 77 (0, 0))
  ri : rowN wr (w.heap.size + 1 + 1 + 1 + 1 + 1 + 1) vi ins
  ra : rowU wr (w.heap.size + 1 + 1 + 1 + 1 + 1 + 1) va at_
  rf : rowI wr 0 vf fr
  rt : rowI wr 0 vt tb
  rp : rowU wr 0 vp qg
  ap : ∀ k, some k = va.ownBlock → some k ≠ vp.ownBlock
  same : Same w wr
section
variable {w wr u : World} {R : RamAt} {M : List Int} {g : Nat} {S : Array Value} {vi va vf vt vp : Value} {ins : List In} {at_ fr tb qg : List Int}
theorem SdI.st (h : SdI w wr R M g S vi va vf vt vp ins at_ fr tb qg) (k : Same wr u) : SdI w u R M g S vi va vf vt vp ins at_ fr tb qg :=
  ⟨k.get h.b0 id, k.get h.b1 id, k.get h.b2 id, k.get h.b3 id, k.get h.b4 id, k.get h.b5 id, owns_S h.ri k, owns_S h.ra k, owns_S h.rf k, owns_S h.rt k, owns_S h.rp k, h.ap, h.same.trans k⟩
theorem SdI.size (h : SdI w wr R M g S vi va vf vt vp ins at_ fr tb qg) : w.heap.size + 1 + 1 + 1 + 1 + 1 < wr.heap.size := lt_of_block h.b5
/-- The sets are laid. -/
theorem SdI.sets (h : SdI w wr R M g S vi va vf vt vp ins at_ fr tb qg) {vf' vt' vp' : Value} {fr' tb' qg' : List Int} (h1 : rowI wr 0 vf' fr') (h2 : rowI wr 0 vt' tb') (h3 : rowU wr 0 vp' qg') (ha : ∀ k, some k = va.ownBlock → some k ≠ vp'.ownBlock) :
    SdI w (((wr.setCell ⟨w.heap.size + 1 + 1 + 1 + 1 + 1, 0, none⟩ vf').setCell ⟨w.heap.size + 1 + 1 + 1 + 1 + 1, 1, none⟩ vt').setCell ⟨w.heap.size + 1 + 1 + 1 + 1 + 1, 2, none⟩ vp') R M g S vi va vf' vt' vp' ins at_ fr' tb' qg' := by
  have k : Keeps (fun k => k = w.heap.size + 1 + 1 + 1 + 1 + 1) wr (((wr.setCell ⟨w.heap.size + 1 + 1 + 1 + 1 + 1, 0, none⟩ vf').setCell ⟨w.heap.size + 1 + 1 + 1 + 1 + 1, 1, none⟩ vt').setCell ⟨w.heap.size + 1 + 1 + 1 + 1 + 1, 2, none⟩ vp') :=
    Keeps.setCell (F := fun k => k = w.heap.size + 1 + 1 + 1 + 1 + 1) (p := ⟨w.heap.size + 1 + 1 + 1 + 1 + 1, 2, none⟩) (Keeps.setCell (F := fun k => k = w.heap.size + 1 + 1 + 1 + 1 + 1) (p := ⟨w.heap.size + 1 + 1 + 1 + 1 + 1, 1, none⟩) (Keeps.setCell (F := fun k => k = w.heap.size + 1 + 1 + 1 + 1 + 1) (p := ⟨w.heap.size + 1 + 1 + 1 + 1 + 1, 0, none⟩) (Keeps.refl _ _) (fun _ => rfl) _) (fun _ => rfl) _) (fun _ => rfl) _
  exact ⟨k.get h.b0 (by omega), k.get h.b1 (by omega), k.get h.b2 (by omega), k.get h.b3 (by omega), k.get h.b4 (by omega), block_set (block_set (block_set h.b5 0 _) 1 _) 2 _,
    owns_box h.ri h.b5 (by decide) k, owns_box h.ra h.b5 (by decide) k, owns_box h1 h.b5 (by decide) k, owns_box h2 h.b5 (by decide) k, owns_box h3 h.b5 (by decide) k, ha, same_then h.same k (fun j hj => by omega)⟩
theorem SdI.setK (h : SdI w wr R M g S vi va vf vt vp ins at_ fr tb qg) (vf' vt' vp' : Value) : Keeps (fun k => k = w.heap.size + 1 + 1 + 1 + 1 + 1) wr (((wr.setCell ⟨w.heap.size + 1 + 1 + 1 + 1 + 1, 0, none⟩ vf').setCell ⟨w.heap.size + 1 + 1 + 1 + 1 + 1, 1, none⟩ vt').setCell ⟨w.heap.size + 1 + 1 + 1 + 1 + 1, 2, none⟩ vp') :=
  have _ := h.size
  Keeps.setCell (F := fun k => k = w.heap.size + 1 + 1 + 1 + 1 + 1) (p := ⟨w.heap.size + 1 + 1 + 1 + 1 + 1, 2, none⟩) (Keeps.setCell (F := fun k => k = w.heap.size + 1 + 1 + 1 + 1 + 1) (p := ⟨w.heap.size + 1 + 1 + 1 + 1 + 1, 1, none⟩) (Keeps.setCell (F := fun k => k = w.heap.size + 1 + 1 + 1 + 1 + 1) (p := ⟨w.heap.size + 1 + 1 + 1 + 1 + 1, 0, none⟩) (Keeps.refl _ _) (fun _ => rfl) _) (fun _ => rfl) _) (fun _ => rfl) _
theorem SdI.insB {o : Obj} {v : Value} (h : SdI w wr R M g S vi va vf vt vp ins at_ fr tb qg) (hg : GrewS (wr.alloc o) u vi v) : u.heap[w.heap.size + 1 + 1 + 1 + 1]? = some (.cells #[vi, va, .int .u32 0, .int .u32 0, .int .i64 1, .slice none 0 0, .slice none 0 0] 40 (0, 0)) :=
  have h := h.st ((Keeps.refl (fun _ => False) wr).alloc o)
  hg.keeps.get h.b4 (fun e => by have := (owns_lt h.ri _ e).1; omega)
theorem SdI.atB {o : Obj} {v : Value} (h : SdI w wr R M g S vi va vf vt vp ins at_ fr tb qg) (hg : GrewS (wr.alloc o) u va v) : u.heap[w.heap.size + 1 + 1 + 1 + 1]? = some (.cells #[vi, va, .int .u32 0, .int .u32 0, .int .i64 1, .slice none 0 0, .slice none 0 0] 40 (0, 0)) :=
  have h := h.st ((Keeps.refl (fun _ => False) wr).alloc o)
  hg.keeps.get h.b4 (fun e => by have := (owns_lt h.ra _ e).1; omega)
theorem SdI.insA {o : Obj} {v : Value} {i : In} (h : SdI w wr R M g S vi va vf vt vp ins at_ fr tb qg) (hr : rowN u (w.heap.size + 1 + 1 + 1 + 1 + 1 + 1) v (ins ++ [i])) (hg : GrewS (wr.alloc o) u vi v) :
    SdI w (u.setCell ⟨w.heap.size + 1 + 1 + 1 + 1, 0, none⟩ v) R M g S v va vf vt vp (ins ++ [i]) at_ fr tb qg := by
  have h := h.st ((Keeps.refl (fun _ => False) wr).alloc o)
  have k0 := hg.keeps
  have hne : ∀ j, some j = vi.ownBlock → w.heap.size + 1 + 1 + 1 + 1 + 1 + 1 ≤ j := fun j hj => (owns_lt h.ri j hj).1
  have b4 := k0.get h.b4 (fun e => by have := hne _ e; omega)
  have k : Keeps (fun k => k = w.heap.size + 1 + 1 + 1 + 1) u (u.setCell ⟨w.heap.size + 1 + 1 + 1 + 1, 0, none⟩ v) := Keeps.setCell (F := fun k => k = w.heap.size + 1 + 1 + 1 + 1) (p := ⟨w.heap.size + 1 + 1 + 1 + 1, 0, none⟩) (Keeps.refl _ _) (fun _ => rfl) _
  refine ⟨k.get (k0.get h.b0 (fun e => by have := hne _ e; omega)) (by omega), k.get (k0.get h.b1 (fun e => by have := hne _ e; omega)) (by omega), k.get (k0.get h.b2 (fun e => by have := hne _ e; omega)) (by omega), k.get (k0.get h.b3 (fun e => by have := hne _ e; omega)) (by omega), block_set b4 0 _,
    k.get (k0.get h.b5 (fun e => by have := hne _ e; omega)) (by omega), owns_box hr b4 (by decide) k, owns_box (owns_stay h.ra k0 fun j e1 e2 => owns_apart h.ra h.ri (by decide) j e1 e2) b4 (by decide) k, owns_box (owns_stay h.rf k0 fun j e1 e2 => owns_apart h.rf h.ri (by decide) j e1 e2) b4 (by decide) k,
    owns_box (owns_stay h.rt k0 fun j e1 e2 => owns_apart h.rt h.ri (by decide) j e1 e2) b4 (by decide) k, owns_box (owns_stay h.rp k0 fun j e1 e2 => owns_apart h.rp h.ri (by decide) j e1 e2) b4 (by decide) k, h.ap,
    same_then (same_then h.same k0 (fun j hj => by have := hne _ hj; omega)) k (fun j hj => by omega)⟩
theorem SdI.atA {o : Obj} {v : Value} {y : Int} (h : SdI w wr R M g S vi va vf vt vp ins at_ fr tb qg) (hr : rowU u (w.heap.size + 1 + 1 + 1 + 1 + 1 + 1) v (at_ ++ [y])) (hg : GrewS (wr.alloc o) u va v) :
    SdI w (u.setCell ⟨w.heap.size + 1 + 1 + 1 + 1, 1, none⟩ v) R M g S vi v vf vt vp ins (at_ ++ [y]) fr tb qg := by
  have h := h.st ((Keeps.refl (fun _ => False) wr).alloc o)
  have k0 := hg.keeps
  have hne : ∀ j, some j = va.ownBlock → w.heap.size + 1 + 1 + 1 + 1 + 1 + 1 ≤ j := fun j hj => (owns_lt h.ra j hj).1
  have b4 := k0.get h.b4 (fun e => by have := hne _ e; omega)
  have k : Keeps (fun k => k = w.heap.size + 1 + 1 + 1 + 1) u (u.setCell ⟨w.heap.size + 1 + 1 + 1 + 1, 1, none⟩ v) := Keeps.setCell (F := fun k => k = w.heap.size + 1 + 1 + 1 + 1) (p := ⟨w.heap.size + 1 + 1 + 1 + 1, 1, none⟩) (Keeps.refl _ _) (fun _ => rfl) _
  refine ⟨k.get (k0.get h.b0 (fun e => by have := hne _ e; omega)) (by omega), k.get (k0.get h.b1 (fun e => by have := hne _ e; omega)) (by omega), k.get (k0.get h.b2 (fun e => by have := hne _ e; omega)) (by omega), k.get (k0.get h.b3 (fun e => by have := hne _ e; omega)) (by omega), block_set b4 1 _,
    k.get (k0.get h.b5 (fun e => by have := hne _ e; omega)) (by omega), owns_box (owns_stay h.ri k0 fun j e1 e2 => owns_apart h.ri h.ra (by decide) j e1 e2) b4 (by decide) k, owns_box hr b4 (by decide) k, owns_box (owns_stay h.rf k0 fun j e1 e2 => owns_apart h.rf h.ra (by decide) j e1 e2) b4 (by decide) k,
    owns_box (owns_stay h.rt k0 fun j e1 e2 => owns_apart h.rt h.ra (by decide) j e1 e2) b4 (by decide) k, owns_box (owns_stay h.rp k0 fun j e1 e2 => h.ap j e2 e1) b4 (by decide) k, fun j e1 e2 => ?_,
    same_then (same_then h.same k0 (fun j hj => by have := hne _ hj; omega)) k (fun j hj => by omega)⟩
  rcases hg.fresh j e1 with e | e
  · exact h.ap j e e2
  · have := (owns_lt h.rp j e2).2
    omega
end
/-- What Scan gives. -/
def SdPost (w : World) (Z : Scanned) (e : Ending) (w' : World) : Prop :=
  ∃ vi va vf vt, e = .returned (.tuple #[.agg #[vi, va, .int .u32 (Z.b.next : Nat), .int .u32 (Z.b.to : Nat), .int .i64 Z.b.en, vf, vt], .agg #[.int .i64 Z.c, .int .u32 (Z.a : Nat)]]) ∧ rowN w' 0 vi Z.b.ins ∧ rowU w' 0 va Z.b.at_ ∧ rowI w' 0 vf Z.b.fr ∧ rowI w' 0 vt Z.b.tb ∧ Same w w'
theorem of3Shape (op : Int) : ∃ n0 b1 b2 b3 b4 b5 b6 b7 b8 b9, of3Val op = #[.int .i64 n0, .bool b1, .bool b2, .bool b3, .bool b4, .bool b5, .bool b6, .bool b7, .bool b8, .bool b9, .bool (ending3 op)] := by
  obtain ⟨n0, b1, b2, b3, b4, b5, b6, b7, b8, b9, b10, h⟩ := rowShape op
  refine ⟨n0, b1, b2, b3, b4, b5, b6, b7, b8, b9, ?_⟩
  unfold of3Val
  rw [h]
  rfl
theorem fld3 (n0 : Int) (b1 b2 b3 b4 b5 b6 b7 b8 b9 e : Bool) (w : World) : (Instr.field 81 (.agg #[.int .i64 n0, .bool b1, .bool b2, .bool b3, .bool b4, .bool b5, .bool b6, .bool b7, .bool b8, .bool b9, .bool e]) 10).run Tryz.prog w = .ok (.bool e) w := by kernel_rfl
theorem ld_Bv {w : World} {g : Nat} {A : Array Value} (hb : w.heap[g]? = some (.cells A 40 (0, 0))) (hA : A.size = 7) : (ldRow 40 (.pointer (some ⟨g, 0, none⟩))).run Tryz.prog w = .ok (.value (.agg A)) w := by
  have h := ldRow_run (P := Tryz.prog) w 40 g 6 _ Tryz.underlying40 rfl (by kernel_rfl) (by rw [rowAt_of hb, hA])
  rw [rowAt_of hb] at h
  exact h
theorem st_Bv {w : World} {g : Nat} (hz : (rowAt w g).size = 6 + 1) {x0 x1 x2 x3 x4 x5 x6 : Value} (h : Ones #[x0, x1, x2, x3, x4, x5, x6]) :
    (stRow 40 (.pointer (some ⟨g, 0, none⟩)) (.agg #[x0, x1, x2, x3, x4, x5, x6])).run Tryz.prog w = .ok .skip (w.setRow g #[x0, x1, x2, x3, x4, x5, x6]) :=
  stRow_run w _ _ 6 _ (by kernel_rfl) hz rfl h
def sdW (w : World) (R : RamAt) (g : Nat) (S : Array Value) : World :=
  (((w.alloc (.cells (docV R g) 34)).alloc (.cells S 28)).alloc (.cells #[.slice none 0 0, .slice none 0 0, .int .u32 0, .int .u32 0, .int .i64 0, .slice none 0 0, .slice none 0 0] 40)).alloc (.cells #[.int .i64 0, .int .u32 0] 42)
theorem sdI_new {w : World} {R : RamAt} {M : List Int} {g : Nat} {S : Array Value} : SdI w (((sdW w R g S).alloc (.cells #[.slice none 0 0, .slice none 0 0, .int .u32 0, .int .u32 0, .int .i64 1, .slice none 0 0, .slice none 0 0] 40)).alloc (.cells #[.slice none 0 0, .slice none 0 0, .slice none 0 0] 77)) R M g S (.slice none 0 0) (.slice none 0 0) (.slice none 0 0) (.slice none 0 0) (.slice none 0 0) [] [] [] [] [] := by
  have hk : Same w (((sdW w R g S).alloc (.cells #[.slice none 0 0, .slice none 0 0, .int .u32 0, .int .u32 0, .int .i64 1, .slice none 0 0, .slice none 0 0] 40)).alloc (.cells #[.slice none 0 0, .slice none 0 0, .slice none 0 0] 77)) := ((((((Keeps.refl _ _).alloc _).alloc _).alloc _).alloc _).alloc _).alloc _
  refine ⟨?_, ?_, ?_, ?_, ?_, ?_, World.ownsRow_nil _ _ _ _, World.ownsRow_nil _ _ _ _, World.ownsRow_nil _ _ _ _, World.ownsRow_nil _ _ _ _, World.ownsRow_nil _ _ _ _, fun k e => by simp [Value.ownBlock] at e, hk⟩
  all_goals (unfold sdW; repeat (first | exact block_new _ _ | (refine block_atR _ ?_; (simp; done)) | refine block_old _ ?_))
end Go.Proofs.YtjkjnomhggmplaaGreat
