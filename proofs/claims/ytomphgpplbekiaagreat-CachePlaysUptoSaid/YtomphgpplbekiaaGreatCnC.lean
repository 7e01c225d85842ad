/- A cache that is being written: its parts, each turned by itself. -/
import Derived.Test.YtomphgpplbekiaaGreatCnA
import Derived.Test.YtomphgpplbekiaaGreatCnE
namespace Go.Proofs.YtomphgpplbekiaaGreat
open Go.RowKit

def cA (R : RamAt) (V : CV) (us hi mi : Int) : Array Value := #[.pointer (some ⟨R.b, 0, none⟩), V.bl, .map (some V.mb), V.ow, .int .i64 us, .int .i64 hi, .int .i64 mi]
structure IsC (w : World) (N cb : Nat) (R : RamAt) (M : List Int) (V : CV) (l : List Fb) (ol : List Int) (lv : List ((Int × Int) × Int)) (us hi mi : Int) : Prop where
  hb : w.heap[cb]? = some (.cells (cA R V us hi mi) 100 (0, 0))
  ram : IsRam w R M
  bl : RowX w N 112 8 V.bl (l.map fbP)
  ow : RowI w N V.ow ol
  mp : MapL w V.mb lv
  fb : ∀ x ∈ l, FbOk w x
  ro : ∀ x ∈ l, ∀ k, ROk x k → ¬ Wr cb R V k
  far : ∀ k, Wr cb R V k → N ≤ k
section
variable {w w' : World} {N cb : Nat} {R : RamAt} {M : List Int} {V : CV} {l : List Fb} {ol : List Int} {lv : List ((Int × Int) × Int)} {us hi mi : Int}
theorem IsCache.c_ (h : IsCache w N cb R M V l hi mi) : IsC w N cb R M V l (ownL (pl l)) (liveL (pl l)) (usedL (pl l) : Nat) hi mi := ⟨h.hb, h.ram, h.bl, h.ow, h.mp, h.fb, h.ro, h.far⟩
theorem IsC.done (h : IsC w N cb R M V l ol lv us hi mi) (h1 : ol = ownL (pl l)) (h2 : lv = liveL (pl l)) (h3 : us = (usedL (pl l) : Nat)) : IsCache w N cb R M V l hi mi := by
  subst h1 h2 h3
  exact ⟨h.hb, h.ram, h.bl, h.ow, h.mp, h.fb, h.ro, h.far⟩
theorem IsC.tA (h : IsC w N cb R M V l ol lv us hi mi) : tg w cb = some (some 100) ∧ tg w R.b = some (some 141) ∧ tg w R.S = some (some 57) ∧ tg w R.A = some (some 5) ∧ tg w V.mb = some none ∧ (∀ k, some k = V.bl.ownBlock → tg w k = some (some 112)) ∧ (∀ k, some k = V.ow.ownBlock → tg w k = some (some 3)) := by
  obtain ⟨cs, hS, -⟩ := h.ram.hS
  obtain ⟨es, c, hm, -⟩ := h.mp
  exact ⟨tg_cells h.hb, tg_cells h.ram.hb, tg_cells hS, tg_cells h.ram.hA, tg_map hm, tg_own h.bl.own, tg_own h.ow⟩
theorem IsC.lt (h : IsC w N cb R M V l ol lv us hi mi) : ∀ k, Wr cb R V k → k < w.heap.size := fun k hk => by
  rcases hk with rfl | hk | hk | rfl | rfl
  · exact lt_of_block h.hb
  · exact (h.bl.lt k hk).2
  · exact (rowI_lt h.ow k hk).2
  · obtain ⟨es, c, hm, -⟩ := h.mp
    exact lt_of_block hm
  · exact lt_of_block h.ram.hA
theorem IsC.keeps {F : Nat → Prop} (h : IsC w N cb R M V l ol lv us hi mi) (k : Keeps F w w') (h1 : ∀ k, Wr cb R V k → ¬ F k) (h2 : ¬ F R.b) (h3 : ¬ F R.S) (h4 : ∀ x ∈ l, ∀ k, ROk x k → ¬ F k) : IsC w' N cb R M V l ol lv us hi mi :=
  ⟨k.get h.hb (h1 _ (.inl rfl)), h.ram.keeps k h2 h3 (h1 _ (.inr (.inr (.inr (.inr rfl))))), h.bl.keeps k fun g hg => h1 g (.inr (.inl hg)), owns_apart h.ow k fun g hg => h1 g (.inr (.inr (.inl hg))),
    h.mp.keeps k (h1 _ (.inr (.inr (.inr (.inl rfl))))), fun x hx => (h.fb x hx).keeps k (h4 x hx), h.ro, h.far⟩
theorem IsC.same (h : IsC w N cb R M V l ol lv us hi mi) (k : Same w w') : IsC w' N cb R M V l ol lv us hi mi := h.keeps k (fun _ _ => id) id id (fun _ _ _ _ => id)
theorem IsC.c (h : IsC w N cb R M V l ol lv us hi mi) (o : Nat) : w.cell? ⟨cb, o, none⟩ = (cA R V us hi mi)[o]? := cell_of h.hb o
theorem IsC.fz (h : IsC w N cb R M V l ol lv us hi mi) (o : Nat) : w.frozen? ⟨cb, o, none⟩ = false := frozen_of h.hb o
/-- The memory turned. -/
theorem IsC.ram' {M' : List Int} (h : IsC w N cb R M V l ol lv us hi mi) (k : Keeps (fun k => k = R.A) w w') (hr : IsRam w' R M') : IsC w' N cb R M' V l ol lv us hi mi := by
  obtain ⟨t1, t2, t3, t4, t5, t6, t7⟩ := h.tA
  exact ⟨k.get h.hb (ne_tg t1 t4 (by decide)), hr, h.bl.keeps k fun g hg => ne_tg (t6 g hg) t4 (by decide), owns_apart h.ow k fun g hg => ne_tg (t7 g hg) t4 (by decide), h.mp.keeps k (ne_tg t5 t4 (by decide)),
    fun x hx => (h.fb x hx).keeps k fun g hg e => h.ro x hx g hg (.inr (.inr (.inr (.inr e)))), h.ro, h.far⟩
/-- The map turned. -/
theorem IsC.map' {lv' : List ((Int × Int) × Int)} (h : IsC w N cb R M V l ol lv us hi mi) (k : Keeps (fun k => k = V.mb) w w') (hm : MapL w' V.mb lv') : IsC w' N cb R M V l ol lv' us hi mi := by
  obtain ⟨t1, t2, t3, t4, t5, t6, t7⟩ := h.tA
  exact ⟨k.get h.hb (ne_tg t1 t5 (by decide)), h.ram.keeps k (ne_tg t2 t5 (by decide)) (ne_tg t3 t5 (by decide)) (ne_tg t4 t5 (by decide)), h.bl.keeps k fun g hg => ne_tg (t6 g hg) t5 (by decide), owns_apart h.ow k fun g hg => ne_tg (t7 g hg) t5 (by decide), hm,
    fun x hx => (h.fb x hx).keeps k fun g hg e => h.ro x hx g hg (.inr (.inr (.inr (.inl e)))), h.ro, h.far⟩
/-- The cache's own block turned, no more than a number. -/
theorem IsC.num' {us' hi' mi' : Int} (h : IsC w N cb R M V l ol lv us hi mi) (k : Keeps (fun k => k = cb) w w') (hb : w'.heap[cb]? = some (.cells (cA R V us' hi' mi') 100 (0, 0))) : IsC w' N cb R M V l ol lv us' hi' mi' := by
  obtain ⟨t1, t2, t3, t4, t5, t6, t7⟩ := h.tA
  exact ⟨hb, h.ram.keeps k (ne_tg t2 t1 (by decide)) (ne_tg t3 t1 (by decide)) (ne_tg t4 t1 (by decide)), h.bl.keeps k fun g hg => ne_tg (t6 g hg) t1 (by decide), owns_apart h.ow k fun g hg => ne_tg (t7 g hg) t1 (by decide), h.mp.keeps k (ne_tg t5 t1 (by decide)),
    fun x hx => (h.fb x hx).keeps k fun g hg e => h.ro x hx g hg (.inl e), h.ro, h.far⟩
/-- The owners' row grew, and its slice was stored. -/
theorem IsC.ow' {u : World} {v' : Value} {ol' : List Int} (h : IsC w N cb R M V l ol lv us hi mi) (k : Keeps (fun k => some k = V.ow.ownBlock) w u) (hr : RowI u N v' ol') (hf : ∀ g, some g = v'.ownBlock → some g = V.ow.ownBlock ∨ w.heap.size ≤ g) :
    IsC (u.setCell ⟨cb, 3, none⟩ v') N cb R M { V with ow := v' } l ol' lv us hi mi := by
  obtain ⟨t1, t2, t3, t4, t5, t6, t7⟩ := h.tA
  have k2 : Keeps (fun k => some k = V.ow.ownBlock ∨ k = cb) w (u.setCell ⟨cb, 3, none⟩ v') := (k.mono fun _ _ h => .inl h).setCell (fun _ => .inr rfl) _
  have kc : Keeps (fun k => k = cb) u (u.setCell ⟨cb, 3, none⟩ v') := (Keeps.refl (fun k => k = cb) u).setCell (p := ⟨cb, 3, none⟩) (fun _ => rfl) _
  have hcb : u.heap[cb]? = some (.cells (cA R V us hi mi) 100 (0, 0)) := k.get h.hb fun e => ne_tg t1 (t7 cb e) (by decide) rfl
  have hcv : ∀ g, some g = v'.ownBlock → g ≠ cb := fun g hg => ne_tg (tg_own hr g hg) (tg_cells hcb) (by decide)
  refine ⟨block_set hcb 3 v', h.ram.keeps k2 ?_ ?_ ?_, h.bl.keeps k2 fun g hg => ?_, owns_apart hr kc fun g hg => hcv g hg, h.mp.keeps k2 ?_, fun x hx => (h.fb x hx).keeps k2 fun g hg e => ?_, fun x hx g hg e => ?_, fun g hg => ?_⟩
  · rintro (e | e)
    · exact ne_tg t2 (t7 _ e) (by decide) rfl
    · exact ne_tg t2 t1 (by decide) e
  · rintro (e | e)
    · exact ne_tg t3 (t7 _ e) (by decide) rfl
    · exact ne_tg t3 t1 (by decide) e
  · rintro (e | e)
    · exact ne_tg t4 (t7 _ e) (by decide) rfl
    · exact ne_tg t4 t1 (by decide) e
  · rintro (e | e)
    · exact ne_tg (t6 g hg) (t7 g e) (by decide) rfl
    · exact ne_tg (t6 g hg) t1 (by decide) e
  · rintro (e | e)
    · exact ne_tg t5 (t7 _ e) (by decide) rfl
    · exact ne_tg t5 t1 (by decide) e
  · rcases e with e | e
    · exact h.ro x hx g hg (.inr (.inr (.inl e)))
    · exact h.ro x hx g hg (.inl e)
  · rcases e with e | e | e | e | e
    · exact h.ro x hx g hg (.inl e)
    · exact h.ro x hx g hg (.inr (.inl e))
    · rcases hf g e with e | e
      · exact h.ro x hx g hg (.inr (.inr (.inl e)))
      · have := (h.fb x hx).lt g hg; omega
    · exact h.ro x hx g hg (.inr (.inr (.inr (.inl e))))
    · exact h.ro x hx g hg (.inr (.inr (.inr (.inr e))))
  · rcases hg with e | e | e | e | e
    · exact h.far g (.inl e)
    · exact h.far g (.inr (.inl e))
    · exact (rowI_lt hr g e).1
    · exact h.far g (.inr (.inr (.inr (.inl e))))
    · exact h.far g (.inr (.inr (.inr (.inr e))))
/-- The blocks' row grew by one, and its slice was stored. -/
theorem IsC.bl' {u : World} {v' : Value} {x : Fb} (h : IsC w N cb R M V l ol lv us hi mi) (k : Keeps (fun k => some k = V.bl.ownBlock) w u) (hr : RowX u N 112 8 v' ((l ++ [x]).map fbP)) (hf : ∀ g, some g = v'.ownBlock → some g = V.bl.ownBlock ∨ w.heap.size ≤ g)
    (hx : FbOk w x) (hxr : ∀ g, ROk x g → ¬ Wr cb R V g) :
    IsC (u.setCell ⟨cb, 1, none⟩ v') N cb R M { V with bl := v' } (l ++ [x]) ol lv us hi mi := by
  obtain ⟨t1, t2, t3, t4, t5, t6, t7⟩ := h.tA
  have k2 : Keeps (fun k => some k = V.bl.ownBlock ∨ k = cb) w (u.setCell ⟨cb, 1, none⟩ v') := (k.mono fun _ _ h => .inl h).setCell (fun _ => .inr rfl) _
  have kc : Keeps (fun k => k = cb) u (u.setCell ⟨cb, 1, none⟩ v') := (Keeps.refl (fun k => k = cb) u).setCell (p := ⟨cb, 1, none⟩) (fun _ => rfl) _
  have hcb : u.heap[cb]? = some (.cells (cA R V us hi mi) 100 (0, 0)) := k.get h.hb fun e => ne_tg t1 (t6 cb e) (by decide) rfl
  have hcv : ∀ g, some g = v'.ownBlock → g ≠ cb := fun g hg => ne_tg (tg_own hr.own g hg) (tg_cells hcb) (by decide)
  have hall : ∀ y ∈ l ++ [x], FbOk w y ∧ ∀ g, ROk y g → ¬ Wr cb R V g := fun y hy => by
    rcases List.mem_append.1 hy with hy | hy
    · exact ⟨h.fb y hy, h.ro y hy⟩
    · simp at hy; subst hy; exact ⟨hx, hxr⟩
  refine ⟨block_set hcb 1 v', h.ram.keeps k2 ?_ ?_ ?_, hr.keeps kc fun g hg => hcv g hg, owns_apart h.ow k2 fun g hg => ?_, h.mp.keeps k2 ?_, fun y hy => (hall y hy).1.keeps k2 fun g hg e => ?_, fun y hy g hg e => ?_, fun g hg => ?_⟩
  · rintro (e | e)
    · exact ne_tg t2 (t6 _ e) (by decide) rfl
    · exact ne_tg t2 t1 (by decide) e
  · rintro (e | e)
    · exact ne_tg t3 (t6 _ e) (by decide) rfl
    · exact ne_tg t3 t1 (by decide) e
  · rintro (e | e)
    · exact ne_tg t4 (t6 _ e) (by decide) rfl
    · exact ne_tg t4 t1 (by decide) e
  · rintro (e | e)
    · exact ne_tg (t7 g hg) (t6 g e) (by decide) rfl
    · exact ne_tg (t7 g hg) t1 (by decide) e
  · rintro (e | e)
    · exact ne_tg t5 (t6 _ e) (by decide) rfl
    · exact ne_tg t5 t1 (by decide) e
  · rcases e with e | e
    · exact (hall y hy).2 g hg (.inr (.inl e))
    · exact (hall y hy).2 g hg (.inl e)
  · rcases e with e | e | e | e | e
    · exact (hall y hy).2 g hg (.inl e)
    · rcases hf g e with e | e
      · exact (hall y hy).2 g hg (.inr (.inl e))
      · have := (hall y hy).1.lt g hg; omega
    · exact (hall y hy).2 g hg (.inr (.inr (.inl e)))
    · exact (hall y hy).2 g hg (.inr (.inr (.inr (.inl e))))
    · exact (hall y hy).2 g hg (.inr (.inr (.inr (.inr e))))
  · rcases hg with e | e | e | e | e
    · exact h.far g (.inl e)
    · exact (hr.lt g e).1
    · exact h.far g (.inr (.inr (.inl e)))
    · exact h.far g (.inr (.inr (.inr (.inl e))))
    · exact h.far g (.inr (.inr (.inr (.inr e))))
end
end Go.Proofs.YtomphgpplbekiaaGreat
