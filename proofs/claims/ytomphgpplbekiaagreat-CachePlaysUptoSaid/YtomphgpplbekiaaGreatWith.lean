/- The walks of the reference's with and out: code with an instruction more, with a stub more. The walk of the reference's out: code with a stub more. -/
import Derived.Test.YtomphgpplbekiaaGreatEnd
import Derived.Test.YtomphgpplbekiaaGreatEnc2
namespace Go.Proofs.YtomphgpplbekiaaGreat
open Go.RowKit

/-- Code as a value: its bytes and rows are the call's own, apart from one another. -/
structure CdSt (w : World) (B : Nat) (bv rv : Value) (c : Cd) : Prop where
  rb : RowB w B bv c.1
  rr : RowR w B rv c.2
  apart : ∀ k, some k = bv.ownBlock → some k = rv.ownBlock → False
structure Moved (w w' : World) (bv rv bv' rv' : Value) : Prop where
  keeps : Keeps (fun k => some k = bv.ownBlock ∨ some k = rv.ownBlock) w w'
  fb : ∀ k, some k = bv'.ownBlock → some k = bv.ownBlock ∨ w.heap.size ≤ k
  fr : ∀ k, some k = rv'.ownBlock → some k = rv.ownBlock ∨ w.heap.size ≤ k
theorem Moved.of_same {w w' : World} (h : Same w w') (bv rv : Value) : Moved w w' bv rv bv rv := ⟨h.mono fun _ _ => False.elim, fun _ h => .inl h, fun _ h => .inl h⟩
theorem Moved.trans {a b c : World} {bv rv bv' rv' bv2 rv2 : Value} (h : Moved a b bv rv bv' rv') (k : Moved b c bv' rv' bv2 rv2) : Moved a c bv rv bv2 rv2 := by
  have hs := h.keeps.size
  refine ⟨⟨k.keeps.os.trans h.keeps.os, k.keeps.tape.trans h.keeps.tape, k.keeps.output.trans h.keeps.output, Nat.le_trans hs k.keeps.size, fun i hi hf => ?_⟩, fun i hi => ?_, fun i hi => ?_⟩
  · rw [k.keeps.block i (Nat.lt_of_lt_of_le hi hs) ?_, h.keeps.block i hi hf]
    rintro (h1 | h1)
    · rcases h.fb i h1 with h2 | h2
      · exact hf (.inl h2)
      · omega
    · rcases h.fr i h1 with h2 | h2
      · exact hf (.inr h2)
      · omega
  · rcases k.fb i hi with h1 | h1
    · exact h.fb i h1
    · exact .inr (by omega)
  · rcases k.fr i hi with h1 | h1
    · exact h.fr i h1
    · exact .inr (by omega)
theorem Moved.new {a b c : World} {G : Nat → Prop} {bv rv bv' rv' : Value} (h : Moved a b bv rv bv' rv') (k : Keeps G b c) (hG : ∀ i, G i → a.heap.size ≤ i) : Moved a c bv rv bv' rv' := by
  have hs := h.keeps.size
  refine ⟨⟨k.os.trans h.keeps.os, k.tape.trans h.keeps.tape, k.output.trans h.keeps.output, Nat.le_trans hs k.size, fun i hi hf => ?_⟩, h.fb, h.fr⟩
  rw [k.block i (Nat.lt_of_lt_of_le hi hs) (fun e => by have := hG i e; omega), h.keeps.block i hi hf]
theorem keeps_set (w : World) (b o : Nat) (v : Value) : Keeps (fun k => k = b) w (w.setCell ⟨b, o, none⟩ v) := Keeps.setCell (F := fun k => k = b) (Keeps.refl _ _) (p := ⟨b, o, none⟩) (fun _ => rfl) _
theorem CdSt.same {w w' : World} {B : Nat} {bv rv : Value} {c : Cd} (h : CdSt w B bv rv c) (hk : Same w w') : CdSt w' B bv rv c :=
  ⟨owns_apart h.rb hk (fun _ _ => id), owns_apart h.rr hk (fun _ _ => id), h.apart⟩
/-- Behind a turn of blocks that it does not own. -/
theorem CdSt.far {F : Nat → Prop} {w w' : World} {B : Nat} {bv rv : Value} {c : Cd} (h : CdSt w B bv rv c) (hk : Keeps F w w') (hF : ∀ k, F k → some k = bv.ownBlock ∨ some k = rv.ownBlock → False) : CdSt w' B bv rv c :=
  ⟨owns_apart h.rb hk (fun k e f => hF k f (.inl e)), owns_apart h.rr hk (fun k e f => hF k f (.inr e)), h.apart⟩
theorem CdSt.lt {w : World} {B : Nat} {bv rv : Value} {c : Cd} (h : CdSt w B bv rv c) : ∀ k, some k = bv.ownBlock ∨ some k = rv.ownBlock → B ≤ k ∧ k < w.heap.size := fun k e => by
  rcases e with e | e
  · exact World.ownsRow.lt h.rb k e.symm
  · exact World.ownsRow.lt h.rr k e.symm
theorem CdSt.rows {w w1 : World} {B : Nat} {bv rv rv' : Value} {bs : List Int} {rs rs' : List Rw} (h : CdSt w B bv rv (bs, rs)) (hr : RowR w1 B rv' rs') (hg : Grew w w1 rv rv') : CdSt w1 B bv rv' (bs, rs') ∧ Moved w w1 bv rv bv rv' := by
  refine ⟨⟨owns_apart h.rb hg.keeps (fun k hk hk2 => h.apart k hk hk2), hr, fun k hk hk2 => ?_⟩, hg.keeps.mono (fun k _ hk => .inr hk), fun _ hk => .inl hk, fun k hk => hg.fresh k hk⟩
  rcases hg.fresh k hk2 with h1 | h1
  · exact h.apart k hk h1
  · have := (h.lt k (.inl hk)).2
    omega
theorem CdSt.bytes {w w1 : World} {B : Nat} {bv rv bv' : Value} {bs bs' : List Int} {rs : List Rw} (h : CdSt w B bv rv (bs, rs)) (hr : RowB w1 B bv' bs') (hg : Grew w w1 bv bv') : CdSt w1 B bv' rv (bs', rs) ∧ Moved w w1 bv rv bv' rv := by
  refine ⟨⟨hr, owns_apart h.rr hg.keeps (fun k hk hk2 => h.apart k hk2 hk), fun k hk hk2 => ?_⟩, hg.keeps.mono (fun k _ hk => .inl hk), fun k hk => hg.fresh k hk, fun _ hk => .inl hk⟩
  rcases hg.fresh k hk with h1 | h1
  · exact h.apart k h1 hk2
  · have := (h.lt k (.inr hk2)).2
    omega
def WithPost (w : World) (B : Nat) (bv rv : Value) (c : Cd) (e : Ending) (w' : World) : Prop := ∃ bv' rv', e = .returned (.agg #[bv', rv']) ∧ CdSt w' B bv' rv' c ∧ Moved w w' bv rv bv' rv'
set_option maxHeartbeats 1000000 in
set_option maxRecDepth 100000 in
theorem with_any (w : World) (B : Nat) (bv rv : Value) (c : Cd) (h : CdSt w B bv rv c) (hB : B ≤ w.heap.size) (i : In) (hi : i.Ok) (hm : mayB i false = true) (pc dn : Int) (hl : c.1.length ≤ 5000) (hr : c.2.length ≤ 5000) :
    Calls Tryz.prog 106 #[.agg #[bv, rv], .agg (inA i), .int .u32 pc, .int .i64 dn] w (WithPost w B bv rv (withL c i pc dn)) := by
  obtain ⟨bs, rs⟩ := c
  simp only at hl hr
  obtain ⟨ab, cb, rfl⟩ := owns_slice h.rb
  obtain ⟨ar, cr, rfl⟩ := owns_slice h.rr
  have H := hidE h
  have HE := hidE (enc2_yes i false hi hm)
  have hlt : ∀ k, some k = (Value.slice ab bs.length cb).ownBlock ∨ some k = (Value.slice ar rs.length cr).ownBlock → k < w.heap.size := fun k e => (h.lt k e).2
  have h1 : ¬ some w.heap.size = (Value.slice ab bs.length cb).ownBlock := fun e => by have := hlt _ (.inl e); omega
  have h2 : ¬ some w.heap.size = (Value.slice ar rs.length cr).ownBlock := fun e => by have := hlt _ (.inr e); omega
  clear h hm
  obtain ⟨op, a, b, imm⟩ := i
  have hL := enc_len ⟨op, a, b, imm⟩ false
  have hne := enc_ne ⟨op, a, b, imm⟩ false
  have HNE := hidE hne
  clear hne
  unfold WithPost
  have HW : Hid (withL (bs, rs) ⟨op, a, b, imm⟩ pc dn = (bs ++ encL ⟨op, a, b, imm⟩ false, rs ++ [⟨bs.length, pc, dn, -1⟩])) := hidE rfl
  generalize withL (bs, rs) ⟨op, a, b, imm⟩ pc dn = WC at *
  generalize encL ⟨op, a, b, imm⟩ false = eL at *
  simp only [inA] at *
  have HK0 : ∀ o1 o2 o3 o4, Same w ((((w.alloc o1).alloc o2).alloc o3).alloc o4) := fun o1 o2 o3 o4 => ((((Keeps.refl _ _).alloc _).alloc _).alloc _).alloc _
  go_enter Tryz.func106, Tryz.ntmps106
  go_wp2_with (at_builtin; go_loud (refine append_rows rfl (.tmp 10) (.tmp 17) rfl B _ rs [⟨bs.length, pc, dn, -1⟩] rfl (H.out.same (HK0 _ _ _ _)).rr (w.heap.size + 3) 1 1 #[.int .i64 bs.length, .int .u32 pc, .int .i64 dn, .int .i64 (-1)] rfl rfl (block_at _ (by simp)) rfl (by decide) (by simp; omega) (by simp; omega) ?h1))
  case h1 =>
    intro gr cr2 w1 hown1 hgrow1
    have hz := hgrow1.keeps.size
    simp at hz
    have B0 := hgrow1.keeps.get (k := w.heap.size) (block_old _ (block_old _ (block_old _ (block_new _ _)))) (fun e => h2 e)
    have B1 : w1.heap[w.heap.size + 1]? = some (.cells #[.int .u8 op, .int .u8 a, .int .u8 b, .int .i32 imm] 122 (0, 0)) := hgrow1.keeps.get (block_old _ (block_old _ (block_at _ (by simp)))) (fun e => by have := hlt _ (.inr e); omega)
    have B2 : w1.heap[w.heap.size + 2]? = some (.cells #[.slice none 0 0, .slice none 0 0] 60 (0, 0)) := hgrow1.keeps.get (block_old _ (block_at _ (by simp))) (fun e => by have := hlt _ (.inr e); omega)
    have HC1 := hidE ((H.out.same (HK0 _ _ _ _)).rows hown1 hgrow1)
    have HM1 := hidE (Moved.trans (Moved.of_same (HK0 _ _ _ _) _ _) HC1.out.2)
    have HB0 := hidE B0
    have HB1 := hidE B1
    have HB2 := hidE B2
    have f1 := frozen_of B0 1
    have c0 := cell_of B0
    have c1 := cell_of B1
    clear B0 B1 B2 hown1 hgrow1
    go_wp2_with fail
    have hrf : ∀ k, some k = (Value.slice (some ⟨gr, 0, none⟩) (rs.length + 1) cr2).ownBlock → some k = (Value.slice ar rs.length cr).ownBlock ∨ w.heap.size + 4 ≤ k := fun k e => by have := HC1.out.2.fr k e; simpa using this
    have hr0 : ∀ j, w.heap.size ≤ j → j ≤ w.heap.size + 3 → ¬ some j = (Value.slice (some ⟨gr, 0, none⟩) (rs.length + 1) cr2).ownBlock := fun j hj hj2 e => by
      rcases hrf j e with h | h
      · have := hlt _ (.inr h); omega
      · omega
    have hb0 : ∀ j, w.heap.size ≤ j → ¬ some j = (Value.slice ab bs.length cb).ownBlock := fun j hj e => by have := hlt _ (.inl e); omega
    have HX0 := hidE (block_set HB0.out 1 (.slice (some ⟨gr, 0, none⟩) (rs.length + 1) cr2))
    have HX1 := hidE ((keeps_set w1 w.heap.size 1 (.slice (some ⟨gr, 0, none⟩) (rs.length + 1) cr2)).get HB1.out (by omega))
    have HX2 := hidE ((keeps_set w1 w.heap.size 1 (.slice (some ⟨gr, 0, none⟩) (rs.length + 1) cr2)).get HB2.out (by omega))
    have HC2 := hidE (HC1.out.1.far (keeps_set w1 w.heap.size 1 (.slice (some ⟨gr, 0, none⟩) (rs.length + 1) cr2)) (fun k e e2 => by
      subst e
      rcases e2 with e2 | e2
      · exact h1 e2
      · exact hr0 _ (Nat.le_refl _) (by omega) e2))
    have HM2 := hidE (HM1.out.new (keeps_set w1 w.heap.size 1 (.slice (some ⟨gr, 0, none⟩) (rs.length + 1) cr2)) (fun i e => by omega))
    simp only [List.setIfInBounds_toArray, List.set_cons_zero, List.set_cons_succ] at HX0
    have hz2 : w.heap.size + 1 + 1 + 1 < (w1.setCell ⟨w.heap.size, 1, none⟩ (.slice (some ⟨gr, 0, none⟩) (rs.length + 1) cr2)).heap.size := by simp; omega
    clear f1 c0 c1 HB0 HB1 HB2 HC1 HM1 HK0
    generalize w1.setCell ⟨w.heap.size, 1, none⟩ (.slice (some ⟨gr, 0, none⟩) (rs.length + 1) cr2) = w2 at *
    have c0 := cell_of HX0.out
    have c1 := cell_of HX1.out
    have d0 : w2.cell? ⟨w.heap.size, 0, none⟩ = some (.slice ab bs.length cb) := c0 0
    have i0 : w2.cell? ⟨w.heap.size + 1, 0, none⟩ = some (.int .u8 op) := c1 0
    have i1 : w2.cell? ⟨w.heap.size + 1, 1, none⟩ = some (.int .u8 a) := c1 1
    have i2 : w2.cell? ⟨w.heap.size + 1, 2, none⟩ = some (.int .u8 b) := c1 2
    have i3 : w2.cell? ⟨w.heap.size + 1, 3, none⟩ = some (.int .i32 imm) := c1 3
    clear c0 c1
    refine wp_region_ev 3 5 2 rfl (fun u => u.cell? ⟨w.heap.size, 0, none⟩ = some (.slice ab bs.length cb) ∧ u.cell? ⟨w.heap.size + 1, 0, none⟩ = some (.int .u8 op) ∧ u.cell? ⟨w.heap.size + 1, 1, none⟩ = some (.int .u8 a) ∧ u.cell? ⟨w.heap.size + 1, 2, none⟩ = some (.int .u8 b) ∧ u.cell? ⟨w.heap.size + 1, 3, none⟩ = some (.int .i32 imm)) (by kernel_rfl) (by kernel_rfl) (fun c a d v w h => by cases d <;> exact h) ⟨d0, i0, i1, i2, i3⟩ ?_
    simp only [List.take_succ_cons, List.take_zero, List.drop_succ_cons, List.drop_zero]
    repeat (refine stS_cons (v := ?_) rfl (fun u hu => ?_) ?_; rotate_left; · (go_simp; first | done | with_reducible rfl); (try simp only [Act.put, List.setIfInBounds_toArray, List.set_cons_zero, List.set_cons_succ]))
    refine stS_nil ?_
    refine wpListS_cons ?_
    go_wp2_with fail
    refine (HE.out _).mono ?_
    rintro e w3 ⟨v, rfl, hv, hk3⟩
    have HK3 := hidE hk3
    have HV3 := hidE hv
    clear hk3 hv
    go_wp2
    refine Then1_mk ⟨⟨cellK (F := fun _ => False) HK3.out id d0, cellK (F := fun _ => False) HK3.out id i0, cellK (F := fun _ => False) HK3.out id i1, cellK (F := fun _ => False) HK3.out id i2, cellK (F := fun _ => False) HK3.out id i3⟩, ?_⟩
    refine wpListS_cons ?_
    have hz3 := HK3.out.size
    have HKd : Hid (Same w2 w3) := hidE (((Keeps.refl _ w2).drew).trans HK3.out)
    have hzd := HKd.out.size
    refine append_bytes rfl (.tmp 21) (.tmp 23) rfl B _ bs rfl _ v eL rfl (HC2.out.same HKd.out).rb HV3.out HNE.out (by omega) (by omega) ?_
    intro gb cb2 w4 hown4 hgrow4
    have HC4 := hidE ((HC2.out.same HKd.out).bytes hown4 hgrow4)
    have HM4 := hidE ((HM2.out.trans (Moved.of_same HKd.out _ _)).trans HC4.out.2)
    have nb0 := hb0 w.heap.size (Nat.le_refl _)
    have nb1 := hb0 (w.heap.size + 1) (by omega)
    have nb2 := hb0 (w.heap.size + 2) (by omega)
    refine wpList_nil (Then1_mk ⟨⟨cellK hgrow4.keeps nb0 (cellK (F := fun _ => False) HKd.out id d0), cellK hgrow4.keeps nb1 (cellK (F := fun _ => False) HKd.out id i0), cellK hgrow4.keeps nb1 (cellK (F := fun _ => False) HKd.out id i1), cellK hgrow4.keeps nb1 (cellK (F := fun _ => False) HKd.out id i2), cellK hgrow4.keeps nb1 (cellK (F := fun _ => False) HKd.out id i3)⟩, ?_⟩)
    refine wpListS_zero ?_
    have B0 := hgrow4.keeps.get (HKd.out.get HX0.out id) nb0
    have B2 : w4.heap[w.heap.size + 1 + 1]? = some (.cells #[.slice none 0 0, .slice none 0 0] 60 (0, 0)) := hgrow4.keeps.get (HKd.out.get HX2.out id) nb2
    have hz4 := hgrow4.keeps.size
    have c0 := cell_of B0
    have f0 := frozen_of B0
    have c2 := cell_of B2
    have f2 := frozen_of B2
    have HB0 := hidE B0
    have HB2 := hidE B2
    clear B0 B2 hown4 hgrow4 d0 i0 i1 i2 i3
    go_wp2
    have hK5 : ∀ x y z, Keeps (fun k => k = w.heap.size ∨ k = w.heap.size + 1 + 1) w4 (((w4.setCell ⟨w.heap.size, 0, none⟩ x).setCell ⟨w.heap.size + 1 + 1, 0, none⟩ y).setCell ⟨w.heap.size + 1 + 1, 1, none⟩ z) := fun x y z =>
      Keeps.setCell (F := fun k => k = w.heap.size ∨ k = w.heap.size + 1 + 1) (Keeps.setCell (F := fun k => k = w.heap.size ∨ k = w.heap.size + 1 + 1) (Keeps.setCell (F := fun k => k = w.heap.size ∨ k = w.heap.size + 1 + 1) (Keeps.refl _ _) (p := ⟨w.heap.size, 0, none⟩) (fun _ => .inl rfl) _) (p := ⟨w.heap.size + 1 + 1, 0, none⟩) (fun _ => .inr rfl) _) (p := ⟨w.heap.size + 1 + 1, 1, none⟩) (fun _ => .inr rfl) _
    refine bodyPost_ret (results_c rfl rfl (block_set (block_set (block_other (a := ⟨w.heap.size, 0, none⟩) _ HB2.out (by simp; omega)) 0 _) 1 _) Tryz.underlying60 rfl (by kernel_rfl)) rfl ⟨_, _, rfl, ?_, HM4.out.new (hK5 _ _ _) (fun i e => by rcases e with rfl | rfl <;> omega)⟩
    rw [HW.out]
    refine HC4.out.1.far (hK5 _ _ _) (fun k e e2 => ?_)
    rcases e2 with e2 | e2
    · rcases HM4.out.fb k e2 with h | h
      · have := hlt _ (.inl h); omega
      · rcases HC4.out.2.fb k e2 with h | h
        · have := hlt _ (.inl h); omega
        · omega
    · exact hr0 k (by omega) (by omega) e2
end Go.Proofs.YtomphgpplbekiaaGreat
namespace Go.Proofs.YtomphgpplbekiaaGreat
open Go.RowKit

set_option maxHeartbeats 1000000 in
set_option maxRecDepth 100000 in
theorem out_any (w : World) (B : Nat) (bv rv : Value) (c : Cd) (h : CdSt w B bv rv c) (hB : B ≤ w.heap.size) (dn to nx : Int) (n0 : 0 ≤ dn) (n1 : dn ≤ 255) (x0 : 0 ≤ nx) (x1 : nx ≤ 65535) (hl : c.1.length ≤ 5000) (hr : c.2.length ≤ 5000) :
    Calls Tryz.prog 107 #[.agg #[bv, rv], .int .i64 dn, .int .u32 to, .int .i64 nx] w (WithPost w B bv rv (outL c dn to nx)) := by
  obtain ⟨bs, rs⟩ := c
  simp only at hl hr
  obtain ⟨ab, cb, rfl⟩ := owns_slice h.rb
  obtain ⟨ar, cr, rfl⟩ := owns_slice h.rr
  have H := hidE h
  have HE := hidE (ref_stub dn nx n0 n1 x0 x1)
  have hlt : ∀ k, some k = (Value.slice ab bs.length cb).ownBlock ∨ some k = (Value.slice ar rs.length cr).ownBlock → k < w.heap.size := fun k e => (h.lt k e).2
  have h1 : ¬ some w.heap.size = (Value.slice ab bs.length cb).ownBlock := fun e => by have := hlt _ (.inl e); omega
  have h2 : ¬ some w.heap.size = (Value.slice ar rs.length cr).ownBlock := fun e => by have := hlt _ (.inr e); omega
  clear h
  unfold WithPost
  have HW : Hid (outL (bs, rs) dn to nx = (bs ++ stubL dn nx, rs ++ [⟨bs.length, to, dn, -1⟩, ⟨bs.length + 2, to, 0, nx⟩])) := hidE rfl
  generalize outL (bs, rs) dn to nx = WC at *
  have hL := stubL_len dn nx
  have hne : stubL dn nx ≠ [] := by simp [stubL]
  have HNE := hidE hne
  clear hne
  generalize stubL dn nx = eL at *
  have hL5 : eL.length ≤ 5 := by omega
  clear hL
  have HK0 : ∀ o1 o2 o3, Same w (((w.alloc o1).alloc o2).alloc o3) := fun o1 o2 o3 => (((Keeps.refl _ _).alloc _).alloc _).alloc _
  go_enter Tryz.func107, Tryz.ntmps107
  go_wp2_with (at_builtin; go_loud (refine append_rows rfl (.tmp 14) (.tmp 19) rfl B _ rs [⟨bs.length, to, dn, -1⟩] rfl (H.out.same (HK0 _ _ _)).rr (w.heap.size + 2) 1 1 #[.int .i64 bs.length, .int .u32 to, .int .i64 dn, .int .i64 (-1)] rfl rfl (block_at _ (by simp)) rfl (by decide) (by simp; omega) (by simp; omega) ?h1))
  case h1 =>
    intro gr cr2 w1 hown1 hgrow1
    have hz := hgrow1.keeps.size
    simp at hz
    have B0 := hgrow1.keeps.get (k := w.heap.size) (block_old _ (block_old _ (block_new _ _))) (fun e => h2 e)
    have B2 : w1.heap[w.heap.size + 1]? = some (.cells #[.slice none 0 0, .slice none 0 0] 60 (0, 0)) := hgrow1.keeps.get (block_old _ (block_at _ (by simp))) (fun e => by have := hlt _ (.inr e); omega)
    have HC1 := hidE ((H.out.same (HK0 _ _ _)).rows hown1 hgrow1)
    have HM1 := hidE (Moved.trans (Moved.of_same (HK0 _ _ _) _ _) HC1.out.2)
    have hrf : ∀ k, some k = (Value.slice (some ⟨gr, 0, none⟩) (rs.length + 1) cr2).ownBlock → some k = (Value.slice ar rs.length cr).ownBlock ∨ w.heap.size + 3 ≤ k := fun k e => by have := HC1.out.2.fr k e; simpa using this
    have hr0 : ∀ j, w.heap.size ≤ j → j ≤ w.heap.size + 2 → ¬ some j = (Value.slice (some ⟨gr, 0, none⟩) (rs.length + 1) cr2).ownBlock := fun j hj hj2 e => by
      rcases hrf j e with h | h
      · have := hlt _ (.inr h); omega
      · omega
    have hb0 : ∀ j, w.heap.size ≤ j → ¬ some j = (Value.slice ab bs.length cb).ownBlock := fun j hj e => by have := hlt _ (.inl e); omega
    have f1 := frozen_of B0
    have c0 := cell_of B0
    have HX0 := hidE (block_set B0 1 (.slice (some ⟨gr, 0, none⟩) (rs.length + 1) cr2))
    have HX2 := hidE ((keeps_set w1 w.heap.size 1 (.slice (some ⟨gr, 0, none⟩) (rs.length + 1) cr2)).get B2 (by omega))
    have HC2 := hidE (HC1.out.1.far (keeps_set w1 w.heap.size 1 (.slice (some ⟨gr, 0, none⟩) (rs.length + 1) cr2)) (fun k e e2 => by
      subst e
      rcases e2 with e2 | e2
      · exact h1 e2
      · exact hr0 _ (Nat.le_refl _) (by omega) e2))
    have HM2 := hidE (HM1.out.new (keeps_set w1 w.heap.size 1 (.slice (some ⟨gr, 0, none⟩) (rs.length + 1) cr2)) (fun i e => by omega))
    simp only [List.setIfInBounds_toArray, List.set_cons_zero, List.set_cons_succ] at HX0
    have hz2 : w.heap.size + 1 + 1 < (w1.setCell ⟨w.heap.size, 1, none⟩ (.slice (some ⟨gr, 0, none⟩) (rs.length + 1) cr2)).heap.size := by simp; omega
    have hzw : (w1.setCell ⟨w.heap.size, 1, none⟩ (.slice (some ⟨gr, 0, none⟩) (rs.length + 1) cr2)).heap.size = w1.heap.size := by simp
    have HZ := hidE hzw
    clear B0 B2 hown1 hgrow1 HC1 HM1 HK0 hzw
    have wr2 : IntKind.i64.wrap ((bs.length : Int) + 2) = bs.length + 2 := by rw [wrapI] <;> omega
    have hB2 : B ≤ ((w1.setCell ⟨w.heap.size, 1, none⟩ (.slice (some ⟨gr, 0, none⟩) (rs.length + 1) cr2)).alloc (.cells #[.int .i64 (bs.length + 2), .int .u32 to, .int .i64 0, .int .i64 nx] 49)).heap.size := by simp; omega
    have hL2 : (rs ++ [(⟨bs.length, to, dn, -1⟩ : Rw)]).length + 1 ≤ 20000 := by simp; omega
    go_wp2_with (at_builtin; go_loud (refine append_rows rfl (.tmp 23) (.tmp 29) rfl B _ (rs ++ [⟨bs.length, to, dn, -1⟩]) [⟨bs.length + 2, to, 0, nx⟩] rfl (HC2.out.same ((Keeps.refl _ _).alloc _)).rr w1.heap.size 1 1 #[.int .i64 (bs.length + 2), .int .u32 to, .int .i64 0, .int .i64 nx] rfl rfl (block_at _ HZ.out) rfl (by decide) hL2 hB2 ?h2))
    case h2 =>
      intro gr3 cr3 w3 hown3 hgrow3
      have hz3 := hgrow3.keeps.size
      simp at hz3
      have nr0 := hr0 w.heap.size (Nat.le_refl _) (by omega)
      have nr1 := hr0 (w.heap.size + 1) (by omega) (by omega)
      have B0 := hgrow3.keeps.get (block_old _ HX0.out) nr0
      have B2 := hgrow3.keeps.get (block_old _ HX2.out) nr1
      have HC3 := hidE ((HC2.out.same ((Keeps.refl _ _).alloc _)).rows hown3 hgrow3)
      have HM3 := hidE (HM2.out.trans (Moved.trans (Moved.of_same ((Keeps.refl _ _).alloc _) _ _) HC3.out.2))
      have f3 := frozen_of B0
      have c3 := cell_of B0
      have hrf3 : ∀ j, w.heap.size ≤ j → j ≤ w.heap.size + 1 → ¬ some j = (Value.slice (some ⟨gr3, 0, none⟩) ((rs ++ [(⟨bs.length, to, dn, -1⟩ : Rw)]).length + 1) cr3).ownBlock := fun j hj hj2 e => by
        rcases HC3.out.2.fr j e with h | h
        · exact hr0 j hj (by omega) h
        · simp at h; omega
      clear f1 c0 hown3 hgrow3
      go_wp2_with fail
      have HY0 := hidE (block_set B0 1 (.slice (some ⟨gr3, 0, none⟩) ((rs ++ [(⟨bs.length, to, dn, -1⟩ : Rw)]).length + 1) cr3))
      have HY2 := hidE ((keeps_set w3 w.heap.size 1 (.slice (some ⟨gr3, 0, none⟩) ((rs ++ [(⟨bs.length, to, dn, -1⟩ : Rw)]).length + 1) cr3)).get B2 (by omega))
      have HC4 := hidE (HC3.out.1.far (keeps_set w3 w.heap.size 1 (.slice (some ⟨gr3, 0, none⟩) ((rs ++ [(⟨bs.length, to, dn, -1⟩ : Rw)]).length + 1) cr3)) (fun k e e2 => by
        subst e
        rcases e2 with e2 | e2
        · exact h1 e2
        · exact hrf3 _ (Nat.le_refl _) (by omega) e2))
      have HM4 := hidE (HM3.out.new (keeps_set w3 w.heap.size 1 (.slice (some ⟨gr3, 0, none⟩) ((rs ++ [(⟨bs.length, to, dn, -1⟩ : Rw)]).length + 1) cr3)) (fun i e => by omega))
      have HR3 := hidE hrf3
      simp only [List.setIfInBounds_toArray, List.set_cons_zero, List.set_cons_succ] at HY0
      have hz4 : w.heap.size + 1 + 1 < (w3.setCell ⟨w.heap.size, 1, none⟩ (.slice (some ⟨gr3, 0, none⟩) ((rs ++ [(⟨bs.length, to, dn, -1⟩ : Rw)]).length + 1) cr3)).heap.size := by simp; omega
      clear f3 c3 B0 B2 hrf3 HX0 HX2 HC2 HM2 HC3 HM3 hz2 HZ hrf
      simp only [List.length_append, List.length_cons, List.length_nil, Nat.zero_add] at HY0 HY2 HC4 HM4 HR3 hz4
      generalize w3.setCell ⟨w.heap.size, 1, none⟩ (.slice (some ⟨gr3, 0, none⟩) (rs.length + 1 + 1) cr3) = w4 at *
      have c0 := cell_of HY0.out
      have d0 : w4.cell? ⟨w.heap.size, 0, none⟩ = some (.slice ab bs.length cb) := c0 0
      clear c0
      refine wp_region_ev 4 6 2 rfl (fun u => u.cell? ⟨w.heap.size, 0, none⟩ = some (.slice ab bs.length cb)) (by kernel_rfl) (by kernel_rfl) (fun c a d v w h => by cases d <;> exact h) d0 ?_
      simp only [List.take_succ_cons, List.take_zero, List.drop_succ_cons, List.drop_zero]
      repeat (refine stS_cons (v := ?_) rfl (fun u hu => ?_) ?_; rotate_left; · (go_simp; first | done | with_reducible rfl); (try simp only [Act.put, List.setIfInBounds_toArray, List.set_cons_zero, List.set_cons_succ]))
      refine stS_nil ?_
      refine wpListS_cons ?_
      go_wp2_with fail
      refine (HE.out _).mono ?_
      rintro e w5 ⟨v, rfl, hv, hk5⟩
      have HK5 : Hid (Same w4 w5) := hidE (((Keeps.refl _ w4).drew).trans hk5)
      have HV5 := hidE hv
      have hz5 := HK5.out.size
      clear hk5 hv
      go_wp2
      refine Then1_mk ⟨cellK (F := fun _ => False) HK5.out id d0, ?_⟩
      refine wpListS_cons ?_
      refine append_bytes rfl (.tmp 33) (.tmp 36) rfl B _ bs rfl _ v eL rfl (HC4.out.same HK5.out).rb HV5.out HNE.out (by omega) (by omega) ?_
      intro gb cb6 w6 hown6 hgrow6
      have HC6 := hidE ((HC4.out.same HK5.out).bytes hown6 hgrow6)
      have HM6 := hidE ((HM4.out.trans (Moved.of_same HK5.out _ _)).trans HC6.out.2)
      have nb0 := hb0 w.heap.size (Nat.le_refl _)
      have nb1 := hb0 (w.heap.size + 1) (by omega)
      refine wpList_nil (Then1_mk ⟨cellK hgrow6.keeps nb0 (cellK (F := fun _ => False) HK5.out id d0), ?_⟩)
      refine wpListS_zero ?_
      have B0 := hgrow6.keeps.get (HK5.out.get HY0.out id) nb0
      have B2 := hgrow6.keeps.get (HK5.out.get HY2.out id) nb1
      have hz6 := hgrow6.keeps.size
      have c0 := cell_of B0
      have f0 := frozen_of B0
      have c2 := cell_of B2
      have f2 := frozen_of B2
      have HB2 := hidE B2
      clear B0 B2 hown6 hgrow6 d0
      go_wp2
      have hK7 : ∀ x y z, Keeps (fun k => k = w.heap.size ∨ k = w.heap.size + 1) w6 (((w6.setCell ⟨w.heap.size, 0, none⟩ x).setCell ⟨w.heap.size + 1, 0, none⟩ y).setCell ⟨w.heap.size + 1, 1, none⟩ z) := fun x y z =>
        Keeps.setCell (F := fun k => k = w.heap.size ∨ k = w.heap.size + 1) (Keeps.setCell (F := fun k => k = w.heap.size ∨ k = w.heap.size + 1) (Keeps.setCell (F := fun k => k = w.heap.size ∨ k = w.heap.size + 1) (Keeps.refl _ _) (p := ⟨w.heap.size, 0, none⟩) (fun _ => .inl rfl) _) (p := ⟨w.heap.size + 1, 0, none⟩) (fun _ => .inr rfl) _) (p := ⟨w.heap.size + 1, 1, none⟩) (fun _ => .inr rfl) _
      refine bodyPost_ret (results_c rfl rfl (block_set (block_set (block_other (a := ⟨w.heap.size, 0, none⟩) _ HB2.out (by simp)) 0 _) 1 _) Tryz.underlying60 rfl (by kernel_rfl)) rfl ⟨_, _, rfl, ?_, HM6.out.new (hK7 _ _ _) (fun i e => by rcases e with rfl | rfl <;> omega)⟩
      rw [HW.out]
      refine HC6.out.1.far (hK7 _ _ _) (fun k e e2 => ?_)
      rcases e2 with e2 | e2
      · rcases HM6.out.fb k e2 with h | h
        · have := hlt _ (.inl h); omega
        · rcases HC6.out.2.fb k e2 with h | h
          · have := hlt _ (.inl h); omega
          · omega
      · exact HR3.out k (by omega) (by omega) e2
end Go.Proofs.YtomphgpplbekiaaGreat
