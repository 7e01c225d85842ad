/- Package scan: byteAt. -/
import Derived.Test.YtjkjnomhggmplaaGreatClone
import Derived.Test.YtjkjnomhggmplaaGreatWalkE
import Derived.Test.YtjkjnomhggmplaaGreatIsaF
import Derived.Test.YtjkjnomhggmplaaGreatEvp
namespace Go.Proofs.YtjkjnomhggmplaaGreat
open Go.RowKit
attribute [local go_sem ↓] Go.wp_at_zero Go.wp_at_succ

/-- What an instruction has gone through: frames, tables, pages. -/
structure Fd where
  fr : List Int
  tb : List Int
  pg : List Int
structure Fd.Ok (f : Fd) (n : Nat) : Prop where
  r1 : Rising f.fr
  r2 : Rising f.tb
  r3 : Rising f.pg
  l1 : f.fr.length ≤ n
  l2 : f.tb.length ≤ 2 * n
  l3 : f.pg.length ≤ n
/-- Its rows. -/
structure FdW (w : World) (B : Nat) (vf vt vp : Value) (f : Fd) : Prop where
  rf : rowI w B vf f.fr
  rt : rowI w B vt f.tb
  rp : rowU w B vp f.pg
  ft : ∀ k, some k = vf.ownBlock → some k ≠ vt.ownBlock
theorem t_ne : (3 : TypeId) ≠ 25 := by decide
theorem FdW.keeps {F : Nat → Prop} {w w' : World} {B : Nat} {vf vt vp : Value} {f : Fd} (h : FdW w B vf vt vp f) (k : Keeps F w w') (hF : ∀ g, B ≤ g → ¬ F g) : FdW w' B vf vt vp f :=
  ⟨owns_stay h.rf k fun g e => hF g (owns_lt h.rf g e).1, owns_stay h.rt k fun g e => hF g (owns_lt h.rt g e).1, owns_stay h.rp k fun g e => hF g (owns_lt h.rp g e).1, h.ft⟩
theorem FdW.tab {w w' : World} {B : Nat} {vf vt vp v' : Value} {f : Fd} {l : List Int} (h : FdW w B vf vt vp f) (h1 : rowI w' B v' l) (h2 : GrewS w w' vt v') : FdW w' B vf v' vp { f with tb := l } :=
  ⟨owns_stay h.rf h2.keeps fun g e e' => h.ft g e e', h1, owns_stay h.rp h2.keeps fun g e e' => owns_apart h.rt h.rp t_ne g e' e, fun k e e' => by
    rcases h2.fresh k e' with h3 | h3
    · exact h.ft k e h3
    · have := (owns_lt h.rf k e).2; omega⟩
theorem FdW.fra {w w' : World} {B : Nat} {vf vt vp v' : Value} {f : Fd} {l : List Int} (h : FdW w B vf vt vp f) (h1 : rowI w' B v' l) (h2 : GrewS w w' vf v') : FdW w' B v' vt vp { f with fr := l } :=
  ⟨h1, owns_stay h.rt h2.keeps fun g e e' => h.ft g e' e, owns_stay h.rp h2.keeps fun g e e' => owns_apart h.rf h.rp t_ne g e' e, fun k e e' => by
    rcases h2.fresh k e with h3 | h3
    · exact h.ft k h3 e'
    · have := (owns_lt h.rt k e').2; omega⟩
theorem FdW.pag {w w' : World} {B : Nat} {vf vt vp v' : Value} {f : Fd} {l : List Int} (h : FdW w B vf vt vp f) (h1 : rowU w' B v' l) (h2 : GrewS w w' vp v') : FdW w' B vf vt v' { f with pg := l } :=
  ⟨owns_stay h.rf h2.keeps fun g e e' => owns_apart h.rf h.rp t_ne g e e', owns_stay h.rt h2.keeps fun g e e' => owns_apart h.rt h.rp t_ne g e e', h1, h.ft⟩
/-- What a step of fetching leaves: below B nothing but fb has turned, and no block but those of rows of numbers. -/
structure Fst (w : World) (B fb : Nat) (w' : World) : Prop where
  keeps : Keeps (fun k => k = fb ∨ B ≤ k) w w'
  other : ∀ k cur T f, w.heap[k]? = some (.cells cur T f) → k ≠ fb → T ≠ 3 → T ≠ 25 → w'.heap[k]? = some (.cells cur T f)
theorem Fst.bytes {w w' : World} {B fb : Nat} (h : Fst w B fb w') {v : Value} {xs : List Int} (hb : fb < B) (h' : RowB w B v xs) : RowB w' B v xs := by
  obtain ⟨h1, h2⟩ := h'
  refine ⟨h1, ?_⟩
  rcases h2 with h2 | ⟨g, cap, cur, hv, hg, hh, r⟩
  · exact .inl h2
  · exact .inr ⟨g, cap, cur, hv, hg, h.other g _ _ _ hh (by omega) (by decide) (by decide), r⟩
theorem Fst.refl (w : World) (B fb : Nat) : Fst w B fb w := ⟨Keeps.refl _ _, fun _ _ _ _ h _ _ _ => h⟩
theorem Fst.trans {a b c : World} {B fb : Nat} (h : Fst a B fb b) (k : Fst b B fb c) : Fst a B fb c := ⟨h.keeps.trans k.keeps, fun j cur T f h' h1 h2 h3 => k.other j cur T f (h.other j cur T f h' h1 h2 h3) h1 h2 h3⟩
theorem Fst.same {w w' : World} (B fb : Nat) (k : Same w w') : Fst w B fb w' := ⟨k.mono fun _ _ h => h.elim, fun _ _ _ _ h _ _ _ => k.get h id⟩
theorem Fst.grew {w w' : World} {B fb : Nat} {v v' : Value} {e : TypeId} {s n : Nat} {xs : List Value} (h : w.ownsRow B e s v n xs) (he : e = 3 ∨ e = 25) (k : GrewS w w' v v') : Fst w B fb w' :=
  ⟨k.keeps.mono fun g _ hg => .inr (owns_lt h g hg).1, fun j cur T f h' _ h2 h3 => k.keeps.get h' fun e' => by
    obtain ⟨-, ⟨rfl, -⟩ | ⟨g, cap, cur2, rfl, -, hg, -⟩⟩ := h
    · simp [Value.ownBlock] at e'
    · simp only [Value.ownBlock, Option.some.injEq] at e'
      subst e'
      rw [hg] at h'
      cases h'
      rcases he with he | he
      · exact h2 he
      · exact h3 he⟩
theorem Fst.set {w : World} {B fb : Nat} (_hB : fb < B) (o : Nat) (v : Value) : Fst w B fb (w.setCell ⟨fb, o, none⟩ v) :=
  ⟨Keeps.setCell (Keeps.refl _ _) (fun _ => .inl rfl) _, fun _ _ _ _ h' h1 _ _ => (Keeps.setCell (F := fun k => k = fb) (Keeps.refl _ _) (p := ⟨fb, o, none⟩) (fun _ => rfl) v).get h' h1⟩
/-- The cells of a found instruction. -/
def fdA (i : In) (sz : Int) (vf vt vp : Value) : Array Value := #[.int .u8 i.op, .int .u8 i.a, .int .u8 i.b, .int .i32 i.imm, vf, vt, vp, .int .i64 sz]
structure FdSt (w : World) (B fb : Nat) (i : In) (sz : Int) (vf vt vp : Value) (f : Fd) : Prop where
  blk : w.heap[fb]? = some (.cells (fdA i sz vf vt vp) 69 (0, 0))
  rows : FdW w B vf vt vp f
  hB : fb < B
  hw : B ≤ w.heap.size
theorem FdSt.same {w w' : World} {B fb : Nat} {i : In} {sz : Int} {vf vt vp : Value} {f : Fd} (h : FdSt w B fb i sz vf vt vp f) (k : Same w w') : FdSt w' B fb i sz vf vt vp f :=
  ⟨k.get h.blk id, h.rows.keeps k fun _ _ => id, h.hB, Nat.le_trans h.hw k.size⟩
theorem FdW.ne {w : World} {B fb : Nat} {i : In} {sz : Int} {vf vt vp : Value} {f : Fd} (h : FdSt w B fb i sz vf vt vp f) : some fb ≠ vf.ownBlock ∧ some fb ≠ vt.ownBlock ∧ some fb ≠ vp.ownBlock :=
  ⟨fun e => by have := (owns_lt h.rows.rf fb e).1; have := h.hB; omega, fun e => by have := (owns_lt h.rows.rt fb e).1; have := h.hB; omega, fun e => by have := (owns_lt h.rows.rp fb e).1; have := h.hB; omega⟩
theorem FdSt.fra {w w' : World} {B fb : Nat} {i : In} {sz : Int} {vf vt vp v' : Value} {f : Fd} {l : List Int} (h : FdSt w B fb i sz vf vt vp f) (h1 : rowI w' B v' l) (h2 : GrewS w w' vf v') :
    w'.heap[fb]? = some (.cells (fdA i sz vf vt vp) 69 (0, 0)) ∧ FdSt (w'.setCell ⟨fb, 4, none⟩ v') B fb i sz v' vt vp { f with fr := l } := by
  have hb := h2.keeps.get h.blk (FdW.ne h).1
  have hB := h.hB
  refine ⟨hb, ⟨block_set hb 4 v', (h.rows.fra h1 h2).keeps (Keeps.setCell (F := fun k => k = fb) (Keeps.refl _ _) (fun _ => rfl) _) (fun g hg e => by omega), h.hB, ?_⟩⟩
  have := h2.keeps.size
  have := h.hw
  simp [World.setCell]; omega
theorem FdSt.tab {w w' : World} {B fb : Nat} {i : In} {sz : Int} {vf vt vp v' : Value} {f : Fd} {l : List Int} (h : FdSt w B fb i sz vf vt vp f) (h1 : rowI w' B v' l) (h2 : GrewS w w' vt v') :
    w'.heap[fb]? = some (.cells (fdA i sz vf vt vp) 69 (0, 0)) ∧ FdSt (w'.setCell ⟨fb, 5, none⟩ v') B fb i sz vf v' vp { f with tb := l } := by
  have hb := h2.keeps.get h.blk (FdW.ne h).2.1
  have hB := h.hB
  refine ⟨hb, ⟨block_set hb 5 v', (h.rows.tab h1 h2).keeps (Keeps.setCell (F := fun k => k = fb) (Keeps.refl _ _) (fun _ => rfl) _) (fun g hg e => by omega), h.hB, ?_⟩⟩
  have := h2.keeps.size
  have := h.hw
  simp [World.setCell]; omega
theorem FdSt.tab2 {w w' w'' : World} {B fb : Nat} {i : In} {sz : Int} {vf vt vp v' v'' : Value} {f : Fd} {l l' : List Int} (h : FdSt w B fb i sz vf vt vp f) (h1 : rowI w' B v' l) (h2 : GrewS w w' vt v') (h3 : rowI w'' B v'' l') (h4 : GrewS w' w'' v' v'') :
    w''.heap[fb]? = some (.cells (fdA i sz vf vt vp) 69 (0, 0)) ∧ FdSt (w''.setCell ⟨fb, 5, none⟩ v'') B fb i sz vf v'' vp { f with tb := l' } := by
  have hb := h2.keeps.get h.blk (FdW.ne h).2.1
  have hB := h.hB
  have hb2 := h4.keeps.get hb (fun e => by have := (owns_lt h1 fb e).1; omega)
  refine ⟨hb2, ⟨block_set hb2 5 v'', ((h.rows.tab h1 h2).tab h3 h4).keeps (Keeps.setCell (F := fun k => k = fb) (Keeps.refl _ _) (fun _ => rfl) _) (fun g hg e => by omega), h.hB, ?_⟩⟩
  have := h2.keeps.size
  have := h4.keeps.size
  have := h.hw
  simp [World.setCell]; omega
theorem FdSt.pag {w w' : World} {B fb : Nat} {i : In} {sz : Int} {vf vt vp v' : Value} {f : Fd} {l : List Int} (h : FdSt w B fb i sz vf vt vp f) (h1 : rowU w' B v' l) (h2 : GrewS w w' vp v') :
    w'.heap[fb]? = some (.cells (fdA i sz vf vt vp) 69 (0, 0)) ∧ FdSt (w'.setCell ⟨fb, 6, none⟩ v') B fb i sz vf vt v' { f with pg := l } := by
  have hb := h2.keeps.get h.blk (FdW.ne h).2.2
  have hB := h.hB
  refine ⟨hb, ⟨block_set hb 6 v', (h.rows.pag h1 h2).keeps (Keeps.setCell (F := fun k => k = fb) (Keeps.refl _ _) (fun _ => rfl) _) (fun g hg e => by omega), h.hB, ?_⟩⟩
  have := h2.keeps.size
  have := h.hw
  simp [World.setCell]; omega
/-- A machine's state, as a value: its root, its status and its place. -/
structure StV (S : Array Value) (root ps pc : Nat) : Prop where
  size : S.size = 19
  ones : Ones S
  e8 : S[8]? = some (.int .u32 (pc : Nat))
  e9 : S[9]? = some (.int .u32 (ps : Nat))
  e10 : S[10]? = some (.int .u32 (root : Nat))
  hr : root < 4294967296
  hp : ps < 4294967296
  hc : pc < 4294967296
/-- A memory lies below B, and is not the block fb. -/
structure RamLow (R : RamAt) (B fb : Nat) : Prop where
  b : R.b < B
  S : R.S < B
  A : R.A < B
  b' : R.b ≠ fb
  S' : R.S ≠ fb
  A' : R.A ≠ fb
theorem Fst.ram {w w' : World} {B fb : Nat} {R : RamAt} {M : List Int} (h : Fst w B fb w') (H : IsRam w R M) (l : RamLow R B fb) : IsRam w' R M :=
  H.keeps h.keeps (by have := l.b; have := l.b'; omega) (by have := l.S; have := l.S'; omega) (by have := l.A; have := l.A'; omega)
/-- One byte, and what is gone through for it. -/
def byteL (R : RamAt) (M : List Int) (root ps va : Nat) (f : Fd) : Option Int × Fd :=
  match toL R M root ps va 1 with
  | none => (none, f)
  | some a =>
    (some (R.get M a), ⟨putL f.fr ((a : Int) / 64), if ps / 4 % 2 = 0 then f.tb else putL (putL f.tb (((lookL R M root va).getD way0).dir : Nat)) (((lookL R M root va).getD way0).tab : Nat), putL f.pg ((va : Int) / 64)⟩)
theorem toL_lt {R : RamAt} {M : List Int} {root ps va : Nat} {k : Int} {a : Nat} (h : toL R M root ps va k = some a) : a < 64 * R.n := by
  unfold toL at h
  split at h
  · split at h
    · rename_i hz; simp only [Option.some.injEq] at h; omega
    · cases h
  · split at h
    · cases h
    · rename_i hx
      split at h
      · simp only [Option.some.injEq] at h
        have := (lookL_bd hx).2
        omega
      · cases h
set_option maxRecDepth 100000 in
set_option maxHeartbeats 4000000 in
theorem byteAt_any {R : RamAt} {M : List Int} (w : World) (H : IsRam w R M) (B fb : Nat) (hl : RamLow R B fb) (i : In) (sz : Int) (vf vt vp : Value) (f : Fd) (h : FdSt w B fb i sz vf vt vp f) (n : Nat) (hf : f.Ok n) (hn : n ≤ 1000)
    (S : Array Value) (root ps pc va : Nat) (hS : StV S root ps pc) (hv : va < 4294967296) :
    Calls Tryz.prog 44 #[.pointer (some ⟨fb, 0, none⟩), .pointer (some ⟨R.b, 0, none⟩), .agg S, .int .u32 va] w fun e w' =>
      e = .returned (.tuple #[.int .u8 ((byteL R M root ps va f).1.getD 0), .bool (byteL R M root ps va f).1.isSome]) ∧ Fst w B fb w' ∧ ∃ vf' vt' vp', FdSt w' B fb i sz vf' vt' vp' (byteL R M root ps va f).2 := by
  have hsz := hS.size
  obtain ⟨_, g9⟩ := Array.getElem?_eq_some_iff.1 hS.e9
  obtain ⟨_, g10⟩ := Array.getElem?_eq_some_iff.1 hS.e10
  have HT : Hid (∀ u, IsRam u R M → _) := hidE (fun u hu => to_any u hu root ps va hS.hr hS.hp hv 1 (by omega) (by omega))
  have HL : Hid (∀ u, IsRam u R M → _) := hidE (fun u hu => look_any u hu root va hS.hr hv)
  have HH := hidE H
  have HF := hidE h
  generalize hz : byteL R M root ps va f = Z
  unfold byteL at hz
  cases ht : toL R M root ps va 1 with
  | none =>
    rw [ht] at HT
    rw [ht] at hz
    subst hz
    clear H h
    go_enter Tryz.func44, Tryz.ntmps44
    go_wp2_with fail
    refine (HT.out _ (HH.out.same ((Keeps.refl _ _).alloc _))).mono ?_
    rintro _ w2 ⟨rfl, hk⟩
    have HK := hidE (((Keeps.refl (fun _ => False) w).alloc _).trans hk)
    clear hk
    simp only [Option.getD_none, Option.isSome_none]
    go_wp2
    go_ret2
    exact ⟨rfl, Fst.same _ _ HK.out, vf, vt, vp, HF.out.same HK.out⟩
  | some a =>
    rw [ht] at HT
    rw [ht] at hz
    have hla := toL_lt ht
    have hn5 := HH.out.n2
    subst hz
    clear H h
    have a4 := and_4 (ps : Int) (by have := hS.hp; omega) (by have := hS.hp; omega)
    by_cases h4 : ps / 4 % 2 = 0
    · have q4 : ((ps : Int) / 4 % 2 * 4 != 0) = false := by simp [bne]; omega
      simp only [if_pos h4]
      go_enter Tryz.func44, Tryz.ntmps44
      go_wp2_with fail
      refine (HT.out _ (HH.out.same ((Keeps.refl _ _).alloc _))).mono ?_
      rintro _ w2 ⟨rfl, hk⟩
      have c9 := cell_of (hk.get (block_new w (.cells S 28)) id)
      have HK := hidE (((Keeps.refl (fun _ => False) w).alloc _).trans hk)
      have HF2 := hidE (HF.out.same HK.out)
      have cf := cell_of HF2.out.blk
      have ff := frozen_of HF2.out.blk
      clear hk
      simp only [fdA] at cf
      simp only [Option.getD_some, Option.isSome_some]
      have d0 : (a : Int).tdiv 64 = ((a / 64 : Nat) : Int) := by rw [Int.tdiv_eq_ediv_of_nonneg (by omega)]; omega
      have d1 := wrapI ((a : Int) / 64) (by omega) (by omega)
      go_wp2_with fail
      refine (putI w2 B vf f.fr ((a : Int) / 64) HF2.out.rows.rf hf.r1 (by have := hf.l1; omega) HF2.out.hw).mono ?_
      rintro _ w3 ⟨vf', rfl, hr3, hg3⟩
      obtain ⟨pf, cf', rfl⟩ := owns_sl hr3
      have HF3 := hidE (FdSt.fra HF2.out hr3 hg3)
      have HT3 := hidE ((Fst.same B fb HK.out).trans ((Fst.grew HF2.out.rows.rf (by decide) hg3).trans (Fst.set HF.out.hB 4 (.slice pf (putL f.fr ((a : Int) / 64)).length cf'))))
      have c3 := cell_of HF3.out.1
      have f3 := frozen_of HF3.out.1
      have e6 := cell_of HF3.out.2.blk
      simp only [fdA] at c3 e6
      clear hr3 hg3 cf ff
      have e6 := e6 6
      go_wp2_with fail
      refine (putU _ B vp f.pg ((va : Int) / 64) HF3.out.2.rows.rp hf.r3 (by have := hf.l3; omega) HF3.out.2.hw).mono ?_
      rintro _ w4 ⟨vp', rfl, hr4, hg4⟩
      obtain ⟨pp, cp', rfl⟩ := owns_sl hr4
      have HF4 := hidE (FdSt.pag HF3.out.2 hr4 hg4)
      have HT4 := hidE (HT3.out.trans ((Fst.grew (fb := fb) HF3.out.2.rows.rp (by decide) hg4).trans (Fst.set HF.out.hB 6 (.slice pp (putL f.pg ((va : Int) / 64)).length cp'))))
      have c4 := cell_of HF4.out.1
      have f4 := frozen_of HF4.out.1
      simp only [fdA] at c4
      have HB := hidE (byte_ram _ (HT4.out.ram HH.out hl) a (by omega))
      simp only [if_pos hla] at HB
      clear hr4 hg4 c3 f3 e6
      go_wp2_with fail
      refine HB.out.mono ?_
      rintro _ w5 ⟨rfl, rfl⟩
      go_wp2
      go_ret2
      exact ⟨rfl, HT4.out, _, _, _, HF4.out.2⟩
    · have q4 : ((ps : Int) / 4 % 2 * 4 != 0) = true := by simp [bne]; omega
      simp only [if_neg h4]
      obtain ⟨x, hx⟩ : ∃ x, lookL R M root va = some x := by
        unfold toL at ht
        rw [if_neg h4] at ht
        cases hx : lookL R M root va with
        | none => rw [hx] at ht; cases ht
        | some x => exact ⟨x, rfl⟩
      rw [hx] at HL
      simp only [hx, Option.getD_some]
      obtain ⟨x1, x2, x3, x4, x5, x6⟩ := x
      simp only [wayA, Option.getD_some, Option.isSome_some] at HL
      simp only
      go_enter Tryz.func44, Tryz.ntmps44
      go_wp2_with fail
      refine (HT.out _ (HH.out.same ((Keeps.refl _ _).alloc _))).mono ?_
      rintro _ w2 ⟨rfl, hk⟩
      have b9 := hk.get (block_new w (.cells S 28)) id
      have c9 := cell_of b9
      have HK0 := hidE (((Keeps.refl (fun _ => False) w).alloc _).trans hk)
      clear hk
      simp only [Option.getD_some, Option.isSome_some]
      go_wp2_with fail
      refine (HL.out _ (HH.out.same HK0.out)).mono ?_
      rintro _ w3 ⟨rfl, hk⟩
      have HK := hidE (HK0.out.trans hk)
      clear hk c9
      have HF2 := hidE (HF.out.same (HK.out.alloc (.cells #[.int .u32 (x1 : Nat), .int .u32 (x2 : Nat), .int .u32 (x3 : Nat), .int .i64 (x4 : Nat), .int .i64 (x5 : Nat), .int .i64 (x6 : Nat)] 178)).drew)
      go_wp2_with fail
      have hwz := HF.out.hw
      have hs3 := HK.out.size
      have tl0 := fun k e => (owns_lt HF.out.rows.rt k e).2
      have cc := cell_of HF2.out.blk
      simp only [fdA] at cc
      have cw := cell_of (show (w3.alloc (.cells #[.int .u32 (x1 : Nat), .int .u32 (x2 : Nat), .int .u32 (x3 : Nat), .int .i64 (x4 : Nat), .int .i64 (x5 : Nat), .int .i64 (x6 : Nat)] 178)).drew.heap[w3.heap.size]? = _ from block_new _ _)
      obtain ⟨pt0, ct0, rfl⟩ := owns_sl HF.out.rows.rt
      refine wp_region_evp [0, 1, 2, 3, 4, 5, 6, 8, 9] [7, 10, 11, 12, 13] 2 (fun u => u.cell? ⟨fb, 5, none⟩ = some (.slice pt0 f.tb.length ct0) ∧ u.cell? ⟨w3.heap.size, 3, none⟩ = some (.int .i64 (x4 : Nat)) ∧ u.cell? ⟨w3.heap.size, 4, none⟩ = some (.int .i64 (x5 : Nat))) (by kernel_rfl) (by kernel_rfl) (fun c a d v w h => by cases d <;> exact h) ⟨cc 5, cw 3, cw 4⟩ ?_
      clear cc cw
      simp only [opsOf, List.filterMap_cons, List.filterMap_nil, List.getElem?_cons_zero, List.getElem?_cons_succ]
      repeat (refine stS_cons (v := ?_) rfl (fun u hu => ?_) ?_; rotate_left; · (obtain ⟨u1, u2, u3⟩ := hu; go_simp; first | done | with_reducible rfl); (try simp only [Act.put, List.setIfInBounds_toArray, List.set_cons_zero, List.set_cons_succ]))
      refine stS_nil ?_
      refine wpListS_cons ?_
      go_wp2_with fail
      refine (putI _ B _ f.tb (x4 : Nat) HF2.out.rows.rt hf.r2 (by have := hf.l2; omega) HF2.out.hw).mono ?_
      rintro _ w4 ⟨vt1, rfl, hr4, hg4⟩
      obtain ⟨pt1, ct1, rfl⟩ := owns_sl hr4
      have bfb := hg4.keeps.get HF2.out.blk (FdW.ne HF2.out).2.1
      have bw := hg4.keeps.get (show (w3.alloc (.cells #[.int .u32 (x1 : Nat), .int .u32 (x2 : Nat), .int .u32 (x3 : Nat), .int .i64 (x4 : Nat), .int .i64 (x5 : Nat), .int .i64 (x6 : Nat)] 178)).drew.heap[w3.heap.size]? = _ from block_new _ _) (fun e => by have := tl0 _ e; omega)
      have cc := cell_of bfb
      simp only [fdA] at cc
      have cw := cell_of bw
      have k1 := cc 5
      have k2 := cw 3
      have k3 := cw 4
      have HR4 := hidE hr4
      have HG4 := hidE hg4
      clear hr4 hg4 cc cw
      go_wp2
      refine Then1_mk ⟨⟨k1, k2, k3⟩, ?_⟩
      refine wpListS_cons ?_
      go_wp2_with fail
      refine (putI w4 B _ (putL f.tb (x4 : Nat)) (x5 : Nat) HR4.out (rising_putL hf.r2 _) (by have := hf.l2; have := length_putL_le f.tb (x4 : Nat); omega) (Nat.le_trans HF2.out.hw HG4.out.keeps.size)).mono ?_
      rintro _ w5 ⟨vt2, rfl, hr5, hg5⟩
      obtain ⟨pt2, ct2, rfl⟩ := owns_sl hr5
      have HF5 := hidE (FdSt.tab2 HF2.out HR4.out HG4.out hr5 hg5)
      have HT5 := hidE ((Fst.same B fb (HK.out.alloc (.cells #[.int .u32 (x1 : Nat), .int .u32 (x2 : Nat), .int .u32 (x3 : Nat), .int .i64 (x4 : Nat), .int .i64 (x5 : Nat), .int .i64 (x6 : Nat)] 178)).drew).trans ((Fst.grew HF2.out.rows.rt (by decide) HG4.out).trans ((Fst.grew HR4.out (by decide) hg5).trans (Fst.set HF.out.hB 5 (.slice pt2 (putL (putL f.tb (x4 : Nat)) (x5 : Nat)).length ct2)))))
      have bw5 := hg5.keeps.get bw (fun e => by
        rcases HG4.out.fresh _ e with e | e
        · have := tl0 _ e; omega
        · simp at e; omega)
      have cc := cell_of HF5.out.1
      have f5 := frozen_of HF5.out.1
      simp only [fdA] at cc
      have cw := cell_of bw5
      have k1' := cc 5
      have k2' := cw 3
      have k3' := cw 4
      have c6 := cell_of HF5.out.2.blk
      simp only [fdA] at c6
      have c64 := c6 4
      have c66 := c6 6
      have d0 : (a : Int).tdiv 64 = ((a / 64 : Nat) : Int) := by rw [Int.tdiv_eq_ediv_of_nonneg (by omega)]; omega
      have d1 := wrapI ((a : Int) / 64) (by omega) (by omega)
      clear hr5 hg5 cw k1 k2 k3 c6 bw bw5 bfb
      go_wp2
      refine Then1_mk ⟨⟨k1', k2', k3'⟩, ?_⟩
      refine wpListS_zero ?_
      go_wp2_with fail
      refine (putI _ B vf f.fr ((a : Int) / 64) HF5.out.2.rows.rf hf.r1 (by have := hf.l1; omega) HF5.out.2.hw).mono ?_
      rintro _ w6 ⟨vf', rfl, hr3, hg3⟩
      obtain ⟨pf, cf', rfl⟩ := owns_sl hr3
      have HF3 := hidE (FdSt.fra HF5.out.2 hr3 hg3)
      have HT3 := hidE (HT5.out.trans ((Fst.grew (fb := fb) HF5.out.2.rows.rf (by decide) hg3).trans (Fst.set HF.out.hB 4 (.slice pf (putL f.fr ((a : Int) / 64)).length cf'))))
      have c3 := cell_of HF3.out.1
      have f3 := frozen_of HF3.out.1
      have e6 := cell_of HF3.out.2.blk
      simp only [fdA] at c3 e6
      clear hr3 hg3
      have e6 := e6 6
      go_wp2_with fail
      refine (putU _ B vp f.pg ((va : Int) / 64) HF3.out.2.rows.rp hf.r3 (by have := hf.l3; omega) HF3.out.2.hw).mono ?_
      rintro _ w7 ⟨vp', rfl, hr4, hg4⟩
      obtain ⟨pp, cp', rfl⟩ := owns_sl hr4
      have HF7 := hidE (FdSt.pag HF3.out.2 hr4 hg4)
      have HT7 := hidE (HT3.out.trans ((Fst.grew (fb := fb) HF3.out.2.rows.rp (by decide) hg4).trans (Fst.set HF.out.hB 6 (.slice pp (putL f.pg ((va : Int) / 64)).length cp'))))
      have c4 := cell_of HF7.out.1
      have f4 := frozen_of HF7.out.1
      simp only [fdA] at c4
      have HB := hidE (byte_ram _ (HT7.out.ram HH.out hl) a (by omega))
      simp only [if_pos hla] at HB
      clear hr4 hg4 c3 f3 e6
      go_wp2_with fail
      refine HB.out.mono ?_
      rintro _ w8 ⟨rfl, rfl⟩
      go_wp2
      go_ret2
      exact ⟨rfl, HT7.out, _, _, _, HF7.out.2⟩
end Go.Proofs.YtjkjnomhggmplaaGreat
