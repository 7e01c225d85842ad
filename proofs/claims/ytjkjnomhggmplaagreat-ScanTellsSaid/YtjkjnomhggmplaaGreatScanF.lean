/- Package scan: the walk of lay. -/
import Derived.Test.YtjkjnomhggmplaaGreatScanE
namespace Go.Proofs.YtjkjnomhggmplaaGreat
open Go.RowKit

def layL (b : Bl) (i : In) (sz : Int) (f : Fd) : Bl := ⟨b.ins ++ [i], b.at_ ++ [(b.next : Int)], (b.next + sz.toNat) % 4294967296, b.to, b.en, f.fr.foldl putL b.fr, f.tb.foldl putL b.tb⟩
structure LayPo (w : World) (B : Nat) (vi0 va0 vf0 vt0 : Value) (b : Bl) (w' : World) (vi va vf vt : Value) : Prop where
  rows : BlW w' B vi va vf vt b
  keep : Keeps (Own4 vi0 va0 vf0 vt0) w w'
  o1 : From w.heap.size vi0 vi
  o2 : From w.heap.size va0 va
  o3 : From w.heap.size vf0 vf
  o4 : From w.heap.size vt0 vt
theorem layI_new {w : World} {B : Nat} {vi va vf vt uf ut up : Value} {b : Bl} {i : In} {sz : Int} {f : Fd} (hw : BlW w B vi va vf vt b) (hf : rowI w 0 uf f.fr) (ht : rowI w 0 ut f.tb)
    (hap : ∀ k, some k = uf.ownBlock ∨ some k = ut.ownBlock → some k ≠ vf.ownBlock ∧ some k ≠ vt.ownBlock) (hB : B ≤ w.heap.size) :
    LayI w B vi va vf vt i sz uf ut up f (((w.alloc (.cells #[vi, va, .int .u32 (b.next : Nat), .int .u32 (b.to : Nat), .int .i64 b.en, vf, vt] 40)).alloc (.cells #[.int .u8 i.op, .int .u8 i.a, .int .u8 i.b, .int .i32 i.imm, uf, ut, up, .int .i64 sz] 69)).alloc (.cells #[.slice none 0 0, .slice none 0 0, .int .u32 0, .int .u32 0, .int .i64 0, .slice none 0 0, .slice none 0 0] 40)) vi va vf vt b := by
  have k : Same w (((w.alloc (.cells #[vi, va, .int .u32 (b.next : Nat), .int .u32 (b.to : Nat), .int .i64 b.en, vf, vt] 40)).alloc (.cells #[.int .u8 i.op, .int .u8 i.a, .int .u8 i.b, .int .i32 i.imm, uf, ut, up, .int .i64 sz] 69)).alloc (.cells #[.slice none 0 0, .slice none 0 0, .int .u32 0, .int .u32 0, .int .i64 0, .slice none 0 0, .slice none 0 0] 40)) := (((Keeps.refl _ _).alloc _).alloc _).alloc _
  refine ⟨block_old _ (block_old _ (block_new _ _)), block_old _ (block_atR _ (by simp)), block_atR _ (by simp), ⟨owns_stay hw.ri k (fun _ _ => id), owns_stay hw.ra k (fun _ _ => id), owns_stay hw.rf k (fun _ _ => id), owns_stay hw.rt k (fun _ _ => id), hw.ft⟩, owns_stay hf k (fun _ _ => id), owns_stay ht k (fun _ _ => id), fun j hj => ⟨?_, hap j hj⟩, From.refl _ _, From.refl _ _, From.refl _ _, From.refl _ _, fun j hj => ?_, k.mono fun _ _ h => h.elim, hB⟩
  · rcases hj with e | e
    · exact (owns_lt hf j e).2
    · exact (owns_lt ht j e).2
  · rcases hj with e | e | e | e
    · exact (owns_lt hw.rf j e).2
    · exact (owns_lt hw.rt j e).2
    · exact (owns_lt hw.ri j e).2
    · exact (owns_lt hw.ra j e).2
theorem LayI.fin {w : World} {B : Nat} {vi0 va0 vf0 vt0 : Value} {i : In} {sz : Int} {uf ut up : Value} {f : Fd} {wr : World} {vi va vf vt : Value} {b : Bl} (h : LayI w B vi0 va0 vf0 vt0 i sz uf ut up f wr vi va vf vt b) (A : Array Value) :
    LayPo w B vi0 va0 vf0 vt0 b (wr.setRow (w.heap.size + 1 + 1) A) vi va vf vt := by
  have k : Keeps (fun k => k = w.heap.size + 1 + 1) wr (wr.setRow (w.heap.size + 1 + 1) A) := Keeps.setRow (F := fun k => k = w.heap.size + 1 + 1) (Keeps.refl _ _) (fun _ => rfl) _
  exact ⟨⟨owns_box h.rows.ri h.b4 (by decide) k, owns_box h.rows.ra h.b4 (by decide) k, owns_box h.rows.rf h.b4 (by decide) k, owns_box h.rows.rt h.b4 (by decide) k, h.rows.ft⟩, h.keep.trans2 k (fun j hj e => by omega), h.o1, h.o2, h.o3, h.o4⟩
theorem rising_fold : ∀ (l xs : List Int), Rising xs → Rising (l.foldl putL xs)
  | [], _, h => h
  | x :: l, xs, h => rising_fold l (putL xs x) (rising_putL h x)
theorem length_fold : ∀ (l xs : List Int), (l.foldl putL xs).length ≤ xs.length + l.length
  | [], _ => Nat.le_refl _
  | x :: l, xs => by
    have := length_fold l (putL xs x)
    have := length_putL_le xs x
    simp only [List.foldl_cons, List.length_cons]
    omega
theorem x_ldB (ρ : Operand → Value) (dst : Option Tmp) (x : Operand) (ty : TypeId) (pos : String) (after : Array Edge) (guard : Option (Nat × Bool)) :
    execOp ρ { dst, op := .load 40 x, type := ty, pos, after, guard } = ldRow 40 (ρ x) := rfl
theorem x_stB (ρ : Operand → Value) (dst : Option Tmp) (x y : Operand) (ty : TypeId) (pos : String) (after : Array Edge) (guard : Option (Nat × Bool)) :
    execOp ρ { dst, op := .store 40 x y, type := ty, pos, after, guard } = stRow 40 (ρ x) (ρ y) := rfl
theorem ld_B {w : World} {g : Nat} {b : Bl} {vi va vf vt : Value} (hb : w.heap[g]? = some (.cells (blA b vi va vf vt) 40 (0, 0))) :
    (ldRow 40 (.pointer (some ⟨g, 0, none⟩))).run Tryz.prog w = .ok (.value (.agg (blA b vi va vf vt))) w := by
  have h := ldRow_run (P := Tryz.prog) w 40 g 6 _ Tryz.underlying40 rfl (by kernel_rfl) (by rw [rowAt_of hb]; rfl)
  rw [rowAt_of hb] at h
  exact h
theorem st_B {w : World} {g : Nat} {A : Array Value} {b : Bl} {vi va vf vt : Value} (hb : w.heap[g]? = some (.cells A 40 (0, 0))) (hA : A.size = 7) (h1 : vi.oneCell' = true) (h2 : va.oneCell' = true) (h3 : vf.oneCell' = true) (h4 : vt.oneCell' = true) :
    (stRow 40 (.pointer (some ⟨g, 0, none⟩)) (.agg (blA b vi va vf vt))).run Tryz.prog w = .ok .skip (w.setRow g (blA b vi va vf vt)) :=
  stRow_run w _ _ 6 _ (by kernel_rfl) (by rw [rowAt_of hb, hA]) rfl (by simp [Ones, blA, oc_int, h1, h2, h3, h4])
attribute [local go_sem ↓] x_ldB x_stB
def LRel1 (w : World) (B : Nat) (vi0 va0 vf0 vt0 : Value) (i : In) (sz : Int) (uf ut up : Value) (f : Fd) (vi va vt : Value) (b : Bl) (k : Nat) (wr : World) : Prop :=
  ∃ vf, LayI w B vi0 va0 vf0 vt0 i sz uf ut up f wr vi va vf vt { b with fr := (f.fr.take k).foldl putL b.fr }
def LRel2 (w : World) (B : Nat) (vi0 va0 vf0 vt0 : Value) (i : In) (sz : Int) (uf ut up : Value) (f : Fd) (vi va vf : Value) (b : Bl) (k : Nat) (wr : World) : Prop :=
  ∃ vt, LayI w B vi0 va0 vf0 vt0 i sz uf ut up f wr vi va vf vt { b with tb := (f.tb.take k).foldl putL b.tb }
theorem fold_take (l xs : List Int) (k : Nat) (h : k < l.length) : (l.take (k + 1)).foldl putL xs = putL ((l.take k).foldl putL xs) l[k] := by
  rw [List.take_succ_eq_append_getElem h, List.foldl_append]; rfl
set_option maxRecDepth 100000 in
set_option maxHeartbeats 4000000 in
theorem sLay_any (w : World) (B : Nat) (vi va vf vt uf ut up : Value) (b : Bl) (i : In) (sz : Int) (f : Fd) (hw : BlW w B vi va vf vt b) (hf : rowI w 0 uf f.fr) (ht : rowI w 0 ut f.tb)
    (hap : ∀ k, some k = uf.ownBlock ∨ some k = ut.ownBlock → some k ≠ vf.ownBlock ∧ some k ≠ vt.ownBlock) (hB : B ≤ w.heap.size) (r1 : Rising b.fr) (r2 : Rising b.tb) (l1 : b.ins.length ≤ 1000) (l2 : b.at_.length ≤ 1000) (l3 : b.fr.length ≤ 1000) (l4 : b.tb.length ≤ 1000) (l5 : f.fr.length ≤ 100) (l6 : f.tb.length ≤ 100)
    (_hn : b.next < 4294967296) (s0 : 0 ≤ sz) (s6 : sz ≤ 6) :
    Calls Tryz.prog 24 #[.agg (blA b vi va vf vt), .agg (fdA i sz uf ut up)] w fun e w' => ∃ vi' va' vf' vt', e = .returned (.agg (blA (layL b i sz f) vi' va' vf' vt')) ∧ LayPo w B vi va vf vt (layL b i sz f) w' vi' va' vf' vt' := by
  obtain ⟨pi, ci, rfl⟩ := owns_sl hw.ri
  obtain ⟨pa, ca, rfl⟩ := owns_sl hw.ra
  obtain ⟨pf, cf, rfl⟩ := owns_sl hw.rf
  obtain ⟨pt, ct, rfl⟩ := owns_sl hw.rt
  obtain ⟨qf, df, rfl⟩ := owns_sl hf
  obtain ⟨qt, dt, rfl⟩ := owns_sl ht
  have HI := hidE (layI_new (i := i) (sz := sz) (up := up) hw hf ht hap hB)
  have e1 : IntKind.u32.wrap sz = sz := by simp [IntKind.wrap, IntKind.bits, IntKind.signed]; omega
  have e2 : IntKind.u32.wrap ((b.next : Int) + sz) = (((b.next + sz.toNat) % 4294967296 : Nat) : Int) := by simp [IntKind.wrap, IntKind.bits, IntKind.signed]; omega
  clear hw hf ht hap
  simp only [blA, fdA] at *
  generalize hLi : b.ins.length = Li at *
  generalize hLa : b.at_.length = La at *
  generalize hLf : b.fr.length = Lf at *
  generalize hLt : b.tb.length = Lt at *
  generalize hLg : f.fr.length = Lg at *
  generalize hLh : f.tb.length = Lh at *
  generalize hnx : (b.next + sz.toNat) % 4294967296 = nx at *
  have HNX := hidE hnx
  have HLL := hidE (And.intro hLi (And.intro hLa (And.intro hLf (And.intro hLt (And.intro hLg hLh)))))
  clear hLi hLa hLf hLt hLg hLh hnx
  go_enter Tryz.func24, Tryz.ntmps24
  go_wp2_with (first
    | (at_builtin; go_loud (refine appendN rfl (.tmp 10) (.tmp 13) rfl B _ b.ins rfl (HI.out.same ((Keeps.refl (fun _ => False) _).alloc (.cells #[.int .u8 i.op, .int .u8 i.a, .int .u8 i.b, .int .i32 i.imm] 67))).rows.ri _ 1 i rfl ⟨_, block_atR _ (by simp)⟩ (by have := HLL.out.1; omega) (by simp; omega) ?_; intro g1 cap1 w1 h1 h2; have HI1 := hidE ((HI.out.same ((Keeps.refl (fun _ => False) _).alloc (.cells #[.int .u8 i.op, .int .u8 i.a, .int .u8 i.b, .int .i32 i.imm] 67))).ins h1 h2); have c1 := cell_of HI1.out.1; have k1 := frozen_of HI1.out.1; simp only [blA] at c1; clear h1 h2))
    | (at_builtin; go_loud (refine appendU rfl (.tmp 17) (.tmp 20) rfl B _ b.at_ rfl (HI1.out.2.same ((Keeps.refl (fun _ => False) _).alloc (.cells #[.int .u32 (b.next : Nat)] 25))).rows.ra _ 1 (b.next : Nat) rfl ⟨_, block_atR _ (by simp [World.setCell])⟩ (by have := HLL.out.2.1; omega) (by have := HI1.out.2.size; have := HI1.out.2.hB; simp [World.setCell] at *; omega) ?_; intro g2 cap2 w2 h1 h2; have HI2 := hidE ((HI1.out.2.same ((Keeps.refl (fun _ => False) _).alloc (.cells #[.int .u32 (b.next : Nat)] 25))).at h1 h2); have c2 := cell_of HI2.out.1; have k2 := frozen_of HI2.out.1; have d2 := cell_of HI2.out.2.b3; simp only [blA] at c2; simp only [fdA] at d2; clear h1 h2)))
  have HIa := hidE (HI2.out.2.num nx)
  clear c1 k1 c2 k2 d2
  go_loopw [33] (fun t33 wr => ∃ k : Nat, k ≤ Lg ∧ t33 = .int .i64 k ∧ LRel1 w B (.slice pi Li ci) (.slice pa La ca) (.slice pf Lf cf) (.slice pt Lt ct) i sz (.slice qf Lg df) (.slice qt Lh dt) up f (.slice (some ⟨g1, 0, none⟩) (b.ins.length + 1) cap1) (.slice (some ⟨g2, 0, none⟩) (b.at_.length + 1) cap2) (.slice pt Lt ct) ⟨b.ins ++ [i], b.at_ ++ [(b.next : Int)], nx, b.to, b.en, b.fr, b.tb⟩ k wr) (fun t33 _ => Lg - (intOf t33).toNat)
  case atStart => exact ⟨0, by omega, rfl, _, HIa.out⟩
  case round =>
    obtain ⟨k, hk, rfl, vf, hL⟩ := hrel
    have HL := hidE hL
    have c2 := cell_of hL.b2
    have k2 := frozen_of hL.b2
    have d2 := cell_of hL.b3
    simp only [blA] at c2
    simp only [fdA] at d2
    have e3 := wrapI ((k : Int) + 1) (by omega) (by omega)
    clear hL HIa HI1 HI2 HI
    by_cases hlt : k < Lg
    · have q0 : decide ((k : Int) < (Lg : Int)) = true := by simpa using hlt
      obtain ⟨gq, cq, hq, -, -, -, -, hcq⟩ := rowI_get HL.out.hf (j := k) (by have := HLL.out.2.2.2.2.1; omega)
      have hcq := hcq k (by have := HLL.out.2.2.2.2.1; omega)
      obtain ⟨y, hy⟩ : ∃ y, f.fr[k]'(by have := HLL.out.2.2.2.2.1; omega) = y := ⟨_, rfl⟩
      rw [hy] at hcq
      obtain rfl : qf = some ⟨gq, 0, none⟩ := by cases hq; rfl
      clear hq
      go_wp2_with fail
      refine (putI wr B vf ((f.fr.take k).foldl putL b.fr) y HL.out.rows.rf (rising_fold _ _ r1) (by have h1 := length_fold (f.fr.take k) b.fr; have h2 := List.length_take_le k f.fr; have h3 := HLL.out.2.2.1; omega) (Nat.le_trans HL.out.hB HL.out.keep.size)).mono ?_
      rintro _ w3 ⟨v', rfl, h1, h2⟩
      obtain ⟨p3, n3, c3', rfl⟩ : ∃ p n c, v' = .slice p n c := (let ⟨p, c, e⟩ := owns_sl h1; ⟨p, _, c, e⟩)
      have HS := hidE (LayI.fra HL.out h1 h2)
      have c3 := cell_of HS.out.1
      have k3 := frozen_of HS.out.1
      simp only [blA] at c3
      have hft := fold_take f.fr b.fr k (by have := HLL.out.2.2.2.2.1; omega)
      rw [hy] at hft
      clear h1 h2 c2 k2 d2
      go_wp2
      go_roundw
      case rel =>
        refine ⟨k + 1, by omega, by go_num, .slice p3 n3 c3', ?_⟩
        rw [hft]
        exact HS.out.2
      case measure => simp only [intOf]; omega
    · have q0 : decide ((k : Int) < (Lg : Int)) = false := by simpa using hlt
      obtain rfl : Lg = k := by omega
      have hfull : f.fr.take Lg = f.fr := by rw [← HLL.out.2.2.2.2.1, List.take_length]
      rw [hfull] at HL
      go_wp2_with fail
      go_loopw [46] (fun t46 wr => ∃ k : Nat, k ≤ Lh ∧ t46 = .int .i64 k ∧ LRel2 w B (.slice pi Li ci) (.slice pa La ca) (.slice pf Lf cf) (.slice pt Lt ct) i sz (.slice qf Lg df) (.slice qt Lh dt) up f (.slice (some ⟨g1, 0, none⟩) (b.ins.length + 1) cap1) (.slice (some ⟨g2, 0, none⟩) (b.at_.length + 1) cap2) vf ⟨b.ins ++ [i], b.at_ ++ [(b.next : Int)], nx, b.to, b.en, f.fr.foldl putL b.fr, b.tb⟩ k wr) (fun t46 _ => Lh - (intOf t46).toNat)
      case atStart => exact ⟨0, by omega, rfl, _, HL.out⟩
      case round =>
        clear HL
        obtain ⟨k, hk, rfl, vt, hL⟩ := hrel
        have HL := hidE hL
        have c2 := cell_of hL.b2
        have k2 := frozen_of hL.b2
        have d2 := cell_of hL.b3
        simp only [blA] at c2
        simp only [fdA] at d2
        have e3 := wrapI ((k : Int) + 1) (by omega) (by omega)
        by_cases hlt : k < Lh
        · have q0 : decide ((k : Int) < (Lh : Int)) = true := by simpa using hlt
          obtain ⟨gq, cq, hq, -, -, -, -, hcq⟩ := rowI_get HL.out.ht (j := k) (by have := HLL.out.2.2.2.2.2; omega)
          have hcq := hcq k (by have := HLL.out.2.2.2.2.2; omega)
          obtain ⟨y, hy⟩ : ∃ y, f.tb[k]'(by have := HLL.out.2.2.2.2.2; omega) = y := ⟨_, rfl⟩
          rw [hy] at hcq
          obtain rfl : qt = some ⟨gq, 0, none⟩ := by cases hq; rfl
          clear hq hL
          go_wp2_with fail
          refine (putI wr B vt ((f.tb.take k).foldl putL b.tb) y HL.out.rows.rt (rising_fold _ _ r2) (by have h1 := length_fold (f.tb.take k) b.tb; have h2 := List.length_take_le k f.tb; have h3 := HLL.out.2.2.2.1; omega) (Nat.le_trans HL.out.hB HL.out.keep.size)).mono ?_
          rintro _ w3 ⟨v', rfl, h1, h2⟩
          obtain ⟨p3, n3, c3', rfl⟩ : ∃ p n c, v' = .slice p n c := (let ⟨p, c, e⟩ := owns_sl h1; ⟨p, _, c, e⟩)
          have HS := hidE (LayI.tab HL.out h1 h2)
          have c3 := cell_of HS.out.1
          have k3 := frozen_of HS.out.1
          simp only [blA] at c3
          have hft := fold_take f.tb b.tb k (by have := HLL.out.2.2.2.2.2; omega)
          rw [hy] at hft
          clear h1 h2 c2 k2 d2
          go_wp2
          go_roundw
          case rel =>
            refine ⟨k + 1, by omega, by go_num, .slice p3 n3 c3', ?_⟩
            rw [hft]
            exact HS.out.2
          case measure => simp only [intOf]; omega
        · have q0 : decide ((k : Int) < (Lh : Int)) = false := by simpa using hlt
          obtain rfl : Lh = k := by omega
          have hful2 : f.tb.take Lh = f.tb := by rw [← HLL.out.2.2.2.2.2, List.take_length]
          rw [hful2] at HL hL
          have hld := ld_B hL.b2
          have hst := st_B (vi := .slice (some ⟨g1, 0, none⟩) (b.ins.length + 1) cap1) (va := .slice (some ⟨g2, 0, none⟩) (b.at_.length + 1) cap2) (b := ⟨b.ins ++ [i], b.at_ ++ [(b.next : Int)], nx, b.to, b.en, f.fr.foldl putL b.fr, f.tb.foldl putL b.tb⟩) hL.b4 rfl rfl rfl (owns_one hL.rows.rf) (owns_one hL.rows.rt)
          have e4 := setRow_block hL.b4 (blA ⟨b.ins ++ [i], b.at_ ++ [(b.next : Int)], nx, b.to, b.en, f.fr.foldl putL b.fr, f.tb.foldl putL b.tb⟩ (.slice (some ⟨g1, 0, none⟩) (b.ins.length + 1) cap1) (.slice (some ⟨g2, 0, none⟩) (b.at_.length + 1) cap2) vf vt)
          clear c2 k2 d2 hL
          go_wp2
          have eL : layL b i sz f = ⟨b.ins ++ [i], b.at_ ++ [(b.next : Int)], nx, b.to, b.en, f.fr.foldl putL b.fr, f.tb.foldl putL b.tb⟩ := by unfold layL; rw [HNX.out]
          rw [eL]
          exact bodyPost_ret (results_c rfl rfl e4 Tryz.underlying40 rfl (by kernel_rfl)) rfl ⟨_, _, _, _, rfl, HL.out.fin _⟩
end Go.Proofs.YtjkjnomhggmplaaGreat
