/- Package scan: the closure of fetch. -/
import Derived.Test.YtjkjnomhggmplaaGreatScanA
namespace Go.Proofs.YtjkjnomhggmplaaGreat
open Go.RowKit

/-- What the closure of fetch stands on: the blocks from N on. -/
structure NxI (N : Nat) (w : World) (R : RamAt) (M : List Int) (S : Array Value) (root ps pc : Nat) (i : In) (sz : Int) (vb vf vt vp : Value) (bs : List Int) (f : Fd) : Prop where
  e3 : w.heap[N]? = some (.cells #[.pointer (some ⟨R.b, 0, none⟩)] 32 (0, 0))
  e4 : w.heap[N + 1]? = some (.cells S 28 (0, 0))
  e5 : w.heap[N + 1 + 1]? = some (.cells #[.int .u32 (pc : Nat)] 25 (0, 0))
  e9 : w.heap[N + 1 + 1 + 1 + 1 + 1 + 1]? = some (.cells #[vb] 22 (0, 0))
  fd : FdSt w (N + 1 + 1 + 1 + 1 + 1 + 1 + 1) (N + 1 + 1 + 1 + 1 + 1) i sz vf vt vp f
  rb : RowB w (N + 1 + 1 + 1 + 1 + 1 + 1 + 1) vb bs
  ram : IsRam w R M
  l1 : R.b < N
  l2 : R.S < N
  l3 : R.A < N
  st : ∃ q, StV S root ps q
/-- What it may turn. -/
def NxF (N k : Nat) : Prop := k = N + 1 + 1 + 1 + 1 + 1 ∨ k = N + 1 + 1 + 1 + 1 + 1 + 1 ∨ N + 1 + 1 + 1 + 1 + 1 + 1 + 1 ≤ k
def NxPost (N : Nat) (w : World) (R : RamAt) (M : List Int) (S : Array Value) (root ps pc : Nat) (i : In) (sz : Int) (bs : List Int) (f : Fd) (w' : World) : Prop :=
  (∃ vb vf vt vp, NxI N w' R M S root ps pc i sz vb vf vt vp bs f) ∧ Keeps (NxF N) w w'
theorem NxI.same {N : Nat} {w w' : World} {R : RamAt} {M : List Int} {S : Array Value} {root ps pc : Nat} {i : In} {sz : Int} {vb vf vt vp : Value} {bs : List Int} {f : Fd} (h : NxI N w R M S root ps pc i sz vb vf vt vp bs f) (k : Same w w') : NxI N w' R M S root ps pc i sz vb vf vt vp bs f :=
  ⟨k.get h.e3 id, k.get h.e4 id, k.get h.e5 id, k.get h.e9 id, h.fd.same k, owns_stay h.rb k fun _ _ => id, h.ram.same k, h.l1, h.l2, h.l3, h.st⟩
theorem NxI.low {N : Nat} {w : World} {R : RamAt} {M : List Int} {S : Array Value} {root ps pc : Nat} {i : In} {sz : Int} {vb vf vt vp : Value} {bs : List Int} {f : Fd} (h : NxI N w R M S root ps pc i sz vb vf vt vp bs f) : RamLow R (N + 1 + 1 + 1 + 1 + 1 + 1 + 1) (N + 1 + 1 + 1 + 1 + 1) := by
  have := h.l1
  have := h.l2
  have := h.l3
  exact ⟨by omega, by omega, by omega, by omega, by omega, by omega⟩
/-- Behind byteAt. -/
theorem NxI.step {N : Nat} {w w' : World} {R : RamAt} {M : List Int} {S : Array Value} {root ps pc : Nat} {i : In} {sz : Int} {vb vf vt vp vf' vt' vp' : Value} {bs : List Int} {f f' : Fd} (h : NxI N w R M S root ps pc i sz vb vf vt vp bs f)
    (k : Fst w (N + 1 + 1 + 1 + 1 + 1 + 1 + 1) (N + 1 + 1 + 1 + 1 + 1) w') (hf : FdSt w' (N + 1 + 1 + 1 + 1 + 1 + 1 + 1) (N + 1 + 1 + 1 + 1 + 1) i sz vf' vt' vp' f') : NxI N w' R M S root ps pc i sz vb vf' vt' vp' bs f' :=
  ⟨k.keeps.get h.e3 (by omega), k.keeps.get h.e4 (by omega), k.keeps.get h.e5 (by omega), k.keeps.get h.e9 (by omega), hf, k.bytes (by omega) h.rb, k.ram h.ram h.low, h.l1, h.l2, h.l3, h.st⟩
/-- Behind the byte that is laid. -/
theorem NxI.add {N : Nat} {w w' : World} {R : RamAt} {M : List Int} {S : Array Value} {root ps pc : Nat} {i : In} {sz : Int} {vb vf vt vp vb' : Value} {bs bs' : List Int} {f : Fd} (h : NxI N w R M S root ps pc i sz vb vf vt vp bs f)
    (hr : RowB w' (N + 1 + 1 + 1 + 1 + 1 + 1 + 1) vb' bs') (k : Keeps (fun k => N + 1 + 1 + 1 + 1 + 1 + 1 + 1 ≤ k ∧ some k = vb.ownBlock) w w') :
    w'.heap[N + 1 + 1 + 1 + 1 + 1 + 1]? = some (.cells #[vb] 22 (0, 0)) ∧ NxI N (w'.setCell ⟨N + 1 + 1 + 1 + 1 + 1 + 1, 0, none⟩ vb') R M S root ps pc i sz vb' vf vt vp bs' f ∧ Keeps (NxF N) w (w'.setCell ⟨N + 1 + 1 + 1 + 1 + 1 + 1, 0, none⟩ vb') := by
  have hb := k.get h.e9 (by omega)
  have k2 : Keeps (fun k => k = N + 1 + 1 + 1 + 1 + 1 + 1) w' (w'.setCell ⟨N + 1 + 1 + 1 + 1 + 1 + 1, 0, none⟩ vb') := Keeps.setCell (F := fun k => k = N + 1 + 1 + 1 + 1 + 1 + 1) (Keeps.refl _ _) (p := ⟨N + 1 + 1 + 1 + 1 + 1 + 1, 0, none⟩) (fun _ => rfl) _
  have hfd := h.fd
  have hl := h.low
  refine ⟨hb, ⟨k2.get (k.get h.e3 (by omega)) (by omega), k2.get (k.get h.e4 (by omega)) (by omega), k2.get (k.get h.e5 (by omega)) (by omega), block_set hb 0 vb', ⟨k2.get (k.get hfd.blk (by omega)) (by omega), ?_, hfd.hB, ?_⟩, owns_stay hr k2 (fun g e e' => by have := (owns_lt hr g e).1; omega),
    (h.ram.keeps k (by have := hl.b; omega) (by have := hl.S; omega) (by have := hl.A; omega)).keeps k2 (by have := h.l1; omega) (by have := h.l2; omega) (by have := h.l3; omega), h.l1, h.l2, h.l3, h.st⟩, (k.mono fun g _ hg => .inr (.inr hg.1)).trans (k2.mono fun g _ hg => .inr (.inl hg))⟩
  · refine FdW.keeps (F := fun k => k = N + 1 + 1 + 1 + 1 + 1 + 1) ?_ k2 (fun g hg e => by omega)
    have hr0 := hfd.rows
    exact ⟨owns_stay hr0.rf k fun g e e' => owns_apart h.rb hr0.rf (by decide) g e'.2 e, owns_stay hr0.rt k fun g e e' => owns_apart h.rb hr0.rt (by decide) g e'.2 e, owns_stay hr0.rp k fun g e e' => owns_apart h.rb hr0.rp (by decide) g e'.2 e, hr0.ft⟩
  · have := k.size
    have := hfd.hw
    simp [World.setCell]; omega
theorem owns_box {w w' : World} {B : Nat} {e : TypeId} {s n : Nat} {v : Value} {xs : List Value} (h : w.ownsRow B e s v n xs) {g : Nat} {cur : Array Value} {T : TypeId} {f : Nat × Nat} (hg : w.heap[g]? = some (.cells cur T f)) (he : e ≠ T) (k : Keeps (fun k => k = g) w w') : w'.ownsRow B e s v n xs :=
  owns_stay h k fun j e1 e2 => by
    obtain ⟨-, ⟨rfl, -⟩ | ⟨g', cap, cur2, rfl, -, hg', -⟩⟩ := h
    · simp [Value.ownBlock] at e1
    · simp only [Value.ownBlock, Option.some.injEq] at e1
      subst e1
      subst e2
      rw [hg'] at hg
      cases hg
      exact he rfl
theorem owns_no {w : World} {B : Nat} {e : TypeId} {s n : Nat} {v : Value} {xs : List Value} (h : w.ownsRow B e s v n xs) {g : Nat} {cur : Array Value} {T : TypeId} {f : Nat × Nat} (hg : w.heap[g]? = some (.cells cur T f)) (he : e ≠ T) (e1 : some g = v.ownBlock) : False := by
  obtain ⟨-, ⟨rfl, -⟩ | ⟨g', cap, cur2, rfl, -, hg', -⟩⟩ := h
  · simp [Value.ownBlock] at e1
  · simp only [Value.ownBlock, Option.some.injEq] at e1
    subst e1
    rw [hg'] at hg
    cases hg
    exact he rfl
/-- Where another block has turned. -/
theorem NxI.box {N : Nat} {w w' : World} {R : RamAt} {M : List Int} {S : Array Value} {root ps pc : Nat} {i : In} {sz : Int} {vb vf vt vp : Value} {bs : List Int} {f : Fd} (h : NxI N w R M S root ps pc i sz vb vf vt vp bs f)
    {g : Nat} {cur : Array Value} {T : TypeId} {z : Nat × Nat} (hg : w.heap[g]? = some (.cells cur T z)) (hN : N + 1 + 1 + 1 + 1 + 1 + 1 + 1 ≤ g) (h1 : T ≠ 3) (h2 : T ≠ 25) (h3 : T ≠ 5) (k : Keeps (fun k => k = g) w w') : NxI N w' R M S root ps pc i sz vb vf vt vp bs f :=
  ⟨k.get h.e3 (by omega), k.get h.e4 (by omega), k.get h.e5 (by omega), k.get h.e9 (by omega), ⟨k.get h.fd.blk (by omega), ⟨owns_box h.fd.rows.rf hg h1.symm k, owns_box h.fd.rows.rt hg h1.symm k, owns_box h.fd.rows.rp hg h2.symm k, h.fd.rows.ft⟩, h.fd.hB, Nat.le_trans h.fd.hw k.size⟩, owns_box h.rb hg h3.symm k,
    h.ram.keeps k (by have := h.l1; omega) (by have := h.l2; omega) (by have := h.l3; omega), h.l1, h.l2, h.l3, h.st⟩
theorem x_ldSt (ρ : Operand → Value) (dst : Option Tmp) (x : Operand) (ty : TypeId) (pos : String) (after : Array Edge) (guard : Option (Nat × Bool)) :
    execOp ρ { dst, op := .load 28 x, type := ty, pos, after, guard } = ldRow 28 (ρ x) := rfl
attribute [local go_sem ↓] x_ldSt
theorem ld_State {w : World} {b : Nat} {S : Array Value} (hb : w.heap[b]? = some (.cells S 28 (0, 0))) (hs : S.size = 19) :
    (ldRow 28 (.pointer (some ⟨b, 0, none⟩))).run Tryz.prog w = .ok (.value (.agg S)) w := by
  have h := ldRow_run (P := Tryz.prog) w 28 b 18 _ Tryz.underlying28 rfl (by kernel_rfl) (by rw [rowAt_of hb, hs])
  rw [rowAt_of hb] at h
  exact h
def flV (c : Int) (a : Nat) : Value := .agg #[.int .i64 c, .int .u32 (a : Nat)]
set_option maxRecDepth 100000 in
set_option maxHeartbeats 4000000 in
theorem fnext_any {N : Nat} {w : World} {R : RamAt} {M : List Int} {S : Array Value} {root ps pc : Nat} {i : In} {sz : Int} {vb vf vt vp : Value} {bs : List Int} {f : Fd} (h : NxI N w R M S root ps pc i sz vb vf vt vp bs f) (hb : bs.length ≤ 100) (n : Nat) (hf : f.Ok n) (hn : n ≤ 1000) (va : Nat) (hva : va = (pc + bs.length) % 4294967296) :
    Calls Tryz.prog 43 #[.pointer (some ⟨N + 1 + 1, 0, none⟩), .pointer (some ⟨N + 1 + 1 + 1 + 1 + 1 + 1, 0, none⟩), .pointer (some ⟨N + 1 + 1 + 1 + 1 + 1, 0, none⟩), .pointer (some ⟨N, 0, none⟩), .pointer (some ⟨N + 1, 0, none⟩)] w fun e w' =>
      match (byteL R M root ps va f).1 with
      | none => e = .returned (flV 5 va) ∧ NxPost N w R M S root ps pc i sz bs (byteL R M root ps va f).2 w'
      | some x => e = .returned (flV 0 0) ∧ NxPost N w R M S root ps pc i sz (bs ++ [x]) (byteL R M root ps va f).2 w' := by
  have hvl : va < 4294967296 := by omega
  obtain ⟨q, hst⟩ := h.st
  obtain ⟨pb, cb, rfl⟩ := owns_sl h.rb
  have c3 := cell_of (block_old (.cells #[.int .i64 0, .int .u32 0] 42) h.e3)
  have c4 := cell_of (block_old (.cells #[.int .i64 0, .int .u32 0] 42) h.e4)
  have c5 := cell_of (block_old (.cells #[.int .i64 0, .int .u32 0] 42) h.e5)
  have c9 := cell_of (block_old (.cells #[.int .i64 0, .int .u32 0] 42) h.e9)
  have hsz := hst.size
  have hlt9 := lt_of_block h.e9
  have e1 : IntKind.u32.wrap (bs.length : Int) = bs.length := by simp [IntKind.wrap, IntKind.bits, IntKind.signed]; omega
  have e2 : IntKind.u32.wrap ((pc : Int) + bs.length) = (va : Nat) := by subst hva; simp [IntKind.wrap, IntKind.bits, IntKind.signed]
  have hld := ld_State (block_old (.cells #[.int .i64 0, .int .u32 0] 42) h.e4) hst.size
  have m3 : N ≠ w.heap.size := by omega
  have m4 : N + 1 ≠ w.heap.size := by omega
  have m5 : N + 1 + 1 ≠ w.heap.size := by omega
  have m8 : N + 1 + 1 + 1 + 1 + 1 ≠ w.heap.size := by omega
  have m9 : N + 1 + 1 + 1 + 1 + 1 + 1 ≠ w.heap.size := by omega
  have HH := hidE h
  have HB : Hid (∀ u, Same w u → _) := hidE (fun u hu => byteAt_any u (h.same hu).ram _ _ h.low i sz vf vt vp f (h.same hu).fd n hf hn S root ps q va hst hvl)
  clear h hva
  generalize byteL R M root ps va f = Z at *
  obtain ⟨z1, z2⟩ := Z
  cases z1 with
  | none =>
    simp only [Option.getD_none, Option.isSome_none] at HB ⊢
    go_enter Tryz.func43, Tryz.ntmps43
    go_wp2_with fail
    refine (HB.out _ ((Keeps.refl _ _).alloc _)).mono ?_
    rintro _ w2 ⟨rfl, hF, vf', vt', vp', hfd⟩
    have HN := hidE ((HH.out.same ((Keeps.refl _ _).alloc (.cells #[.int .i64 0, .int .u32 0] 42))).step hF hfd)
    have b5 := hF.other w.heap.size _ _ _ (block_new _ _) (by omega) (by decide) (by decide)
    have c5 := cell_of b5
    have f5 := frozen_of b5
    have HK := hidE (show Keeps (NxF N) w w2 from ((Keeps.refl _ _).alloc _).trans (hF.keeps.mono fun k _ hk => by rcases hk with rfl | hk; exact .inl rfl; exact .inr (.inr hk)))
    clear hF hfd
    go_wp2
    have k2 : Keeps (fun k => k = w.heap.size) w2 ((w2.setCell ⟨w.heap.size, 0, none⟩ (.int .i64 5)).setCell ⟨w.heap.size, 1, none⟩ (.int .u32 (va : Nat))) := Keeps.setCell (F := fun k => k = w.heap.size) (Keeps.setCell (F := fun k => k = w.heap.size) (Keeps.refl _ _) (p := ⟨w.heap.size, 0, none⟩) (fun _ => rfl) _) (p := ⟨w.heap.size, 1, none⟩) (fun _ => rfl) _
    exact bodyPost_ret (results_c rfl rfl (block_set (block_set b5 0 _) 1 _) Tryz.underlying42 rfl (by kernel_rfl)) rfl ⟨rfl, ⟨_, _, _, _, HN.out.box b5 (by omega) (by decide) (by decide) (by decide) k2⟩, HK.out.trans (k2.mono fun k _ hk => .inr (.inr (by omega)))⟩
  | some x =>
    simp only [Option.getD_some, Option.isSome_some] at HB ⊢
    go_enter Tryz.func43, Tryz.ntmps43
    go_wp2_with fail
    refine (HB.out _ ((Keeps.refl _ _).alloc _)).mono ?_
    rintro _ w2 ⟨rfl, hF, vf', vt', vp', hfd⟩
    have HN := hidE ((HH.out.same ((Keeps.refl _ _).alloc (.cells #[.int .i64 0, .int .u32 0] 42))).step hF hfd)
    have b5 := hF.other w.heap.size _ _ _ (block_new _ _) (by omega) (by decide) (by decide)
    have HK := hidE (show Keeps (NxF N) w w2 from ((Keeps.refl _ _).alloc _).trans (hF.keeps.mono fun k _ hk => by rcases hk with rfl | hk; exact .inl rfl; exact .inr (.inr hk)))
    clear hF hfd
    have c9' := cell_of HN.out.e9
    have hs2 := HN.out.fd.hw
    have HP := hidE b5
    clear b5
    go_wp2_with (at_builtin; go_loud (refine append_byte rfl (.tmp 25) (.tmp 27) rfl (N + 1 + 1 + 1 + 1 + 1 + 1 + 1) (.slice pb bs.length cb) bs rfl w2.heap.size x rfl (owns_stay HN.out.rb ((Keeps.refl (fun _ => False) w2).alloc _) (fun _ _ => id)) (block_new _ _) (by omega) (by simp; omega) ?_; intro v' w3 hrow hk3; obtain ⟨pb', nb', cb', rfl⟩ : ∃ p n c, v' = .slice p n c := (let ⟨p, c, e⟩ := owns_sl hrow; ⟨p, _, c, e⟩); have HA := hidE ((HN.out.same ((Keeps.refl (fun _ => False) w2).alloc (.cells #[.int .u8 x] 5))).add hrow hk3); have b5' := hk3.get (block_old (.cells #[.int .u8 x] 5) HP.out) (fun e => owns_no HN.out.rb HP.out (by decide) e.2); have c6 := cell_of HA.out.1; have f6 := frozen_of HA.out.1; have c5' := cell_of b5'; have f5' := frozen_of b5'; have HP' := hidE b5'; clear hrow hk3 b5'))
    have k2 : Keeps (fun k => k = w.heap.size) (w3.setCell ⟨N + 1 + 1 + 1 + 1 + 1 + 1, 0, none⟩ (.slice pb' nb' cb')) (((w3.setCell ⟨N + 1 + 1 + 1 + 1 + 1 + 1, 0, none⟩ (.slice pb' nb' cb')).setCell ⟨w.heap.size, 0, none⟩ (.int .i64 0)).setCell ⟨w.heap.size, 1, none⟩ (.int .u32 0)) := Keeps.setCell (F := fun k => k = w.heap.size) (Keeps.setCell (F := fun k => k = w.heap.size) (Keeps.refl _ _) (p := ⟨w.heap.size, 0, none⟩) (fun _ => rfl) _) (p := ⟨w.heap.size, 1, none⟩) (fun _ => rfl) _
    have b6 := block_other (a := ⟨N + 1 + 1 + 1 + 1 + 1 + 1, 0, none⟩) (.slice pb' nb' cb') HP'.out (by simp only; omega)
    exact bodyPost_ret (results_c rfl rfl (block_set (block_set b6 0 _) 1 _) Tryz.underlying42 rfl (by kernel_rfl)) rfl ⟨rfl, ⟨_, _, _, _, HA.out.2.1.box b6 (by omega) (by decide) (by decide) (by decide) k2⟩, (HK.out.trans (((Keeps.refl _ _).alloc _).trans HA.out.2.2)).trans (k2.mono fun k _ hk => .inr (.inr (by omega)))⟩
end Go.Proofs.YtjkjnomhggmplaaGreat
