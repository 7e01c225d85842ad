/- Package ram: lay, SetByte, SetWord, Fill. -/
import Derived.Test.YtjkjnomhggmplaaGreatRam
import Derived.LoopTactic
namespace Go.Proofs.YtjkjnomhggmplaaGreat
open Go.RowKit

/-- Bytes laid from a place on. -/
def RamAt.put (R : RamAt) : List Int → Nat → List Int → List Int
  | M, _, [] => M
  | M, a, x :: l => R.put (M.set (R.pos a) x) (a + 1) l
theorem RamAt.put_append (R : RamAt) : ∀ (l m : List Int) (M : List Int) (a : Nat), R.put M a (l ++ m) = R.put (R.put M a l) (a + l.length) m
  | [], _, _, _ => rfl
  | x :: l, m, M, a => by
    simp only [List.cons_append, RamAt.put, List.length_cons]
    rw [R.put_append l m, show a + 1 + l.length = a + (l.length + 1) from by omega]
theorem RamAt.put_length (R : RamAt) : ∀ (l : List Int) (M : List Int) (a : Nat), (R.put M a l).length = M.length
  | [], _, _ => rfl
  | x :: l, M, a => by simp only [RamAt.put]; rw [R.put_length l]; simp
theorem RamAt.put_bytes (R : RamAt) : ∀ (l : List Int) (M : List Int) (a : Nat), (∀ x ∈ l, 0 ≤ x ∧ x < 256) → (∀ x ∈ M, 0 ≤ x ∧ x < 256) → ∀ x ∈ R.put M a l, 0 ≤ x ∧ x < 256
  | [], _, _, _, h => h
  | y :: l, M, a, hl, h => by
    simp only [RamAt.put]
    refine R.put_bytes l _ _ (fun x hx => hl x (by simp [hx])) (fun x hx => ?_)
    rcases List.mem_or_eq_of_mem_set hx with hx | rfl
    · exact h x hx
    · exact hl _ (by simp)
theorem RamAt.put_frame (R : RamAt) : ∀ (l : List Int) (M : List Int) (a : Nat), a % 64 + l.length ≤ 64 → R.pos a + l.length ≤ M.length → R.put M a l = M.take (R.pos a) ++ (l ++ M.drop (R.pos a + l.length))
  | [], M, a, _, _ => by simp [RamAt.put]
  | x :: l, M, a, h, h2 => by
    simp only [List.length_cons] at h h2
    have hs : M.set (R.pos a) x = M.take (R.pos a) ++ x :: M.drop (R.pos a + 1) := by
      rw [List.set_eq_take_append_cons_drop, if_pos (by omega)]
    have ht : (M.take (R.pos a)).length = R.pos a := by simp; omega
    simp only [RamAt.put]
    rcases l with _ | ⟨y, l⟩
    · simp [RamAt.put, hs]
    · simp only [List.length_cons] at h h2
      have hp := R.pos_add a 1 (by omega)
      rw [R.put_frame (y :: l) _ _ (by simp; omega) (by simp [hp]; omega), hp, hs]
      have e1 : (M.take (R.pos a) ++ x :: M.drop (R.pos a + 1)).take (R.pos a + 1) = M.take (R.pos a) ++ [x] := by
        have := List.take_length_add_append (l₁ := M.take (R.pos a)) (l₂ := x :: M.drop (R.pos a + 1)) 1
        rw [ht] at this; rw [this]; simp
      have e2 : (M.take (R.pos a) ++ x :: M.drop (R.pos a + 1)).drop (R.pos a + 1 + (l.length + 1)) = M.drop (R.pos a + (l.length + 1 + 1)) := by
        have := List.drop_length_add_append (l₁ := M.take (R.pos a)) (l₂ := x :: M.drop (R.pos a + 1)) (l.length + 1 + 1)
        rw [ht] at this
        rw [show R.pos a + 1 + (l.length + 1) = R.pos a + (l.length + 1 + 1) from by omega, this, List.drop_succ_cons, List.drop_drop]
        congr 1; omega
      simp only [List.length_cons]
      rw [e1, e2]; simp
theorem IsRam.setRow {w : World} {R : RamAt} {M M' : List Int} (h : IsRam w R M) (hl : M'.length = M.length) (hb : ∀ x ∈ M', 0 ≤ x ∧ x < 256) : IsRam (w.setRow R.A (M'.map (Value.int .u8)).toArray) R M' :=
  ⟨by rw [setRow_other _ _ _ _ h.bA]; exact h.hb, let ⟨cs, h1, h2⟩ := h.hS; ⟨cs, by rw [setRow_other _ _ _ _ h.SA]; exact h1, h2⟩, setRow_heap _ _ _ _ _ _ h.hA, fun k hk => by rw [hl]; exact h.fit k hk, h.inj, h.n1, h.n2, h.cap2, hb, h.bS, h.bA, h.SA⟩

theorem wpList_copy_ram {P : Program} {w : World} {ops : Array Oper} {rest : List Oper} {o : Oper} {a : Act} {Q : Exit → Act → World → Prop} (hgd : o.guard = none) (d s : Operand) (dT sT : TypeId)
    (ho : o.op = .call { callee := .builtin .copy, args := #[d, s], argTypes := #[dT, sT] }) (elem : TypeId) (hu : P.underlying dT = some (.slice elem)) (hsz : (P.info? elem).map (·.size) = some 1)
    {R : RamAt} {M : List Int} (H : IsRam w R M) (x : Nat) (hx : x < 64 * R.n) (g off sLen sCap : Nat) (hd : a.eval d = .slice (some ⟨R.A, R.pos x, none⟩) (64 - x % 64) (64 - x % 64)) (hs : a.eval s = .slice (some ⟨g, off, none⟩) sLen sCap)
    (l : List Int) (hl : l.length = Nat.min sLen (64 - x % 64)) (hsrc : ∀ j (h : j < l.length), w.cell? ⟨g, off + j, none⟩ = some (.int .u8 l[j])) (hb : ∀ y ∈ l, 0 ≤ y ∧ y < 256)
    (h : ∀ w', IsRam w' R (R.put M x l) → Keeps (fun k => k = R.A) w w' → wpList P ops Q rest (a.put o.dst (.int .i64 l.length)) w') : wpList P ops Q (o :: rest) a w := by
  have hmin : l.length ≤ 64 - x % 64 := by rw [hl]; exact Nat.min_le_right _ _
  have hfit : R.pos x + l.length ≤ M.length := by
    have := H.fit (x / 64) (by omega)
    unfold RamAt.pos; omega
  refine wpList_copy_own hgd d s dT sT ho elem hu hsz R.A (R.pos x) _ _ ⟨g, off, none⟩ sLen sCap hd hs _ _ H.hA (l.map (Value.int .u8)) (by simpa using hl) ?_ (by simpa using hfit) (by intro v hv; simp at hv; obtain ⟨y, -, rfl⟩ := hv; rfl) ?_
  · intro j v hj
    simp only [List.getElem?_map, Option.map_eq_some_iff] at hj
    obtain ⟨y, hy, rfl⟩ := hj
    obtain ⟨hj2, rfl⟩ := List.getElem?_eq_some_iff.1 hy
    rw [← hsrc j hj2]
    unfold Addr.add; split <;> simp_all
  · have e := R.put_frame l M x (by omega) hfit
    have hw := H.setRow (M' := R.put M x l) (R.put_length _ _ _) (R.put_bytes _ _ _ hb H.bytes)
    rw [List.length_map]
    refine h _ ?_ (Keeps.setRow (F := fun k => k = R.A) (Keeps.refl _ _) (fun _ => rfl) _)
    rw [e] at hw ⊢
    simpa using hw

/-- Bytes of a slice that lies elsewhere than the memory's. -/
def BySr (w : World) (A : Nat) (v : Value) (l : List Int) : Prop := (∀ x ∈ l, 0 ≤ x ∧ x < 256) ∧ ∃ p cap, v = .slice p l.length cap ∧ l.length ≤ cap ∧ cap ≤ maxLen ∧
  (0 < l.length → ∃ g o, p = some ⟨g, o, none⟩ ∧ g ≠ A ∧ g < w.heap.size ∧ ∀ j (h : j < l.length), w.cell? ⟨g, o + j, none⟩ = some (.int .u8 l[j]))
def LayPost (w : World) (R : RamAt) (M : List Int) (a : Nat) (al : Int) (l : List Int) (e : Ending) (w' : World) : Prop :=
  if (a : Int) % al = 0 ∧ a + l.length ≤ 64 * R.n then e = .returned (.bool true) ∧ IsRam w' R (R.put M a l) ∧ Keeps (fun k => k = R.A) w w' else e = .returned (.bool false) ∧ w = w'
def lenV : Value → Nat
  | .slice _ n _ => n
  | _ => 0
def LayRel (w : World) (R : RamAt) (M : List Int) (a : Nat) (l : List Int) (g o cap : Nat) (t0 t1 : Value) (wr : World) : Prop :=
  ∃ k, k ≤ l.length ∧ t0 = .int .u32 ((a + k : Nat) : Int) ∧ ((k < l.length ∧ t1 = .slice (some ⟨g, o + k, none⟩) (l.length - k) (cap - k)) ∨ (k = l.length ∧ ∃ x c, t1 = .slice x 0 c)) ∧
    IsRam wr R (R.put M a (l.take k)) ∧ Keeps (fun k => k = R.A) w wr
set_option maxHeartbeats 2000000 in
theorem lay_ram {R : RamAt} {M : List Int} (w : World) (H : IsRam w R M) (a : Nat) (ha : a < 4294967296) (al : Int) (hal : 0 < al) (hal2 : al < 1000) (v : Value) (l : List Int) (hv : BySr w R.A v l) :
    Calls Tryz.prog 40 #[.int .u32 a, v, .int .i64 al, .func (.func 41) #[.pointer (some ⟨R.b, 0, none⟩)] #[], .func (.func 42) #[.pointer (some ⟨R.b, 0, none⟩)] #[]] w (LayPost w R M a al l) := by
  obtain ⟨hby, p, cap, rfl, hc1, hc2, hp⟩ := hv
  have hmax : maxLen = 9223372036854775807 ∨ maxLen ≤ 9223372036854775807 := by right; decide
  have n1 := H.n1
  have n2 := H.n2
  have hW := hidE (within_ram w H a l.length al (by omega) (by omega) (by omega) (by omega) hal hal2)
  unfold LayPost
  by_cases hc : (a : Int) % al = 0 ∧ a + l.length ≤ 64 * R.n
  · have hw : (decide ((a : Int) % al = 0) && decide ((l.length : Int) ≤ 64 * R.n) && decide ((a : Int) ≤ 64 * R.n - l.length)) = true := by simp; omega
    rw [hw] at hW
    simp only [if_pos hc]
    go_enter Tryz.func40, Tryz.ntmps40
    go_wp2_with (go_at_call 41; refine hW.out.mono ?_; rintro _ w1 ⟨rfl, rfl⟩)
    obtain ⟨g, o, hgo⟩ : ∃ g o, 0 < l.length → p = some ⟨g, o, none⟩ ∧ g ≠ R.A ∧ g < w.heap.size ∧ ∀ j (h : j < l.length), w.cell? ⟨g, o + j, none⟩ = some (.int .u8 l[j]) := by
      rcases Nat.eq_zero_or_pos l.length with h | h
      · exact ⟨0, 0, fun e => by omega⟩
      · obtain ⟨g, o, h'⟩ := hp h; exact ⟨g, o, fun _ => h'⟩
    have HG := hidE hgo
    have HB := hidE hby
    have HH := hidE H
    clear hgo hby hp hW hw H
    go_loopw [0, 1] (fun t0 t1 wr => LayRel w R M a l g o cap t0 t1 wr) (fun t0 _ _ => (a + l.length - intOf t0).toNat)
    case atStart =>
      refine ⟨0, by omega, by simp, ?_, by simpa [RamAt.put] using HH.out, Keeps.refl _ _⟩
      rcases Nat.eq_zero_or_pos l.length with h | h
      · exact .inr ⟨h.symm, p, cap, by rw [h]⟩
      · exact .inl ⟨h, by rw [(HG.out h).1]; simp⟩
    case round =>
      obtain ⟨k, hk, rfl, h | h, HR, HK⟩ := hrel
      · obtain ⟨hlt, rfl⟩ := h
        obtain ⟨-, hgA, hgw, hsrc⟩ := HG.out (by omega)
        obtain ⟨m, hm⟩ : ∃ m, m = l.length - k := ⟨_, rfl⟩
        obtain ⟨cm, hcm⟩ : ∃ cm, cm = cap - k := ⟨_, rfl⟩
        obtain ⟨x, hx⟩ : ∃ x, x = a + k := ⟨_, rfl⟩
        obtain ⟨cs, hcs⟩ : ∃ cs, cs = (l.drop k).take (Nat.min m (64 - x % 64)) := ⟨_, rfl⟩
        have hcl : cs.length = Nat.min m (64 - x % 64) := by rw [hcs, List.length_take, List.length_drop, ← hm]; exact Nat.min_eq_left (Nat.min_le_left _ _)
        have hc1' : cs.length ≤ m := by rw [hcl]; exact Nat.min_le_left _ _
        have hc0 : 0 < cs.length := by rw [hcl]; exact Nat.lt_min.2 ⟨by omega, by omega⟩
        have hcj : ∀ j (h : j < cs.length), wr.cell? ⟨g, o + k + j, none⟩ = some (.int .u8 cs[j]) := fun j h => by
          have := hsrc (k + j) (by omega)
          have h2 := HK.block g hgw hgA
          have h3 : cs[j] = l[k + j]'(by omega) := by simp [hcs]
          rw [h3, ← this, show o + k + j = o + (k + j) from by omega]
          unfold World.cell?; rw [h2]
        have hcb : ∀ y ∈ cs, 0 ≤ y ∧ y < 256 := fun y hy => HB.out y (by rw [hcs] at hy; exact List.mem_of_mem_drop (List.mem_of_mem_take hy))
        have hput : R.put (R.put M a (l.take k)) x cs = R.put M a (l.take (k + cs.length)) := by
          have e : l.take (k + cs.length) = l.take k ++ cs := by
            rw [List.take_add, hcs]; congr 1; simp
          rw [e, RamAt.put_append, hx]; congr 1; simp; omega
        have hxn : x + cs.length ≤ 64 * R.n := by omega
        have q0 : decide ((0 : Int) < (m : Int)) = true := by simp; omega
        have q1 : 0 < m := by omega
        have q2 : m ≤ cm := by omega
        rw [← hm, ← hcm, ← hx]
        have HP := hidE hput
        have HX := hidE hx
        have HM := hidE hm
        have HC := hidE hcm
        have HD := hidE hc
        have HS := hidE hcj
        have HL := hidE hcl
        clear hput hx hm hcm hcs hc hcj hcl hsrc
        have e1 : IntKind.u32.wrap ((cs.length : Nat) : Int) = cs.length := by simp [IntKind.wrap, IntKind.bits, IntKind.signed]; omega
        have e2 : IntKind.u32.wrap ((x : Int) + (cs.length : Nat)) = x + cs.length := by simp [IntKind.wrap, IntKind.bits, IntKind.signed]; omega
        go_wp2_with (first
          | (go_at_call 42; refine (at_ram wr HR x (by omega)).mono ?_; rintro _ w1 ⟨rfl, rfl⟩)
          | (refine wpList_copy_ram rfl (.tmp 24) (.tmp 25) 22 22 rfl 5 Tryz.underlying22 (by kernel_rfl) HR x (by omega) g (o + k) m cm rfl rfl cs HL.out HS.out hcb ?_; intro w2 HR2 HK2))
        have hx' := HX.out
        have hm' := HM.out
        have hcm' := HC.out
        refine ⟨⟨k + cs.length, by omega, congrArg (Value.int .u32) (by omega), ?_, by rw [← HP.out]; exact HR2, HK.trans HK2⟩, by simp only [intOf]; omega⟩
        by_cases hz : cs.length = m
        · exact .inr ⟨by omega, _, _, by rw [show m - cs.length = 0 from by omega]⟩
        · refine .inl ⟨by omega, ?_⟩
          rw [if_neg (by omega), show o + k + cs.length = o + (k + cs.length) from by omega, show m - cs.length = l.length - (k + cs.length) from by omega, show cm - cs.length = cap - (k + cs.length) from by omega]
      · obtain ⟨rfl, x, c, rfl⟩ := h
        go_wp2
        go_ret
        exact ⟨rfl, by simpa using HR, HK⟩
  · have hw : (decide ((a : Int) % al = 0) && decide ((l.length : Int) ≤ 64 * R.n) && decide ((a : Int) ≤ 64 * R.n - l.length)) = false := by simp; omega
    rw [hw] at hW
    simp only [if_neg hc]
    go_enter Tryz.func40, Tryz.ntmps40
    go_wp2_with (go_at_call 41; refine hW.out.mono ?_; rintro _ w1 ⟨rfl, rfl⟩)
    go_ret
    exact ⟨rfl, rfl⟩

theorem bySl_new {w : World} {A : Nat} (hA : A < w.heap.size) (l : List Int) (_hl : 0 < l.length) (hm : l.length ≤ maxLen) (hb : ∀ x ∈ l, 0 ≤ x ∧ x < 256) : BySr (w.alloc (.cells (l.map (Value.int .u8)).toArray 5)) A (.slice (some ⟨w.heap.size, 0, none⟩) l.length l.length) l :=
  ⟨hb, _, _, rfl, Nat.le_refl _, hm, fun _ => ⟨_, 0, rfl, by omega, by simp, fun j h => by
    rw [cell_of (block_new _ _)]; simp [h]⟩⟩
theorem IsRam.alloc {w : World} {R : RamAt} {M : List Int} (h : IsRam w R M) (x : Obj) : IsRam (w.alloc x) R M := h.keeps (F := fun _ => False) ((Keeps.refl _ _).alloc x) id id id
theorem layPost_ret {w : World} {R : RamAt} {M : List Int} {a : Nat} {al : Int} {l : List Int} {e : Ending} {w' : World} (h : LayPost w R M a al l e w') : ∃ v, e = .returned v := by
  unfold LayPost at h
  split at h
  · exact ⟨_, h.1⟩
  · exact ⟨_, h.1⟩

/-- What a lay of some bytes does. -/
def PutPost (w : World) (R : RamAt) (M : List Int) (a : Nat) (al : Int) (l : List Int) (e : Ending) (w' : World) : Prop :=
  if (a : Int) % al = 0 ∧ a + l.length ≤ 64 * R.n then e = .returned (.bool true) ∧ IsRam w' R (R.put M a l) ∧ Keeps (fun k => k = R.A) w w' else e = .returned (.bool false) ∧ Same w w'
theorem put_ret {w : World} {R : RamAt} {M : List Int} {a : Nat} {al : Int} {l : List Int} {x : Obj} {v : Value} {w' : World} (h : LayPost (w.alloc x) R M a al l (.returned v) w') : PutPost w R M a al l (.returned v) w' := by
  unfold LayPost at h
  unfold PutPost
  split at h
  · rename_i hc
    rw [if_pos hc]
    exact ⟨h.1, h.2.1, ((Keeps.refl _ _).alloc x).trans h.2.2⟩
  · rename_i hc
    rw [if_neg hc]
    exact ⟨h.1, h.2 ▸ (Keeps.refl _ _).alloc x⟩
set_option maxHeartbeats 800000 in
theorem setByte_ram {R : RamAt} {M : List Int} (w : World) (H : IsRam w R M) (a : Nat) (x : Int) (ha2 : a < 4294967296) (hx : 0 ≤ x) (hx2 : x < 256) :
    Calls Tryz.prog 74 #[.pointer (some ⟨R.b, 0, none⟩), .int .u32 a, .int .u8 x] w (PutPost w R M a 1 [x]) := by
  have HL := hidE (lay_ram _ (H.alloc (.cells #[.int .u8 x] 5)) a ha2 1 (by omega) (by omega) _ [x] (bySl_new (lt_of_block H.hA) [x] (by simp) (by simp [maxLen]) (by simp; omega)))
  go_enter Tryz.func74, Tryz.ntmps74
  go_wp2_with (go_at_call 40; refine HL.out.mono ?_; intro e w2 hp; obtain ⟨v, rfl⟩ := layPost_ret hp)
  go_ret
  exact put_ret hp
set_option maxHeartbeats 800000 in
theorem fill_ram {R : RamAt} {M : List Int} (w : World) (H : IsRam w R M) (a : Nat) (ha2 : a < 4294967296) (v : Value) (l : List Int) (hv : BySr w R.A v l) :
    Calls Tryz.prog 19 #[.pointer (some ⟨R.b, 0, none⟩), .int .u32 a, v] w (LayPost w R M a 1 l) := by
  have HL := hidE (lay_ram w H a ha2 1 (by omega) (by omega) v l hv)
  go_enter Tryz.func19, Tryz.ntmps19
  go_wp2_with (go_at_call 40; refine HL.out.mono ?_; intro e w2 hp; obtain ⟨v, rfl⟩ := layPost_ret hp)
  go_ret
  exact hp
end Go.Proofs.YtjkjnomhggmplaaGreat
