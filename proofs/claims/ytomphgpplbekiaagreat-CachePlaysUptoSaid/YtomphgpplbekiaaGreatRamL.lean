/- Package ram: lay, SetByte, SetWord, Fill. Package ram: New. -/
import Derived.Test.YtomphgpplbekiaaGreatRam
import Derived.LoopTactic
import Derived.Test.YtomphgpplbekiaaGreatEv
import Derived.Deep.AppendLies
import Derived.Deep.RegionHeldLaw
import Derived.Deep.DrawnRows
namespace Go.Proofs.YtomphgpplbekiaaGreat
open Go.RowKit

/-- Bytes laid from a place on. -/
def RamAt.put (R : RamAt) : List Int → Nat → List Int → List Int
  | M, _, [] => M
  | M, a, x :: l => R.put (M.set (R.pos a) x) (a + 1) l
theorem RamAt.put_append (R : RamAt) : ∀ (l m : List Int) (M : List Int) (a : Nat), R.put M a (l ++ m) = R.put (R.put M a l) (a + l.length) m
  | [], _, _, _ => rfl
  | x :: l, m, M, a => by
    simp only [List.cons_append, RamAt.put, List.length_cons]
    rw [R.put_append l m, show a + 1 + l.length = a + (l.length + 1) from by omega]
theorem RamAt.put_length (R : RamAt) : ∀ (l : List Int) (M : List Int) (a : Nat), (R.put M a l).length = M.length
  | [], _, _ => rfl
  | x :: l, M, a => by simp only [RamAt.put]; rw [R.put_length l]; simp
theorem RamAt.put_bytes (R : RamAt) : ∀ (l : List Int) (M : List Int) (a : Nat), (∀ x ∈ l, 0 ≤ x ∧ x < 256) → (∀ x ∈ M, 0 ≤ x ∧ x < 256) → ∀ x ∈ R.put M a l, 0 ≤ x ∧ x < 256
  | [], _, _, _, h => h
  | y :: l, M, a, hl, h => by
    simp only [RamAt.put]
    refine R.put_bytes l _ _ (fun x hx => hl x (by simp [hx])) (fun x hx => ?_)
    rcases List.mem_or_eq_of_mem_set hx with hx | rfl
    · exact h x hx
    · exact hl _ (by simp)
theorem RamAt.put_frame (R : RamAt) : ∀ (l : List Int) (M : List Int) (a : Nat), a % 64 + l.length ≤ 64 → R.pos a + l.length ≤ M.length → R.put M a l = M.take (R.pos a) ++ (l ++ M.drop (R.pos a + l.length))
  | [], M, a, _, _ => by simp [RamAt.put]
  | x :: l, M, a, h, h2 => by
    simp only [List.length_cons] at h h2
    have hs : M.set (R.pos a) x = M.take (R.pos a) ++ x :: M.drop (R.pos a + 1) := by
      rw [List.set_eq_take_append_cons_drop, if_pos (by omega)]
    have ht : (M.take (R.pos a)).length = R.pos a := by simp; omega
    simp only [RamAt.put]
    rcases l with _ | ⟨y, l⟩
    · simp [RamAt.put, hs]
    · simp only [List.length_cons] at h h2
      have hp := R.pos_add a 1 (by omega)
      rw [R.put_frame (y :: l) _ _ (by simp; omega) (by simp [hp]; omega), hp, hs]
      have e1 : (M.take (R.pos a) ++ x :: M.drop (R.pos a + 1)).take (R.pos a + 1) = M.take (R.pos a) ++ [x] := by
        have := List.take_length_add_append (l₁ := M.take (R.pos a)) (l₂ := x :: M.drop (R.pos a + 1)) 1
        rw [ht] at this; rw [this]; simp
      have e2 : (M.take (R.pos a) ++ x :: M.drop (R.pos a + 1)).drop (R.pos a + 1 + (l.length + 1)) = M.drop (R.pos a + (l.length + 1 + 1)) := by
        have := List.drop_length_add_append (l₁ := M.take (R.pos a)) (l₂ := x :: M.drop (R.pos a + 1)) (l.length + 1 + 1)
        rw [ht] at this
        rw [show R.pos a + 1 + (l.length + 1) = R.pos a + (l.length + 1 + 1) from by omega, this, List.drop_succ_cons, List.drop_drop]
        congr 1; omega
      simp only [List.length_cons]
      rw [e1, e2]; simp
theorem IsRam.setRow {w : World} {R : RamAt} {M M' : List Int} (h : IsRam w R M) (hl : M'.length = M.length) (hb : ∀ x ∈ M', 0 ≤ x ∧ x < 256) : IsRam (w.setRow R.A (M'.map (Value.int .u8)).toArray) R M' :=
  ⟨by rw [setRow_other _ _ _ _ h.bA]; exact h.hb, let ⟨cs, h1, h2⟩ := h.hS; ⟨cs, by rw [setRow_other _ _ _ _ h.SA]; exact h1, h2⟩, setRow_heap _ _ _ _ _ _ h.hA, fun k hk => by rw [hl]; exact h.fit k hk, h.inj, h.n1, h.n2, h.cap2, hb, h.bS, h.bA, h.SA⟩

theorem wpList_copy_ram {P : Program} {w : World} {ops : Array Oper} {rest : List Oper} {o : Oper} {a : Act} {Q : Exit → Act → World → Prop} (hgd : o.guard = none) (d s : Operand) (dT sT : TypeId)
    (ho : o.op = .call { callee := .builtin .copy, args := #[d, s], argTypes := #[dT, sT] }) (elem : TypeId) (hu : P.underlying dT = some (.slice elem)) (hsz : (P.info? elem).map (·.size) = some 1)
    {R : RamAt} {M : List Int} (H : IsRam w R M) (x : Nat) (hx : x < 64 * R.n) (g off sLen sCap : Nat) (hd : a.eval d = .slice (some ⟨R.A, R.pos x, none⟩) (64 - x % 64) (64 - x % 64)) (hs : a.eval s = .slice (some ⟨g, off, none⟩) sLen sCap)
    (l : List Int) (hl : l.length = Nat.min sLen (64 - x % 64)) (hsrc : ∀ j (h : j < l.length), w.cell? ⟨g, off + j, none⟩ = some (.int .u8 l[j])) (hb : ∀ y ∈ l, 0 ≤ y ∧ y < 256)
    (h : ∀ w', IsRam w' R (R.put M x l) → Keeps (fun k => k = R.A) w w' → wpList P ops Q rest (a.put o.dst (.int .i64 l.length)) w') : wpList P ops Q (o :: rest) a w := by
  have hmin : l.length ≤ 64 - x % 64 := by rw [hl]; exact Nat.min_le_right _ _
  have hfit : R.pos x + l.length ≤ M.length := by
    have := H.fit (x / 64) (by omega)
    unfold RamAt.pos; omega
  refine wpList_copy_own hgd d s dT sT ho elem hu hsz R.A (R.pos x) _ _ ⟨g, off, none⟩ sLen sCap hd hs _ _ H.hA (l.map (Value.int .u8)) (by simpa using hl) ?_ (by simpa using hfit) (by intro v hv; simp at hv; obtain ⟨y, -, rfl⟩ := hv; rfl) ?_
  · intro j v hj
    simp only [List.getElem?_map, Option.map_eq_some_iff] at hj
    obtain ⟨y, hy, rfl⟩ := hj
    obtain ⟨hj2, rfl⟩ := List.getElem?_eq_some_iff.1 hy
    rw [← hsrc j hj2]
    unfold Addr.add; split <;> simp_all
  · have e := R.put_frame l M x (by omega) hfit
    have hw := H.setRow (M' := R.put M x l) (R.put_length _ _ _) (R.put_bytes _ _ _ hb H.bytes)
    rw [List.length_map]
    refine h _ ?_ (Keeps.setRow (F := fun k => k = R.A) (Keeps.refl _ _) (fun _ => rfl) _)
    rw [e] at hw ⊢
    simpa using hw

/-- Bytes of a slice that lies elsewhere than the memory's. -/
def BySr (w : World) (A : Nat) (v : Value) (l : List Int) : Prop := (∀ x ∈ l, 0 ≤ x ∧ x < 256) ∧ ∃ p cap, v = .slice p l.length cap ∧ l.length ≤ cap ∧ cap ≤ maxLen ∧
  (0 < l.length → ∃ g o, p = some ⟨g, o, none⟩ ∧ g ≠ A ∧ g < w.heap.size ∧ ∀ j (h : j < l.length), w.cell? ⟨g, o + j, none⟩ = some (.int .u8 l[j]))
def LayPost (w : World) (R : RamAt) (M : List Int) (a : Nat) (al : Int) (l : List Int) (e : Ending) (w' : World) : Prop :=
  if (a : Int) % al = 0 ∧ a + l.length ≤ 64 * R.n then e = .returned (.bool true) ∧ IsRam w' R (R.put M a l) ∧ Keeps (fun k => k = R.A) w w' else e = .returned (.bool false) ∧ w = w'
def lenV : Value → Nat
  | .slice _ n _ => n
  | _ => 0
def LayRel (w : World) (R : RamAt) (M : List Int) (a : Nat) (l : List Int) (g o cap : Nat) (t0 t1 : Value) (wr : World) : Prop :=
  ∃ k, k ≤ l.length ∧ t0 = .int .u32 ((a + k : Nat) : Int) ∧ ((k < l.length ∧ t1 = .slice (some ⟨g, o + k, none⟩) (l.length - k) (cap - k)) ∨ (k = l.length ∧ ∃ x c, t1 = .slice x 0 c)) ∧
    IsRam wr R (R.put M a (l.take k)) ∧ Keeps (fun k => k = R.A) w wr
set_option maxHeartbeats 2000000 in
theorem lay_ram {R : RamAt} {M : List Int} (w : World) (H : IsRam w R M) (a : Nat) (ha : a < 4294967296) (al : Int) (hal : 0 < al) (hal2 : al < 1000) (v : Value) (l : List Int) (hv : BySr w R.A v l) :
    Calls Tryz.prog 90 #[.int .u32 a, v, .int .i64 al, .func (.func 50) #[.pointer (some ⟨R.b, 0, none⟩)] #[], .func (.func 51) #[.pointer (some ⟨R.b, 0, none⟩)] #[]] w (LayPost w R M a al l) := by
  obtain ⟨hby, p, cap, rfl, hc1, hc2, hp⟩ := hv
  have hmax : maxLen = 9223372036854775807 ∨ maxLen ≤ 9223372036854775807 := by right; decide
  have n1 := H.n1
  have n2 := H.n2
  have hW := hidE (within_ram w H a l.length al (by omega) (by omega) (by omega) (by omega) hal hal2)
  unfold LayPost
  by_cases hc : (a : Int) % al = 0 ∧ a + l.length ≤ 64 * R.n
  · have hw : (decide ((a : Int) % al = 0) && decide ((l.length : Int) ≤ 64 * R.n) && decide ((a : Int) ≤ 64 * R.n - l.length)) = true := by simp; omega
    rw [hw] at hW
    simp only [if_pos hc]
    go_enter Tryz.func90, Tryz.ntmps90
    go_wp2_with (go_at_call 50; refine hW.out.mono ?_; rintro _ w1 ⟨rfl, rfl⟩)
    obtain ⟨g, o, hgo⟩ : ∃ g o, 0 < l.length → p = some ⟨g, o, none⟩ ∧ g ≠ R.A ∧ g < w.heap.size ∧ ∀ j (h : j < l.length), w.cell? ⟨g, o + j, none⟩ = some (.int .u8 l[j]) := by
      rcases Nat.eq_zero_or_pos l.length with h | h
      · exact ⟨0, 0, fun e => by omega⟩
      · obtain ⟨g, o, h'⟩ := hp h; exact ⟨g, o, fun _ => h'⟩
    have HG := hidE hgo
    have HB := hidE hby
    have HH := hidE H
    clear hgo hby hp hW hw H
    go_loopw [0, 1] (fun t0 t1 wr => LayRel w R M a l g o cap t0 t1 wr) (fun t0 _ _ => (a + l.length - intOf t0).toNat)
    case atStart =>
      refine ⟨0, by omega, by simp, ?_, by simpa [RamAt.put] using HH.out, Keeps.refl _ _⟩
      rcases Nat.eq_zero_or_pos l.length with h | h
      · exact .inr ⟨h.symm, p, cap, by rw [h]⟩
      · exact .inl ⟨h, by rw [(HG.out h).1]; simp⟩
    case round =>
      obtain ⟨k, hk, rfl, h | h, HR, HK⟩ := hrel
      · obtain ⟨hlt, rfl⟩ := h
        obtain ⟨-, hgA, hgw, hsrc⟩ := HG.out (by omega)
        obtain ⟨m, hm⟩ : ∃ m, m = l.length - k := ⟨_, rfl⟩
        obtain ⟨cm, hcm⟩ : ∃ cm, cm = cap - k := ⟨_, rfl⟩
        obtain ⟨x, hx⟩ : ∃ x, x = a + k := ⟨_, rfl⟩
        obtain ⟨cs, hcs⟩ : ∃ cs, cs = (l.drop k).take (Nat.min m (64 - x % 64)) := ⟨_, rfl⟩
        have hcl : cs.length = Nat.min m (64 - x % 64) := by rw [hcs, List.length_take, List.length_drop, ← hm]; exact Nat.min_eq_left (Nat.min_le_left _ _)
        have hc1' : cs.length ≤ m := by rw [hcl]; exact Nat.min_le_left _ _
        have hc0 : 0 < cs.length := by rw [hcl]; exact Nat.lt_min.2 ⟨by omega, by omega⟩
        have hcj : ∀ j (h : j < cs.length), wr.cell? ⟨g, o + k + j, none⟩ = some (.int .u8 cs[j]) := fun j h => by
          have := hsrc (k + j) (by omega)
          have h2 := HK.block g hgw hgA
          have h3 : cs[j] = l[k + j]'(by omega) := by simp [hcs]
          rw [h3, ← this, show o + k + j = o + (k + j) from by omega]
          unfold World.cell?; rw [h2]
        have hcb : ∀ y ∈ cs, 0 ≤ y ∧ y < 256 := fun y hy => HB.out y (by rw [hcs] at hy; exact List.mem_of_mem_drop (List.mem_of_mem_take hy))
        have hput : R.put (R.put M a (l.take k)) x cs = R.put M a (l.take (k + cs.length)) := by
          have e : l.take (k + cs.length) = l.take k ++ cs := by
            rw [List.take_add, hcs]; congr 1; simp
          rw [e, RamAt.put_append, hx]; congr 1; simp; omega
        have hxn : x + cs.length ≤ 64 * R.n := by omega
        have q0 : decide ((0 : Int) < (m : Int)) = true := by simp; omega
        have q1 : 0 < m := by omega
        have q2 : m ≤ cm := by omega
        rw [← hm, ← hcm, ← hx]
        have HP := hidE hput
        have HX := hidE hx
        have HM := hidE hm
        have HC := hidE hcm
        have HD := hidE hc
        have HS := hidE hcj
        have HL := hidE hcl
        clear hput hx hm hcm hcs hc hcj hcl hsrc
        have e1 : IntKind.u32.wrap ((cs.length : Nat) : Int) = cs.length := by simp [IntKind.wrap, IntKind.bits, IntKind.signed]; omega
        have e2 : IntKind.u32.wrap ((x : Int) + (cs.length : Nat)) = x + cs.length := by simp [IntKind.wrap, IntKind.bits, IntKind.signed]; omega
        go_wp2_with (first
          | (go_at_call 51; refine (at_ram wr HR x (by omega)).mono ?_; rintro _ w1 ⟨rfl, rfl⟩)
          | (refine wpList_copy_ram rfl (.tmp 24) (.tmp 25) 57 57 rfl 5 Tryz.underlying57 (by kernel_rfl) HR x (by omega) g (o + k) m cm rfl rfl cs HL.out HS.out hcb ?_; intro w2 HR2 HK2))
        have hx' := HX.out
        have hm' := HM.out
        have hcm' := HC.out
        refine ⟨⟨k + cs.length, by omega, congrArg (Value.int .u32) (by omega), ?_, by rw [← HP.out]; exact HR2, HK.trans HK2⟩, by simp only [intOf]; omega⟩
        by_cases hz : cs.length = m
        · exact .inr ⟨by omega, _, _, by rw [show m - cs.length = 0 from by omega]⟩
        · refine .inl ⟨by omega, ?_⟩
          rw [if_neg (by omega), show o + k + cs.length = o + (k + cs.length) from by omega, show m - cs.length = l.length - (k + cs.length) from by omega, show cm - cs.length = cap - (k + cs.length) from by omega]
      · obtain ⟨rfl, x, c, rfl⟩ := h
        go_wp2
        go_ret
        exact ⟨rfl, by simpa using HR, HK⟩
  · have hw : (decide ((a : Int) % al = 0) && decide ((l.length : Int) ≤ 64 * R.n) && decide ((a : Int) ≤ 64 * R.n - l.length)) = false := by simp; omega
    rw [hw] at hW
    simp only [if_neg hc]
    go_enter Tryz.func90, Tryz.ntmps90
    go_wp2_with (go_at_call 50; refine hW.out.mono ?_; rintro _ w1 ⟨rfl, rfl⟩)
    go_ret
    exact ⟨rfl, rfl⟩

theorem bySl_new {w : World} {A : Nat} (hA : A < w.heap.size) (l : List Int) (_hl : 0 < l.length) (hm : l.length ≤ maxLen) (hb : ∀ x ∈ l, 0 ≤ x ∧ x < 256) : BySr (w.alloc (.cells (l.map (Value.int .u8)).toArray 5)) A (.slice (some ⟨w.heap.size, 0, none⟩) l.length l.length) l :=
  ⟨hb, _, _, rfl, Nat.le_refl _, hm, fun _ => ⟨_, 0, rfl, by omega, by simp, fun j h => by
    rw [cell_of (block_new _ _)]; simp [h]⟩⟩
theorem IsRam.alloc {w : World} {R : RamAt} {M : List Int} (h : IsRam w R M) (x : Obj) : IsRam (w.alloc x) R M := h.keeps (F := fun _ => False) ((Keeps.refl _ _).alloc x) id id id
theorem layPost_ret {w : World} {R : RamAt} {M : List Int} {a : Nat} {al : Int} {l : List Int} {e : Ending} {w' : World} (h : LayPost w R M a al l e w') : ∃ v, e = .returned v := by
  unfold LayPost at h
  split at h
  · exact ⟨_, h.1⟩
  · exact ⟨_, h.1⟩

/-- What a lay of some bytes does. -/
def PutPost (w : World) (R : RamAt) (M : List Int) (a : Nat) (al : Int) (l : List Int) (e : Ending) (w' : World) : Prop :=
  if (a : Int) % al = 0 ∧ a + l.length ≤ 64 * R.n then e = .returned (.bool true) ∧ IsRam w' R (R.put M a l) ∧ Keeps (fun k => k = R.A) w w' else e = .returned (.bool false) ∧ Same w w'
theorem put_ret {w : World} {R : RamAt} {M : List Int} {a : Nat} {al : Int} {l : List Int} {x : Obj} {v : Value} {w' : World} (h : LayPost (w.alloc x) R M a al l (.returned v) w') : PutPost w R M a al l (.returned v) w' := by
  unfold LayPost at h
  unfold PutPost
  split at h
  · rename_i hc
    rw [if_pos hc]
    exact ⟨h.1, h.2.1, ((Keeps.refl _ _).alloc x).trans h.2.2⟩
  · rename_i hc
    rw [if_neg hc]
    exact ⟨h.1, h.2 ▸ (Keeps.refl _ _).alloc x⟩
set_option maxHeartbeats 800000 in
theorem fill_ram {R : RamAt} {M : List Int} (w : World) (H : IsRam w R M) (a : Nat) (ha2 : a < 4294967296) (v : Value) (l : List Int) (hv : BySr w R.A v l) :
    Calls Tryz.prog 60 #[.pointer (some ⟨R.b, 0, none⟩), .int .u32 a, v] w (LayPost w R M a 1 l) := by
  have HL := hidE (lay_ram w H a ha2 1 (by omega) (by omega) v l hv)
  go_enter Tryz.func60, Tryz.ntmps60
  go_wp2_with (go_at_call 90; refine HL.out.mono ?_; intro e w2 hp; obtain ⟨v, rfl⟩ := layPost_ret hp)
  go_ret
  exact hp
end Go.Proofs.YtomphgpplbekiaaGreat
namespace Go.Proofs.YtomphgpplbekiaaGreat
open Go.RowKit

/-- What an append leaves: nothing else has turned, and where the new row lies. -/
structure GrewS (w w' : World) (v v' : Value) : Prop where
  keeps : Keeps (fun k => some k = v.ownBlock) w w'
  fresh : ∀ k, some k = v'.ownBlock → some k = v.ownBlock ∨ w.heap.size ≤ k
  lt : ∀ k, some k = v'.ownBlock → k < w'.heap.size
theorem infoS_of {P : Program} {t : TypeId} {z : Value} {s b : Nat} (hb : (P.info? t).map (fun i => (i.zero, i.size, i.bytes)) = some (some z, s, b)) : ∃ i, P.info? t = some i ∧ i.zero = some z ∧ i.size = s ∧ i.bytes = b := by
  revert hb
  cases P.info? t with
  | none => intro h; cases h
  | some i => intro h; simp only [Option.map_some, Option.some.injEq, Prod.mk.injEq] at h; exact ⟨i, rfl, h.1, h.2.1, h.2.2⟩
theorem slice_info : (Tryz.prog.info? 57).map (fun i => (i.zero, i.size, i.bytes)) = some (some (.slice none 0 0), 1, 24) := by kernel_rfl
/-- A row of slices of the call's own. -/
def RowS (w : World) (B : Nat) (v : Value) (n : Nat) (xs : List Value) : Prop := w.ownsRow B 57 1 v n xs
theorem block_atR {w : World} (o : Obj) {n : Nat} (h : w.heap.size = n) : (w.alloc o).heap[n]? = some o := by subst h; exact block_new _ _
theorem append_slice {ops : Array Oper} {rest : List Oper} {o : Oper} {a : Act} {w : World} {Q : Exit → Act → World → Prop} (hgd : o.guard = none) (s x : Operand) (ho : o.op = .call { callee := .builtin .append, args := #[s, x], argTypes := #[139, 139] })
    (B : Nat) (v : Value) (n : Nat) (xs : List Value) (hs : a.eval s = v) (hown : RowS w B v n xs) (b c : Nat) (y : Value) (hy : y.oneCell' = true) (hx : a.eval x = .slice (some ⟨b, 0, none⟩) 1 c) (hb : w.heap[b]? = some (.cells #[y] 57 (0, 0)))
    (hl : n + 1 ≤ 20000) (hB : B ≤ w.heap.size)
    (h : ∀ g cap w', RowS w' B (.slice (some ⟨g, 0, none⟩) (n + 1) cap) (n + 1) (xs ++ [y]) → GrewS w w' v (.slice (some ⟨g, 0, none⟩) (n + 1) cap) → wpList Tryz.prog ops Q rest (a.put o.dst (.slice (some ⟨g, 0, none⟩) (n + 1) cap)) w') : wpList Tryz.prog ops Q (o :: rest) a w := by
  obtain ⟨i0, hi, hz0, hz1, hz2⟩ := infoS_of slice_info
  refine wpList_append_lies w hgd s x 139 ho B 57 i0 _ 1 24 Tryz.underlying139 hi hz0 hz1 hz2 rfl (by decide) v n xs hs hown ⟨b, 0, none⟩ 1 c [y] hx rfl ?_ (by simpa using hy) (by omega) (by simp only [maxLen]; omega) (by omega) hB _ rfl ?_
  · have := World.news_of_block hb
    simpa using this
  · intro g cap w' h1 h2 h3 h4
    refine h g cap w' h1 ⟨keeps_grown h2 fun k hk => hk.symm, fun k hk => ?_, fun k hk => ?_⟩
    · simp only [Value.ownBlock, Option.some.injEq] at hk
      subst hk
      rcases h3 with h | h
      · exact .inl h.symm
      · exact .inr (by omega)
    · simp only [Value.ownBlock, Option.some.injEq] at hk; omega

theorem cellR {w : World} {b : Nat} {v : Value} {t : TypeId} {x : Obj} (h : w.heap[b]? = some (.cells #[v] t (0, 0))) : (w.alloc x).drew.cell? ⟨b, 0, none⟩ = w.cell? ⟨b, 0, none⟩ := by
  rw [cell_of h]
  exact cell_of (w := (w.alloc x).drew) (block_old _ h) 0
def frameV (A j : Nat) : Value := .slice (some ⟨A, 64 * j, none⟩) 64 64
structure NewSt (w : World) (n k : Nat) (v : Value) (wr : World) : Prop where
  same : Same w wr
  hb : wr.heap[w.heap.size]? = some (.cells #[v] 141 (0, 0))
  hA : wr.heap[w.heap.size + 1]? = some (.cells ((List.replicate (64 * n) (0 : Int)).map (Value.int .u8)).toArray 5 (0, 0))
  row : RowS wr (w.heap.size + 2) v k ((List.range k).map (frameV (w.heap.size + 1)))
theorem newSt_next {w wr w1 : World} {n k : Nat} {v : Value} {g cap : Nat} (h : NewSt w n k v wr)
    (hrow : RowS w1 (w.heap.size + 2) (.slice (some ⟨g, 0, none⟩) (k + 1) cap) (k + 1) ((List.range k).map (frameV (w.heap.size + 1)) ++ [frameV (w.heap.size + 1) k]))
    (hg : GrewS (wr.alloc (.cells #[frameV (w.heap.size + 1) k] 57)).drew w1 v (.slice (some ⟨g, 0, none⟩) (k + 1) cap)) :
    NewSt w n (k + 1) (.slice (some ⟨g, 0, none⟩) (k + 1) cap) (w1.setCell ⟨w.heap.size, 0, none⟩ (.slice (some ⟨g, 0, none⟩) (k + 1) cap)) := by
  have nn : ∀ j, some j = v.ownBlock → w.heap.size + 2 ≤ j := fun j e => (World.ownsRow.lt h.row _ e.symm).1
  have B1 := hg.keeps.get (show (wr.alloc (.cells #[frameV (w.heap.size + 1) k] 57)).drew.heap[w.heap.size]? = _ from block_old _ h.hb) (fun e => by have := nn _ e; omega)
  have A1 := hg.keeps.get (show (wr.alloc (.cells #[frameV (w.heap.size + 1) k] 57)).drew.heap[w.heap.size + 1]? = _ from block_old _ h.hA) (fun e => by have := nn _ e; omega)
  refine ⟨?_, by rw [block_set B1]; rfl, block_other _ A1 (by simp), ?_⟩
  · refine Keeps.setCell (same_then (h.same.alloc _).drew hg.keeps fun j e => by have := nn j e; omega) (fun e => ?_) _
    simp at e
  · rw [List.range_succ, List.map_append]
    exact owns_keeps hrow (Keeps.setCell (F := fun j => j = w.heap.size) (Keeps.refl _ _) (fun _ => rfl) _) (fun j hj e => by omega)
def NewRel (w : World) (n : Nat) (t20 : Value) (wr : World) : Prop := ∃ k v, k ≤ n ∧ t20 = .int .i64 (k : Nat) ∧ NewSt w n k v wr
def zeros (n : Nat) : Array Value := ((List.replicate n (0 : Int)).map (Value.int .u8)).toArray
theorem byteS_info : (Tryz.prog.info? 5).map (fun i => (i.zero, i.size, i.bytes)) = some (some (.int .u8 0), 1, 1) := by kernel_rfl
theorem run_zeros (n : Nat) (hn : n ≤ 16777216) (u : World) : (Instr.makeSlice 57 (.int .i64 (n : Int)) (.int .i64 (n : Int))).run Tryz.prog u = .ok (.slice (some ⟨u.heap.size, 0, none⟩) n n) (u.alloc (.cells (zeros n) 5)) := by
  obtain ⟨i, hi, hz, hs, hb⟩ := infoS_of byteS_info
  have h := run_makeSlice (P := Tryz.prog) (w := u) 57 5 i _ Tryz.underlying57 hi hz .i64 .i64 n n (by omega) (by omega) (by rw [hs]; simpa using hn) (by rw [hb]; omega) (by omega)
  rw [h, hs]
  simp only [Int.toNat_natCast, Nat.mul_one]
  have e : madeCells (Value.cells (.int .u8 0)) n = zeros n := by
    apply Array.ext'
    unfold zeros
    simp [madeCells, Value.cells, Nat.mod_one]
    exact (List.map_const' ..).trans (by simp)
  rw [e]
set_option maxRecDepth 100000 in
set_option maxHeartbeats 1000000 in
theorem new_ram (w : World) (n : Nat) (h1 : 1 ≤ n) (h2 : n ≤ 512) :
    Calls Tryz.prog 26 #[.int .i64 n] w fun e w' => ∃ R : RamAt, e = .returned (.tuple #[.pointer (some ⟨R.b, 0, none⟩), .int .i64 0]) ∧ R.n = n ∧ R.F = id ∧ IsRam w' R (List.replicate (64 * n) 0) ∧ Same w w' ∧ w.heap.size ≤ R.b ∧ w.heap.size ≤ R.S ∧ w.heap.size ≤ R.A := by
  have q0 : decide ((n : Int) < 1) = false := by simp; omega
  have q1 : decide ((512 : Int) < n) = false := by simp; omega
  have e1 := wrapI ((n : Int) * 64) (by omega) (by omega)
  have hmk : Hid (∀ u : World, _) := hidE (run_zeros (64 * n) (by omega))
  rw [show ((64 * n : Nat) : Int) = (n : Int) * 64 from by omega] at hmk
  have hmk := hmk.out
  obtain ⟨Z, hZ⟩ : ∃ Z, Z = zeros (64 * n) := ⟨_, rfl⟩
  rw [← hZ] at hmk
  go_enter Tryz.func26, Tryz.ntmps26
  have HZ := hidE hZ
  clear hZ
  go_wp2_with fail
  go_loopw [20] (fun t20 wr => NewRel w n t20 wr) (fun t20 _ => n - (intOf t20).toNat)
  case atStart =>
    refine ⟨0, .slice none 0 0, by omega, rfl, ((Keeps.refl _ _).alloc _).alloc _, block_old _ (block_new _ _), ?_, World.ownsRow_nil _ _ _ _⟩
    rw [HZ.out]; exact block_atR _ (by simp)
  case round =>
    obtain ⟨k, v, hk, rfl, HS⟩ := hrel
    have hb := HS.hb
    have cb := cell_of hb
    have fb := frozen_of hb
    have hlb := lt_of_block hb
    have HH := hidE HS
    clear HS
    by_cases hlt : k < n
    · have e2 := wrapI ((k : Int) * 64) (by omega) (by omega)
      have e3 := wrapI ((k : Int) * 64 + 64) (by omega) (by omega)
      have q2 : decide ((k : Int) < n) = true := by simp; omega
      go_wp2_with fail
      have hkn : (k : Int) * 64 + 64 ≤ ((64 * n : Nat) : Int) := by omega
      have hk0 : (0 : Int) ≤ (k : Int) * 64 := by omega
      have hk6 : ((k : Int) * 64).toNat = 64 * k := by omega
      have hk7 : ((k : Int) * 64 + 64).toNat = 64 * k + 64 := by omega
      refine wp_region_ev 12 14 2 rfl (fun u => u.cell? ⟨w.heap.size, 0, none⟩ = some v) (by kernel_rfl) (by kernel_rfl) (fun c a d v w h => by cases d <;> exact h) ?_ ?_
      · exact cb 0
      simp only [List.take_succ_cons, List.take_zero, List.drop_succ_cons, List.drop_zero]
      repeat (refine stS_cons (v := ?_) rfl (fun u hu => ?_) ?_; rotate_left; · (go_simp; first | done | with_reducible rfl); (try simp only [Act.put, List.setIfInBounds_toArray, List.set_cons_zero, List.set_cons_succ]))
      refine stS_cons (v := ?_) rfl (fun u hu => ?_) ?_
      rotate_left
      · go_simp
        rw [if_pos ⟨by omega, by omega⟩, if_pos ⟨by omega, by omega⟩, if_pos (by omega)]
      refine stS_nil ?_
      refine wpListS_cons ?_
      go_wp2
      have hc1 : (wr.alloc (.cells #[frameV (w.heap.size + 1) k] 57)).drew.cell? ⟨w.heap.size, 0, none⟩ = some v := by
        rw [cellR HH.out.hb, cb 0]; rfl
      refine Then1_mk ⟨hc1, ?_⟩
      refine wpListS_cons ?_
      refine append_slice rfl (.tmp 29) (.tmp 37) rfl (w.heap.size + 2) v k ((List.range k).map (frameV (w.heap.size + 1))) rfl (World.ownsRow.alloc HH.out.row _).drew wr.heap.size 1 (frameV (w.heap.size + 1) k) rfl rfl (block_new wr _) (by omega) (by have := HH.out.same.size; have := lt_of_block HH.out.hA; simp; omega) ?_
      intro g cap w1 hrow hgrow
      have nb : ¬ some w.heap.size = v.ownBlock := fun e => by have := (World.ownsRow.lt HH.out.row _ e.symm).1; omega
      have nA : ¬ some (w.heap.size + 1) = v.ownBlock := fun e => by have := (World.ownsRow.lt HH.out.row _ e.symm).1; omega
      have hN : Hid (NewSt w n (k + 1) (.slice (some ⟨g, 0, none⟩) (k + 1) cap) (w1.setCell ⟨w.heap.size, 0, none⟩ (.slice (some ⟨g, 0, none⟩) (k + 1) cap))) := hidE (newSt_next HH.out hrow hgrow)
      have B1 := hgrow.keeps.get (show (wr.alloc (.cells #[frameV (w.heap.size + 1) k] 57)).drew.heap[w.heap.size]? = _ from block_old _ hb) nb
      have c1 := cell_of B1
      have f1 := frozen_of B1
      clear hrow hgrow cb fb hc1
      refine wpList_nil (Then1_mk ⟨by rw [c1]; rfl, ?_⟩)
      refine wpListS_zero ?_
      have c1 := c1 0
      have f1 := f1 0
      go_wp2
      exact ⟨⟨k + 1, _, by omega, by simp, hN.out⟩, by simp only [intOf]; omega⟩
    · obtain rfl : k = n := by omega
      go_wp2
      go_ret2
      have HR := HH.out.row
      obtain ⟨hl, hr⟩ := HR
      rcases hr with ⟨-, h0⟩ | ⟨g, cap, cur, rfl, hg, hgh, hc1, hc2, hc3, hc4⟩
      · omega
      have g0 : w.heap.size ≠ g := by omega
      have g1 : w.heap.size ≠ w.heap.size + 1 := by omega
      have g2 : g ≠ w.heap.size + 1 := by omega
      have g3 : w.heap.size ≤ g := by omega
      have g4 : w.heap.size ≤ w.heap.size + 1 := by omega
      have hfit : ∀ j, j < k → 64 * j + 64 ≤ (List.replicate (64 * k) (0 : Int)).length := fun j hj => by simp; omega
      refine ⟨⟨w.heap.size, g, k, cap, w.heap.size + 1, id⟩, rfl, rfl, rfl, ⟨hb, ⟨cur, hgh, fun j (hj : j < k) => ?_⟩, HH.out.hA, hfit, fun i j _ _ h => h, h1, h2, hc1, fun x hx => ?_, g0, g1, g2⟩, HH.out.same, Nat.le_refl _, g3, g4⟩
      · have e : cur.toList[j]? = ((List.range k).map (frameV (w.heap.size + 1)))[j]? := by
          rw [← hc4, List.getElem?_take, if_pos (by omega)]
        rw [Array.getElem?_toList] at e
        rw [e]
        simp [frameV, hj]
      · simp at hx
        obtain ⟨_, rfl⟩ := hx
        omega

set_option maxRecDepth 100000 in
set_option maxHeartbeats 1000000 in
theorem new_ram_no (x : Int) (w : World) (h : x < 1 ∨ 512 < x) :
    Calls Tryz.prog 26 #[.int .i64 x] w fun e w' => e = .returned (.tuple #[.pointer none, .int .i64 2]) ∧ w = w' := by
  rcases h with h | h
  · go_enter Tryz.func26, Tryz.ntmps26
    go_wp2
    go_ret2
    exact ⟨rfl, rfl⟩
  · have h1 : ¬ x < 1 := by omega
    go_enter Tryz.func26, Tryz.ntmps26
    go_wp2
    go_ret2
    exact ⟨rfl, rfl⟩
end Go.Proofs.YtomphgpplbekiaaGreat
