/- Package scan: what Scan reckons, in plain words; the state of its loop. Package scan: bounds of what fetch and Scan reckon. -/
import Derived.Test.YtjkjnomhggmplaaGreatScanF
import Derived.Test.YtjkjnomhggmplaaGreatKindD
namespace Go.Proofs.YtjkjnomhggmplaaGreat
open Go.RowKit

structure Scanned where
  c : Int
  a : Nat
  b : Bl
def bl0 : Bl := ⟨[], [], 0, 0, 0, [], []⟩
def toN (next : Nat) (imm : Int) : Nat := (((next : Int) + imm) % 4294967296).toNat
def Bl.fin (b : Bl) (i : In) (en : Int) : Bl := { b with en := en, to := toN b.next i.imm }
/-- A block with no more behind it: of what sort is its end. -/
def endB (b : Bl) (i : In) : Bl :=
  if i.op = 64 ∨ i.op = 72 then b.fin i 2 else if 65 ≤ i.op ∧ i.op ≤ 71 then b.fin i 3 else { b with en := 4 }
/-- The block with so many instructions more, at most. -/
def goL (R : RamAt) (M : List Int) (root ps : Nat) : Nat → Bl → List Int → Scanned
  | 0, b, _ => ⟨0, 0, b⟩
  | n + 1, b, pg =>
    let z := fetchL R M root ps b.next
    if z.c ≠ 0 ∧ b.ins.length = 0 then ⟨z.c, z.a, bl0⟩ else
    if z.c ≠ 0 ∨ 2 < (z.f.pg.foldl putL pg).length then ⟨0, 0, b⟩ else
    if 3 ≤ (kindM z.i.op).1 then ⟨0, 0, endB (layL b z.i z.sz z.f) z.i⟩ else goL R M root ps n (layL b z.i z.sz z.f) (z.f.pg.foldl putL pg)
def limN (most : Int) : Nat := (min (max most 1) 32).toNat
def scanL (R : RamAt) (M : List Int) (root ps pc : Nat) (most : Int) : Scanned := goL R M root ps (limN most) ⟨[], [], pc, 0, 1, [], []⟩ []

theorem own_cells {w : World} {B : Nat} {e : TypeId} {s n : Nat} {v : Value} {xs : List Value} (h : w.ownsRow B e s v n xs) {k : Nat} (hk : some k = v.ownBlock) : ∃ cur, w.heap[k]? = some (.cells cur e (0, 0)) := by
  obtain ⟨-, ⟨rfl, -⟩ | ⟨g, cap, cur, rfl, -, hg, -⟩⟩ := h
  · simp [Value.ownBlock] at hk
  · simp only [Value.ownBlock, Option.some.injEq] at hk
    subst hk
    exact ⟨cur, hg⟩
theorem TabOk.keepC {F : Nat → Prop} {w w' : World} {tb : Nat} (h : TabOk w tb) (k : Keeps F w w') (h1 : ¬ F tb) (h2 : ∀ j, j < w.heap.size → F j → ∃ cur T f, w.heap[j]? = some (.cells cur T f)) : TabOk w' tb := by
  rcases h with h | ⟨r, hb, hr, hM⟩
  · exact .inl (k.get h h1)
  · refine .inr ⟨r, k.get hb h1, hr, hM.keeps k ?_⟩
    obtain ⟨D, ⟨es, cl, hx, -⟩, -⟩ := hM
    intro e
    obtain ⟨cur, T, f, hc⟩ := h2 r (lt_of_block hx) e
    rw [hx] at hc
    cases hc
/-- The state of Scan's loop. -/
structure ScI (w : World) (R : RamAt) (M : List Int) (S : Array Value) (root ps s0 : Nat) (wr : World) (vi va vf vt vp : Value) (b : Bl) (pg : List Int) : Prop where
  e4 : wr.heap[w.heap.size]? = some (.cells S 28 (0, 0))
  e6 : wr.heap[w.heap.size + 1]? = some (.cells (blA bl0 (.slice none 0 0) (.slice none 0 0) (.slice none 0 0) (.slice none 0 0)) 40 (0, 0))
  e7 : wr.heap[w.heap.size + 1 + 1]? = some (.cells #[.int .i64 0, .int .u32 0] 42 (0, 0))
  e8 : wr.heap[w.heap.size + 1 + 1 + 1]? = some (.cells (blA b vi va vf vt) 40 (0, 0))
  tab : TabOk wr (w.heap.size + 1 + 1 + 1 + 1)
  rows : BlW wr (w.heap.size + 1 + 1 + 1 + 1 + 1) vi va vf vt b
  rp : rowU wr (w.heap.size + 1 + 1 + 1 + 1 + 1) vp pg
  ap : ∀ k, some k = va.ownBlock → some k ≠ vp.ownBlock
  ram : IsRam wr R M
  l1 : R.b < w.heap.size
  l2 : R.S < w.heap.size
  l3 : R.A < w.heap.size
  st : StV S root ps s0
  keep : Same w wr
  hn : pg = [] → vp = .slice none 0 0
section
variable {w : World} {R : RamAt} {M : List Int} {S : Array Value} {root ps s0 : Nat} {wr w' : World} {vi va vf vt vp : Value} {b : Bl} {pg : List Int}
theorem TabOk.lt {w : World} {tb : Nat} (h : TabOk w tb) : tb < w.heap.size := by
  rcases h with h | ⟨r, hb, -⟩
  · exact lt_of_block h
  · exact lt_of_block hb
theorem ScI.size (h : ScI w R M S root ps s0 wr vi va vf vt vp b pg) : w.heap.size + 1 + 1 + 1 + 1 + 1 ≤ wr.heap.size := h.tab.lt
theorem ScI.same (h : ScI w R M S root ps s0 wr vi va vf vt vp b pg) (k : Same wr w') : ScI w R M S root ps s0 w' vi va vf vt vp b pg :=
  ⟨k.get h.e4 id, k.get h.e6 id, k.get h.e7 id, k.get h.e8 id, h.tab.keepC k id (fun _ _ h => h.elim), ⟨owns_stay h.rows.ri k (fun _ _ => id), owns_stay h.rows.ra k (fun _ _ => id), owns_stay h.rows.rf k (fun _ _ => id), owns_stay h.rows.rt k (fun _ _ => id), h.rows.ft⟩, owns_stay h.rp k (fun _ _ => id), h.ap, h.ram.same k, h.l1, h.l2, h.l3, h.st, h.keep.trans k, h.hn⟩
/-- Behind a question to the table. -/
theorem ScI.ask (h : ScI w R M S root ps s0 wr vi va vf vt vp b pg) (k : Keeps (fun k => k = w.heap.size + 1 + 1 + 1 + 1) wr w') (ht : TabHas w' (w.heap.size + 1 + 1 + 1 + 1)) : ScI w R M S root ps s0 w' vi va vf vt vp b pg :=
  ⟨k.get h.e4 (by omega), k.get h.e6 (by omega), k.get h.e7 (by omega), k.get h.e8 (by omega), .inr ht, ⟨owns_stay h.rows.ri k (fun g e e' => by have := (owns_lt h.rows.ri g e).1; omega), owns_stay h.rows.ra k (fun g e e' => by have := (owns_lt h.rows.ra g e).1; omega), owns_stay h.rows.rf k (fun g e e' => by have := (owns_lt h.rows.rf g e).1; omega), owns_stay h.rows.rt k (fun g e e' => by have := (owns_lt h.rows.rt g e).1; omega), h.rows.ft⟩, owns_stay h.rp k (fun g e e' => by have := (owns_lt h.rp g e).1; omega), h.ap,
    h.ram.keeps k (by have := h.l1; omega) (by have := h.l2; omega) (by have := h.l3; omega), h.l1, h.l2, h.l3, h.st, same_then h.keep k (fun j hj => by omega), h.hn⟩
/-- Where the block under way is laid anew. -/
theorem ScI.lays {w1 : World} {A : Array Value} {b' : Bl} (e4 : wr.heap[w.heap.size]? = some (.cells S 28 (0, 0)))
    (e6 : wr.heap[w.heap.size + 1]? = some (.cells (blA bl0 (.slice none 0 0) (.slice none 0 0) (.slice none 0 0) (.slice none 0 0)) 40 (0, 0)))
    (e7 : wr.heap[w.heap.size + 1 + 1]? = some (.cells #[.int .i64 0, .int .u32 0] 42 (0, 0)))
    (e8 : wr.heap[w.heap.size + 1 + 1 + 1]? = some (.cells A 40 (0, 0))) (tab : TabOk wr (w.heap.size + 1 + 1 + 1 + 1)) (rows : BlW wr (w.heap.size + 1 + 1 + 1 + 1 + 1) vi va vf vt b')
    (rp : rowU wr (w.heap.size + 1 + 1 + 1 + 1 + 1) vp pg) (ap : ∀ k, some k = va.ownBlock → some k ≠ vp.ownBlock) (ram : IsRam wr R M) (l1 : R.b < w.heap.size) (l2 : R.S < w.heap.size) (l3 : R.A < w.heap.size) (st : StV S root ps s0) (keep : Same w wr) (hn : pg = [] → vp = .slice none 0 0)
    (k : Keeps (fun k => k = w.heap.size + 1 + 1 + 1) wr w1) (e8' : w1.heap[w.heap.size + 1 + 1 + 1]? = some (.cells (blA b' vi va vf vt) 40 (0, 0))) : ScI w R M S root ps s0 w1 vi va vf vt vp b' pg :=
  ⟨k.get e4 (by omega), k.get e6 (by omega), k.get e7 (by omega), e8', tab.keepC k (by omega) (fun j _ e => ⟨A, 40, (0, 0), by subst e; exact e8⟩), ⟨owns_box rows.ri e8 (by decide) k, owns_box rows.ra e8 (by decide) k, owns_box rows.rf e8 (by decide) k, owns_box rows.rt e8 (by decide) k, rows.ft⟩, owns_box rp e8 (by decide) k, ap,
    ram.keeps k (by omega) (by omega) (by omega), l1, l2, l3, st, same_then keep k (fun j hj => by omega), hn⟩
theorem ScI.lay (h : ScI w R M S root ps s0 wr vi va vf vt vp b pg) {vi' va' vf' vt' vq : Value} {b' : Bl} {qg : List Int} (k : LayPo wr (w.heap.size + 1 + 1 + 1 + 1 + 1) vi va vf vt b' w' vi' va' vf' vt')
    (hq : rowU wr (w.heap.size + 1 + 1 + 1 + 1 + 1) vq qg) (hqa : ∀ k, some k = va.ownBlock → some k ≠ vq.ownBlock) (hqn : qg = [] → vq = .slice none 0 0) :
    w'.heap[w.heap.size + 1 + 1 + 1]? = some (.cells (blA b vi va vf vt) 40 (0, 0)) ∧ ScI w R M S root ps s0 (w'.setRow (w.heap.size + 1 + 1 + 1) (blA b' vi' va' vf' vt')) vi' va' vf' vt' vq b' qg := by
  have hlow : ∀ j, j < w.heap.size + 1 + 1 + 1 + 1 + 1 → ¬ Own4 vi va vf vt j := fun j hj e => by
    rcases e with e | e | e | e
    · have := (owns_lt h.rows.ri j e).1; omega
    · have := (owns_lt h.rows.ra j e).1; omega
    · have := (owns_lt h.rows.rf j e).1; omega
    · have := (owns_lt h.rows.rt j e).1; omega
  have h8 := k.keep.get h.e8 (hlow _ (by omega))
  refine ⟨h8, ScI.lays (k.keep.get h.e4 (hlow _ (by omega))) (k.keep.get h.e6 (hlow _ (by omega))) (k.keep.get h.e7 (hlow _ (by omega))) h8 (h.tab.keepC k.keep (hlow _ (by omega)) (fun j _ e => ?_)) k.rows (owns_stay hq k.keep fun g e e' => ?_) (fun j e e' => ?_)
    (h.ram.keeps k.keep (hlow _ (by have := h.l1; omega)) (hlow _ (by have := h.l2; omega)) (hlow _ (by have := h.l3; omega))) h.l1 h.l2 h.l3 h.st (same_then h.keep k.keep fun j hj => ?_) hqn (Keeps.setRow (F := fun k => k = w.heap.size + 1 + 1 + 1) (Keeps.refl _ _) (fun _ => rfl) _) (setRow_block h8 _)⟩
  · rcases e with e | e | e | e
    · obtain ⟨c, hc⟩ := own_cells h.rows.ri e; exact ⟨_, _, _, hc⟩
    · obtain ⟨c, hc⟩ := own_cells h.rows.ra e; exact ⟨_, _, _, hc⟩
    · obtain ⟨c, hc⟩ := own_cells h.rows.rf e; exact ⟨_, _, _, hc⟩
    · obtain ⟨c, hc⟩ := own_cells h.rows.rt e; exact ⟨_, _, _, hc⟩
  · rcases e' with e' | e' | e' | e'
    · exact owns_apart h.rows.ri hq (by decide) g e' e
    · exact hqa g e' e
    · exact owns_apart h.rows.rf hq (by decide) g e' e
    · exact owns_apart h.rows.rt hq (by decide) g e' e
  · rcases k.o2 j e with e2 | e2
    · exact hqa j e2 e'
    · have := (owns_lt hq j e').2; omega
  · rcases Nat.lt_or_ge j (w.heap.size + 1 + 1 + 1 + 1 + 1) with h1 | h1
    · exact absurd hj (hlow j h1)
    · omega
/-- Its end is laid. -/
theorem ScI.set (h : ScI w R M S root ps s0 wr vi va vf vt vp b pg) (o : Nat) (x : Value) (b' : Bl) (hb : (blA b vi va vf vt).setIfInBounds o x = blA b' vi va vf vt) (h1 : b'.ins = b.ins) (h2 : b'.at_ = b.at_) (h3 : b'.fr = b.fr) (h4 : b'.tb = b.tb) :
    ScI w R M S root ps s0 (wr.setCell ⟨w.heap.size + 1 + 1 + 1, o, none⟩ x) vi va vf vt vp b' pg :=
  ScI.lays h.e4 h.e6 h.e7 h.e8 h.tab ⟨by rw [h1]; exact h.rows.ri, by rw [h2]; exact h.rows.ra, by rw [h3]; exact h.rows.rf, by rw [h4]; exact h.rows.rt, h.rows.ft⟩ h.rp h.ap h.ram h.l1 h.l2 h.l3 h.st h.keep h.hn
    (Keeps.setCell (F := fun k => k = w.heap.size + 1 + 1 + 1) (Keeps.refl _ _) (p := ⟨w.heap.size + 1 + 1 + 1, o, none⟩) (fun _ => rfl) _) (by rw [← hb]; exact block_set h.e8 o x)
end
def ScanPost (w : World) (Z : Scanned) (e : Ending) (w' : World) : Prop :=
  ∃ vi va vf vt, e = .returned (.tuple #[.agg (blA Z.b vi va vf vt), flV Z.c Z.a]) ∧ BlW w' w.heap.size vi va vf vt Z.b ∧ Same w w'
end Go.Proofs.YtjkjnomhggmplaaGreat
namespace Go.Proofs.YtjkjnomhggmplaaGreat
open Go.RowKit

theorem Fd.Ok.mono {f : Fd} {n m : Nat} (h : f.Ok n) (hm : n ≤ m) : f.Ok m := ⟨h.r1, h.r2, h.r3, by have := h.l1; omega, by have := h.l2; omega, by have := h.l3; omega⟩
def Bytes8 (bs : List Int) : Prop := ∀ y ∈ bs, 0 ≤ y ∧ y < 256
theorem moreL_ok {w : World} {R : RamAt} {M : List Int} (H : IsRam w R M) {root ps pc : Nat} : ∀ (k : Nat) (bs : List Int) (f : Fd) (n : Nat), f.Ok n → Bytes8 bs → (moreL R M root ps pc k bs f).2.2.Ok (n + k) ∧ Bytes8 (moreL R M root ps pc k bs f).2.1
  | 0, bs, f, n, h, hb => ⟨h, hb⟩
  | k + 1, bs, f, n, h, hb => by
    have h1 := byteL_ok (R := R) (M := M) (root := root) (ps := ps) (va := (pc + bs.length) % 4294967296) h
    simp only [moreL]
    cases hy : byteL R M root ps ((pc + bs.length) % 4294967296) f with
    | mk a f' =>
      rw [hy] at h1
      cases a with
      | none => exact ⟨h1.mono (by omega), hb⟩
      | some x =>
        have hx := byteL_bd H (show (byteL R M root ps ((pc + bs.length) % 4294967296) f).1 = some x by rw [hy])
        have := moreL_ok H (root := root) (ps := ps) (pc := pc) k (bs ++ [x]) f' (n + 1) h1 (fun y hy => by
          rcases List.mem_append.1 hy with h | h
          · exact hb y h
          · simp at h; subst h; exact hx)
        rw [show n + (k + 1) = n + 1 + k by omega]
        exact this
structure FetchOk (z : Fetched) : Prop where
  f : z.f.Ok 6
  s0 : 0 ≤ z.sz
  s6 : z.sz ≤ 6
  o0 : 0 ≤ z.i.op
  o1 : z.i.op < 256
theorem form_n0 (op : Int) : 0 ≤ (formL op false).n := by
  obtain ⟨h1, -, h3, -, -, h6⟩ := fm_facts op false
  rw [h6]
  split
  · omega
  · rcases h1 with h | h | h | h <;> rcases h3 with h' | h' <;> omega
theorem decR_ok {pc : Nat} {bs : List Int} {f : Fd} (hf : f.Ok 6) (hb : Bytes8 bs) : FetchOk (decR pc bs f) := by
  unfold decR
  split
  · exact ⟨hf, by simp, by simp, by simp [in0], by simp [in0]⟩
  · have hx : 0 ≤ bs.getD 0 0 ∧ bs.getD 0 0 < 256 := by
      cases bs with
      | nil => simp
      | cons x r => simpa using hb x (by simp)
    have hn0 := form_n0 (bs.getD 0 0)
    have hn6 := form_n6 (bs.getD 0 0)
    refine ⟨hf, ?_, ?_, ?_, ?_⟩
    all_goals (simp only [decL]; repeat' split)
    all_goals (simp only [in0, insOf]; omega)
theorem restL_ok {w : World} {R : RamAt} {M : List Int} (H : IsRam w R M) {root ps pc : Nat} {x : Int} {f : Fd} (hf : f.Ok 1) (hx : 0 ≤ x ∧ x < 256) : FetchOk (restL R M root ps pc [x] f) := by
  unfold restL
  have h6 := form_n6 (headX [x])
  have hm := moreL_ok H (root := root) (ps := ps) (pc := pc) ((formL (headX [x]) false).n.toNat - [x].length) [x] f 1 hf (fun y hy => by simp at hy; subst hy; exact hx)
  generalize moreL R M root ps pc ((formL (headX [x]) false).n.toNat - [x].length) [x] f = m at hm
  obtain ⟨a, bs, f'⟩ := m
  have hf6 : f'.Ok 6 := hm.1.mono (by simp; omega)
  cases a with
  | none => exact decR_ok hf6 hm.2
  | some va => exact ⟨hf6, by simp, by simp, by simp [in0], by simp [in0]⟩
theorem fetchL_ok {w : World} {R : RamAt} {M : List Int} (H : IsRam w R M) (root ps pc : Nat) : FetchOk (fetchL R M root ps pc) := by
  unfold fetchL
  have h1 := byteL_ok (R := R) (M := M) (root := root) (ps := ps) (va := pc % 4294967296) fd0_ok
  cases hy : byteL R M root ps (pc % 4294967296) fd0 with
  | mk a f' =>
    rw [hy] at h1
    cases a with
    | none => exact ⟨h1.mono (by omega), by simp, by simp, by simp [in0], by simp [in0]⟩
    | some x => exact restL_ok H h1 (byteL_bd H (show (byteL R M root ps (pc % 4294967296) fd0).1 = some x by rw [hy]))
/-- What holds of a block under way. -/
structure BlOk (b : Bl) : Prop where
  r1 : Rising b.fr
  r2 : Rising b.tb
  la : b.at_.length = b.ins.length
  lf : b.fr.length ≤ 6 * b.ins.length
  lt : b.tb.length ≤ 12 * b.ins.length
  hn : b.next < 4294967296
theorem layL_ok {b : Bl} {z : Fetched} (h : BlOk b) (hz : FetchOk z) : BlOk (layL b z.i z.sz z.f) := by
  refine ⟨rising_fold _ _ h.r1, rising_fold _ _ h.r2, by simp [layL, h.la], ?_, ?_, by simp only [layL]; omega⟩
  · have := length_fold z.f.fr b.fr
    have := h.lf
    have := hz.f.l1
    simp only [layL, List.length_append, List.length_cons, List.length_nil]
    omega
  · have := length_fold z.f.tb b.tb
    have := h.lt
    have := hz.f.l2
    simp only [layL, List.length_append, List.length_cons, List.length_nil]
    omega
end Go.Proofs.YtjkjnomhggmplaaGreat
