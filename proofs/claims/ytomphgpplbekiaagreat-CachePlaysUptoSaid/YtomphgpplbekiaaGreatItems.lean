/- Plain: a block's code as a list of instructions with what their rows say; what is decoded of it. Plain: what the rows of a block's code say of exits; which instructions stand in it. -/
import Derived.Test.YtomphgpplbekiaaGreatTrans
import Derived.Test.YtomphgpplbekiaaGreatStubC
import Derived.Test.YtomphgpplbekiaaGreatTrRef
namespace Go.Proofs.YtomphgpplbekiaaGreat
open Go.RowKit

structure It where
  i : In
  pc : Int
  dn : Int
  ex : Int
def itB (l : List It) : List Int := l.flatMap fun x => encL x.i true
def itR : Int → List It → List Rw
  | _, [] => []
  | o, x :: l => ⟨o, x.pc, x.dn, x.ex⟩ :: itR (o + (encL x.i true).length) l
def itC (l : List It) : Cd := (itB l, itR 0 l)
theorem itB_append (l m : List It) : itB (l ++ m) = itB l ++ itB m := by simp [itB]
theorem itB_cons (x : It) (l : List It) : itB (x :: l) = encL x.i true ++ itB l := by simp [itB]
theorem itR_append : ∀ (l m : List It) (o : Int), itR o (l ++ m) = itR o l ++ itR (o + (itB l).length) m
  | [], m, o => by simp [itR, itB]
  | x :: l, m, o => by
    simp only [List.cons_append, itR, itR_append l m]
    rw [itB_cons]
    simp only [List.length_append, Int.natCast_add]
    rw [Int.add_assoc]
structure It.Good (x : It) : Prop where
  ok : x.i.Ok
  may : mayB x.i true = true
  leave : (x.i.op = 113 ∧ x.i.imm = x.ex ∧ 0 ≤ x.ex) ∨ (x.i.op ≠ 113 ∧ x.ex = -1)
theorem cls_tf (op : Int) (h1 : op ≠ 112) (h2 : op ≠ 113) : clsOf op false = clsOf op true := by
  unfold clsOf
  simp [h1, h2]
theorem enc_tf {i : In} (h : mayB i false = true) : encL i false = encL i true ∧ mayB i true = true ∧ i.op ≠ 112 ∧ i.op ≠ 113 := by
  have h2 : i.op ≠ 112 := by
    intro e
    rw [mayB, e] at h
    simp [show formL 112 false = ⟨0, 0, 0, 0, 0⟩ from rfl] at h
  have h3 : i.op ≠ 113 := by
    intro e
    rw [mayB, e] at h
    simp [show formL 113 false = ⟨0, 0, 0, 0, 0⟩ from rfl] at h
  have hf : formL i.op false = formL i.op true := by unfold formL; rw [cls_tf _ h2 h3]
  refine ⟨by unfold encL; rw [hf], ?_, h2, h3⟩
  unfold mayB at *
  rw [← hf]
  exact h
def withI (l : List It) (i : In) (pc dn : Int) : List It := l ++ [⟨i, pc, dn, -1⟩]
def outI (l : List It) (dn to nx : Int) : List It := l ++ [⟨⟨112, 0, 0, dn⟩, to, dn, -1⟩, ⟨⟨113, 0, 0, nx⟩, to, 0, nx⟩]
theorem with_it (l : List It) (i : In) (pc dn : Int) (h : mayB i false = true) : withL (itC l) i pc dn = itC (withI l i pc dn) := by
  simp only [withL, itC, withI, itB_append, itR_append]
  rw [(enc_tf h).1]
  simp [itB, itR]
theorem out_it (l : List It) (dn to nx : Int) (n0 : 0 ≤ dn) (n1 : dn ≤ 255) (x0 : 0 ≤ nx) (x1 : nx ≤ 65535) : outL (itC l) dn to nx = itC (outI l dn to nx) := by
  have hs := stub_bytes dn nx n0 n1 x0 x1
  have hl : (encL ⟨112, 0, 0, dn⟩ true).length = 2 := by
    simp [encL, headL, immL, show formL 112 true = ⟨2, 0, 0, 1, 0⟩ from rfl]
  simp only [bytesL] at hs
  simp only [outL, itC, outI, itB_append, itR_append]
  refine Prod.ext ?_ ?_
  · simp only [itB]
    rw [← hs]
    simp
  · simp [itR, hl]
def bodyI (b : Bk) : Nat → List It
  | 0 => []
  | k + 1 => withI (bodyI b k) (b.X k) (b.Y k) k
def endI (b : Bk) (l : List It) (nx : Int) : List It :=
  if b.fin = 1 then outI l b.n b.next nx
  else if b.fin = 2 then outI (if (lastX b).op = 72 then withI l (ldiI b) (lastY b) (b.n - 1 : Int) else l) b.n b.to nx
  else if b.fin = 3 then outI (outI (withI l (brI b) (lastY b) (b.n - 1 : Int)) b.n b.next nx) b.n b.to (nx + 1)
  else outI l (b.n - 1 : Int) (lastY b) nx
def trI (b : Bk) (first : Int) : List It := endI b (bodyI b (if b.fin = 1 then b.n else b.n - 1)) first
theorem body_it {b : Bk} (h : ∀ k, k < b.n → mayB (b.X k) false = true) : ∀ k, k ≤ b.n → bodyC b k = itC (bodyI b k)
  | 0, _ => rfl
  | k + 1, hk => by
    simp only [bodyC, bodyI]
    rw [body_it h k (by omega), with_it _ _ _ _ (h k (by omega))]
theorem br_may {b : Bk} (hg : Good b) (hf : b.fin = 3) : mayB (brI b) false = true := by
  rcases fits_ways hg.fit with ⟨e, -⟩ | ⟨e, -⟩ | ⟨e, h0, h1⟩ | ⟨e, -⟩
  all_goals first | (exact may_br _ h0 h1) | (exfalso; omega)
theorem tr_it {b : Bk} (hg : Good b) (first : Int) (x0 : 0 ≤ first) (x1 : first ≤ 65534) : trC b first = itC (trI b first) := by
  have n1 := hg.n1
  have n2 := hg.n2
  unfold trC trI
  rw [body_it hg.may _ (by split <;> omega)]
  generalize bodyI b (if b.fin = 1 then b.n else b.n - 1) = l
  unfold endC endI
  by_cases f1 : b.fin = 1
  · rw [if_pos f1, if_pos f1, out_it _ _ _ _ (by omega) (by omega) x0 (by omega)]
  rw [if_neg f1, if_neg f1]
  by_cases f2 : b.fin = 2
  · rw [if_pos f2, if_pos f2]
    by_cases o : (lastX b).op = 72
    · rw [if_pos o, if_pos o, with_it l (ldiI b) (lastY b) _ (may_ldi _), out_it _ _ _ _ (by omega) (by omega) x0 (by omega)]
    · rw [if_neg o, if_neg o, out_it _ _ _ _ (by omega) (by omega) x0 (by omega)]
  rw [if_neg f2, if_neg f2]
  by_cases f3 : b.fin = 3
  · rw [if_pos f3, if_pos f3, with_it _ _ _ _ (br_may hg f3), out_it _ _ _ _ (by omega) (by omega) x0 (by omega), out_it _ _ _ _ (by omega) (by omega) (by omega) (by omega)]
  · rw [if_neg f3, if_neg f3, out_it _ _ _ _ (by omega) (by omega) x0 (by omega)]
/-- What is decoded where an instruction's bytes stand. -/
theorem encL_len (i : In) (h : Bool) (hm : mayB i h = true) : ((encL i h).length : Int) = (formL i.op h).n := by
  have hi : ∀ k, (immL i.imm k).length = k := fun k => by induction k with
    | zero => rfl
    | succ k ih => simp [immL, ih]
  obtain ⟨hfm, -, hfa, -, hz, hn⟩ := fm_facts i.op h
  simp only [mayB, Bool.and_eq_true, decide_eq_true_eq] at hm
  have h1 := hm.1.1.1
  have hne : formL i.op h ≠ fm0 := fun e => by rw [e] at h1; simp [fm0] at h1
  rw [if_neg hne] at hn
  unfold encL headL
  rw [List.length_append, hi]
  rcases hfa with e | e
  · rw [if_neg (by omega)]; simp; omega
  · rw [if_pos e]; simp; omega
theorem immL_len (n : Int) (m : Nat) : (immL n m).length = m := by
  induction m with
  | zero => rfl
  | succ k ih => simp [immL, ih]
theorem immL_get (n : Int) : ∀ (m k : Nat), k < m → (immL n m)[k]? = some (n / 256 ^ k % 256)
  | 0, k, h => by omega
  | m + 1, k, h => by
    simp only [immL]
    rcases Nat.lt_or_ge k m with h1 | h1
    · rw [List.getElem?_append_left (by rw [immL_len]; exact h1)]
      exact immL_get n m k h1
    · obtain rfl : m = k := by omega
      rw [List.getElem?_append_right (by rw [immL_len]; exact Nat.le_refl _), immL_len]
      simp
theorem num_imm (f : Fm) (n : Int) (X : Nat → Int) (o : Nat) (hm : f.m = 0 ∨ f.m = 1 ∨ f.m = 2 ∨ f.m = 4) (hs : f.s = 0 ∨ f.s = 1) (h4 : f.m = 4 → f.s = 1) (n0 : -2147483648 ≤ n) (n1 : n ≤ 2147483647) (hX : ∀ k, k < f.m.toNat → X (o + k) = n / 256 ^ k % 256) (hf : fitsB f n = true) :
    numL f (leN X o f.m.toNat) = n := by
  obtain ⟨fn, fa, fb, fm, fs⟩ := f
  simp only at *
  rcases hm with rfl | rfl | rfl | rfl
  · simp [leN, numL, fitsB] at *
    omega
  · have h0 := hX 0 (by simp)
    simp only [Nat.add_zero] at h0
    rcases hs with rfl | rfl <;> simp [leN, numL, fitsB, h0] at hf ⊢ <;> (try split) <;> omega
  · have h0 := hX 0 (by simp)
    have h1 := hX 1 (by simp)
    simp only [Nat.add_zero] at h0
    rcases hs with rfl | rfl <;> simp [leN, numL, fitsB, h0, h1] at hf ⊢ <;> (try split) <;> omega
  · have h0 := hX 0 (by simp)
    have h1 := hX 1 (by simp)
    have h2 := hX 2 (by simp)
    have h3 := hX 3 (by simp)
    simp only [Nat.add_zero] at h0
    obtain rfl := h4 rfl
    simp [leN, numL, h0, h1, h2, h3]
    split <;> omega
theorem fm_more (op : Int) (h : Bool) : ((formL op h).m = 4 → (formL op h).s = 1) ∧ ((formL op h).b = 1 → (formL op h).a = 1) := by
  have h9 := cls_le op h
  unfold formL
  generalize clsOf op h = c at h9
  obtain h | h | h | h | h | h | h | h | h | h : c = 0 ∨ c = 1 ∨ c = 2 ∨ c = 3 ∨ c = 4 ∨ c = 5 ∨ c = 6 ∨ c = 7 ∨ c = 8 ∨ c = 9 := by omega
  all_goals subst h; simp [fmOf, fm0]
theorem dec_enc (i : In) (hi : i.Ok) (hm : mayB i true = true) (X : Nat → Int) (l : Nat) (hX : ∀ j, j < (encL i true).length → (encL i true)[j]? = some (X j)) (hl : (encL i true).length ≤ l) :
    decL X l true = (i, ((encL i true).length : Int), 0) := by
  have hlen := encL_len i true hm
  obtain ⟨hfm, hfs, hfa, hfb, -, -⟩ := fm_facts i.op true
  have hm0 := hm
  simp only [mayB, Bool.and_eq_true, decide_eq_true_eq] at hm0
  obtain ⟨⟨⟨hn1, ha7⟩, hb7⟩, hft⟩ := hm0
  have hop : X 0 = i.op := by
    have := hX 0 (by omega)
    simpa [encL, headL] using this.symm
  have hins : insOf X (formL i.op true) = i := by
    obtain ⟨hm4, hba⟩ := fm_more i.op true
    have hnum : numL (formL i.op true) (leN X (1 + (formL i.op true).a.toNat) (formL i.op true).m.toNat) = i.imm := by
      refine num_imm _ _ _ _ hfm hfs hm4 hi.n0 hi.n1 (fun k hk => ?_) hft
      have hh : (headL i (formL i.op true)).length = 1 + (formL i.op true).a.toNat := by
        unfold headL
        rcases hfa with e | e
        · rw [if_neg (by omega), e]; rfl
        · rw [if_pos e, e]; rfl
      have hk2 : 1 + (formL i.op true).a.toNat + k < (encL i true).length := by
        unfold encL
        rw [List.length_append, hh, immL_len]
        omega
      have := hX _ hk2
      unfold encL at this
      rw [List.getElem?_append_right (by omega), hh, show 1 + (formL i.op true).a.toNat + k - (1 + (formL i.op true).a.toNat) = k by omega, immL_get _ _ _ hk] at this
      simpa using this.symm
    unfold insOf
    rw [hnum, hop]
    rcases hfa with e | e
    · rw [if_neg (by omega), if_neg (by omega)]
      have hb0 : (formL i.op true).b = 0 := by
        rcases hfb with h | h
        · exact h
        · have := hba h; omega
      have h1 : i.a = 0 := by have := hi.a0; rw [e] at ha7; omega
      have h2 : i.b = 0 := by have := hi.b0; rw [hb0] at hb7; omega
      obtain ⟨op, a, b, imm⟩ := i
      simp only at h1 h2
      subst h1 h2
      rfl
    · have hx1 : X 1 = i.a * 16 + i.b := by
        have h2 : 1 < (encL i true).length := by
          unfold encL headL
          rw [if_pos e]
          simp
        have := hX 1 h2
        unfold encL headL at this
        rw [if_pos e] at this
        simpa using this.symm
      rw [if_pos e, if_pos e, hx1]
      have a0 := hi.a0
      have b0 := hi.b0
      have hb8 : i.b ≤ 7 := by rcases hfb with h | h <;> rw [h] at hb7 <;> omega
      have q1 : (i.a * 16 + i.b) / 16 = i.a := by omega
      have q2 : (i.a * 16 + i.b) % 16 = i.b := by omega
      rw [q1, q2]
  unfold decL
  rw [hop, if_neg (by omega), if_neg (by omega), if_neg (by omega), hins, if_pos hm, hlen]
/-- The bytes are bytes. -/
theorem enc_bytes (i : In) (hi : i.Ok) (hm : mayB i true = true) : ∀ y ∈ encL i true, 0 ≤ y ∧ y < 256 := by
  obtain ⟨-, -, hfa, hfb, -, -⟩ := fm_facts i.op true
  simp only [mayB, Bool.and_eq_true, decide_eq_true_eq] at hm
  obtain ⟨⟨⟨-, ha7⟩, hb7⟩, -⟩ := hm
  have a0 := hi.a0
  have b0 := hi.b0
  have o0 := hi.o0
  have o1 := hi.o1
  have him : ∀ m, ∀ y ∈ immL i.imm m, 0 ≤ y ∧ y < 256 := by
    intro m
    induction m with
    | zero => intro y hy; simp [immL] at hy
    | succ m ih =>
      intro y hy
      simp only [immL, List.mem_append, List.mem_singleton] at hy
      rcases hy with hy | rfl
      · exact ih y hy
      · exact ⟨Int.emod_nonneg _ (by omega), Int.emod_lt_of_pos _ (by omega)⟩
  intro y hy
  unfold encL headL at hy
  simp only [List.cons_append, List.mem_cons, List.mem_append] at hy
  rcases hy with rfl | hy | hy
  · exact ⟨o0, o1⟩
  · split at hy
    · simp only [List.mem_singleton] at hy
      subst hy
      rcases hfa with e | e <;> rcases hfb with e2 | e2 <;> rw [e] at ha7 <;> rw [e2] at hb7 <;> omega
    · simp at hy
  · exact him _ y hy
theorem itB_bytes {l : List It} (hl : ∀ x ∈ l, x.Good) : ∀ y ∈ itB l, 0 ≤ y ∧ y < 256 := by
  intro y hy
  simp only [itB, List.mem_flatMap] at hy
  obtain ⟨x, hx, hy⟩ := hy
  exact enc_bytes x.i (hl x hx).ok (hl x hx).may y hy
theorem split_at {l : List It} {k : Nat} {x : It} (hx : l[k]? = some x) : l = l.take k ++ x :: l.drop (k + 1) := by
  have hk : k < l.length := by
    rcases Nat.lt_or_ge k l.length with h | h
    · exact h
    · simp [List.getElem?_eq_none h] at hx
  have he : l[k] = x := by rw [List.getElem?_eq_getElem hk] at hx; exact Option.some.inj hx
  have ht := List.take_append_drop k l
  rw [List.drop_eq_getElem_cons hk, he] at ht
  exact ht.symm
theorem take_next {l : List It} {k : Nat} {x : It} (hx : l[k]? = some x) : (itB (l.take (k + 1))).length = (itB (l.take k)).length + (encL x.i true).length := by
  have hk : k < l.length := by
    rcases Nat.lt_or_ge k l.length with h | h
    · exact h
    · simp [List.getElem?_eq_none h] at hx
  have he : l[k] = x := by rw [List.getElem?_eq_getElem hk] at hx; exact Option.some.inj hx
  rw [List.take_succ_eq_append_getElem hk, itB_append, List.length_append, he]
  simp [itB]
/-- What is decoded at an instruction's place. -/
theorem dec_at {l : List It} (hl : ∀ x ∈ l, x.Good) {k : Nat} {x : It} (hx : l[k]? = some x) :
    decL (fun j => (itB l).getD ((itB (l.take k)).length + j) 0) ((itB l).length - (itB (l.take k)).length) true = (x.i, ((encL x.i true).length : Int), 0) ∧ (itB (l.take k)).length + (encL x.i true).length ≤ (itB l).length := by
  have hs := split_at hx
  have hg := hl x (by rw [hs]; simp)
  have hB : itB l = itB (l.take k) ++ (encL x.i true ++ itB (l.drop (k + 1))) := by
    conv => lhs; rw [hs]
    rw [itB_append, itB_cons]
  have hlen : (itB (l.take k)).length + (encL x.i true).length ≤ (itB l).length := by
    rw [hB]; simp only [List.length_append]; omega
  refine ⟨dec_enc x.i hg.ok hg.may _ _ (fun j hj => ?_) (by omega), hlen⟩
  rw [hB, List.getD_eq_getElem?_getD, List.getElem?_append_right (by omega), show (itB (l.take k)).length + j - (itB (l.take k)).length = j by omega, List.getElem?_append_left hj, List.getElem?_eq_getElem hj]
  rfl
theorem itR_get : ∀ (l : List It) (o : Int) (k : Nat) (x : It), l[k]? = some x → (itR o l)[k]? = some ⟨o + (itB (l.take k)).length, x.pc, x.dn, x.ex⟩
  | [], _, _, _, h => by simp at h
  | a :: l, o, 0, x, h => by
    simp at h
    subst h
    simp [itR, itB]
  | a :: l, o, k + 1, x, h => by
    have ih := itR_get l (o + (encL a.i true).length) k x (by simpa using h)
    simp only [itR, List.getElem?_cons_succ, ih, List.take_succ_cons, itB_cons, List.length_append, Int.natCast_add]
    rw [Int.add_assoc]
theorem itR_len : ∀ (l : List It) (o : Int), (itR o l).length = l.length
  | [], _ => rfl
  | a :: l, o => by simp [itR, itR_len l]
/-- The rest of the bytes, as they can be read. -/
theorem bytes_at {w : World} {B : Nat} {v : Value} {xs : List Int} (h : RowB w B v xs) (hb : ∀ y ∈ xs, 0 ≤ y ∧ y < 256) (at_ : Nat) (ha : at_ < xs.length) :
    ∃ g c, v = .slice (some ⟨g, 0, none⟩) xs.length c ∧ xs.length ≤ c ∧ c ≤ maxLen ∧ BySl w (some ⟨g, at_, none⟩) (xs.length - at_) (fun j => xs.getD (at_ + j) 0) := by
  obtain ⟨hl, hh⟩ := h
  rcases hh with ⟨-, h0⟩ | ⟨g, cap, cur, rfl, hg, hblk, hc, hc2, r⟩
  · omega
  · refine ⟨g, cap, rfl, hc, hc2, .inr ⟨g, at_, rfl, lt_of_block hblk, fun j hj => ?_⟩⟩
    have hj2 : at_ + j < xs.length := by omega
    have hcell := World.ownsRow.cellAt (w := w) (base := g) (e := 5) (size := 1) (g := g) (cap := cap) (n := xs.length) (xs := xs.map (Value.int .u8)) ⟨hl, .inr ⟨g, cap, cur, rfl, Nat.le_refl _, hblk, hc, hc2, r⟩⟩ (at_ + j) (by omega)
    rw [hcell]
    have hm : xs.getD (at_ + j) 0 ∈ xs := by
      rw [List.getD_eq_getElem?_getD, List.getElem?_eq_getElem hj2]
      exact List.getElem_mem _
    refine ⟨(hb _ hm).1, (hb _ hm).2, ?_⟩
    show _ = some (Value.int .u8 (xs.getD (at_ + j) 0))
    rw [List.getElem?_map, List.getD_eq_getElem?_getD, List.getElem?_eq_getElem hj2]
    rfl
theorem good_with {l : List It} (hl : ∀ x ∈ l, x.Good) (i : In) (pc dn : Int) (hi : i.Ok) (hm : mayB i false = true) : ∀ x ∈ withI l i pc dn, x.Good := by
  intro x hx
  simp only [withI, List.mem_append, List.mem_singleton] at hx
  rcases hx with hx | rfl
  · exact hl x hx
  · obtain ⟨-, h2, -, h4⟩ := enc_tf hm
    exact ⟨hi, h2, .inr ⟨h4, rfl⟩⟩
theorem good_out {l : List It} (hl : ∀ x ∈ l, x.Good) (dn to nx : Int) (n0 : 0 ≤ dn) (n1 : dn ≤ 255) (x0 : 0 ≤ nx) (x1 : nx ≤ 65535) : ∀ x ∈ outI l dn to nx, x.Good := by
  intro x hx
  simp only [outI, List.mem_append, List.mem_cons, List.not_mem_nil, or_false] at hx
  rcases hx with hx | rfl | rfl
  · exact hl x hx
  · exact ⟨⟨by simp, by simp, by simp, by simp, by simp, by simp, by simp; omega, by simp; omega⟩, may_112 dn n0 n1, .inr ⟨by simp, rfl⟩⟩
  · exact ⟨⟨by simp, by simp, by simp, by simp, by simp, by simp, by simp; omega, by simp; omega⟩, may_113 nx x0 x1, .inl ⟨rfl, rfl, x0⟩⟩
theorem good_body {b : Bk} (hm : ∀ k, k < b.n → mayB (b.X k) false = true) (hx : ∀ k, k < b.n → (b.X k).Ok) : ∀ k, k ≤ b.n → ∀ x ∈ bodyI b k, x.Good
  | 0, _ => by intro x hx; simp [bodyI] at hx
  | k + 1, hk => good_with (good_body hm hx k (by omega)) _ _ _ (hx k (by omega)) (hm k (by omega))
theorem trI_good {b : Bk} (hg : Good b) (hx : ∀ k, k < b.n → (b.X k).Ok) (h0 : 0 ≤ b.next) (h1 : b.next < 4294967296) (first : Int) (x0 : 0 ≤ first) (x1 : first ≤ 65534) : ∀ x ∈ trI b first, x.Good := by
  have n1 := hg.n1
  have n2 := hg.n2
  have hbd := good_body hg.may hx (if b.fin = 1 then b.n else b.n - 1) (by split <;> omega)
  unfold trI
  generalize bodyI b (if b.fin = 1 then b.n else b.n - 1) = l at *
  unfold endI
  by_cases f1 : b.fin = 1
  · rw [if_pos f1]
    exact good_out hbd _ _ _ (by omega) (by omega) x0 (by omega)
  rw [if_neg f1]
  by_cases f2 : b.fin = 2
  · rw [if_pos f2]
    refine good_out ?_ _ _ _ (by omega) (by omega) x0 (by omega)
    split
    · exact good_with hbd (ldiI b) _ _ ⟨by simp [ldiI], by simp [ldiI], by simp [ldiI], by simp [ldiI], by simp [ldiI], by simp [ldiI], (s32_bd b.next h0 h1).1, (s32_bd b.next h0 h1).2⟩ (may_ldi _)
    · exact hbd
  rw [if_neg f2]
  by_cases f3 : b.fin = 3
  · rw [if_pos f3]
    have hlx := hx (b.n - 1) (by omega)
    exact good_out (good_out (good_with hbd (brI b) _ _ ⟨hlx.o0, hlx.o1, by simp [brI], by simp [brI], by simp [brI], by simp [brI], by simp [brI], by simp [brI]⟩ (br_may hg f3)) _ _ _ (by omega) (by omega) x0 (by omega)) _ _ _ (by omega) (by omega) (by omega) (by omega)
  · rw [if_neg f3]
    exact good_out hbd _ _ _ (by omega) (by omega) x0 (by omega)
end Go.Proofs.YtomphgpplbekiaaGreat
namespace Go.Proofs.YtomphgpplbekiaaGreat
open Go.RowKit

def cnt (l : List It) : Nat := (l.filter fun x => decide (0 ≤ x.ex)).length
theorem cnt_append (l m : List It) : cnt (l ++ m) = cnt l + cnt m := by simp [cnt]
def PC (first : Int) (l : List It) : Prop := ∀ k y, l[k]? = some y → 0 ≤ y.ex → ∃ j x, k = j + 1 ∧ l[j]? = some x ∧ x.i.op = 112 ∧ x.i.imm = x.dn ∧ x.pc = y.pc ∧ y.ex = first + cnt (l.take k)
theorem get_lt {α : Type} {l : List α} {k : Nat} {x : α} (h : l[k]? = some x) : k < l.length := by
  rcases Nat.lt_or_ge k l.length with h1 | h1
  · exact h1
  · simp [List.getElem?_eq_none h1] at h
theorem PC.with_ {first : Int} {l : List It} (h : PC first l) (i : In) (pc dn : Int) : PC first (withI l i pc dn) := by
  intro k y hk hy
  have hlt := get_lt hk
  simp only [withI, List.length_append, List.length_cons, List.length_nil] at hlt
  unfold withI at hk ⊢
  rcases Nat.lt_or_ge k l.length with h1 | h1
  · rw [List.getElem?_append_left h1] at hk
    obtain ⟨j, x, rfl, hj, r1, r2, r3, r4⟩ := h k y hk hy
    exact ⟨j, x, rfl, by rw [List.getElem?_append_left (by omega)]; exact hj, r1, r2, r3, by rw [List.take_append_of_le_length (by omega)]; exact r4⟩
  · obtain rfl : k = l.length := by omega
    simp at hk
    subst hk
    simp at hy
theorem PC.out_ {first : Int} {l : List It} (h : PC first l) (dn to nx : Int) (hn : nx = first + cnt l) : PC first (outI l dn to nx) := by
  intro k y hk hy
  have hlt := get_lt hk
  simp only [outI, List.length_append, List.length_cons, List.length_nil] at hlt
  unfold outI at hk ⊢
  rcases Nat.lt_or_ge k l.length with h1 | h1
  · rw [List.getElem?_append_left h1] at hk
    obtain ⟨j, x, rfl, hj, r1, r2, r3, r4⟩ := h k y hk hy
    exact ⟨j, x, rfl, by rw [List.getElem?_append_left (by omega)]; exact hj, r1, r2, r3, by rw [List.take_append_of_le_length (by omega)]; exact r4⟩
  · rw [List.getElem?_append_right h1] at hk
    rcases (show k = l.length ∨ k = l.length + 1 by omega) with rfl | rfl
    · simp at hk
      subst hk
      simp at hy
    · simp at hk
      subst hk
      refine ⟨l.length, ⟨⟨112, 0, 0, dn⟩, to, dn, -1⟩, rfl, by simp, rfl, rfl, rfl, ?_⟩
      rw [List.take_append, List.take_of_length_le (by omega), cnt_append, show l.length + 1 - l.length = 1 by omega]
      simp [cnt] at hn ⊢
      exact hn
theorem cnt_with (l : List It) (i : In) (pc dn : Int) : cnt (withI l i pc dn) = cnt l := by simp [withI, cnt]
theorem cnt_out (l : List It) (dn to nx : Int) (h : 0 ≤ nx) : cnt (outI l dn to nx) = cnt l + 1 := by simp [outI, cnt, h]
theorem body_cnt (b : Bk) (first : Int) : ∀ k, cnt (bodyI b k) = 0 ∧ PC first (bodyI b k)
  | 0 => ⟨rfl, fun k y h => by simp [bodyI] at h⟩
  | k + 1 => by
    obtain ⟨h1, h2⟩ := body_cnt b first k
    exact ⟨by simp only [bodyI]; rw [cnt_with, h1], h2.with_ _ _ _⟩
theorem trI_counts (b : Bk) (first : Int) (x0 : 0 ≤ first) : PC first (trI b first) ∧ cnt (trI b first) = if b.fin = 3 then 2 else 1 := by
  unfold trI
  obtain ⟨h1, h2⟩ := body_cnt b first (if b.fin = 1 then b.n else b.n - 1)
  generalize bodyI b (if b.fin = 1 then b.n else b.n - 1) = l at *
  unfold endI
  by_cases f1 : b.fin = 1
  · rw [if_pos f1, if_neg (show ¬ b.fin = 3 by omega)]
    exact ⟨h2.out_ _ _ _ (by rw [h1]; simp), by rw [cnt_out _ _ _ _ x0, h1]⟩
  rw [if_neg f1]
  by_cases f2 : b.fin = 2
  · rw [if_pos f2, if_neg (show ¬ b.fin = 3 by omega)]
    by_cases o : (lastX b).op = 72
    · rw [if_pos o]
      exact ⟨(h2.with_ _ _ _).out_ _ _ _ (by rw [cnt_with, h1]; simp), by rw [cnt_out _ _ _ _ x0, cnt_with, h1]⟩
    · rw [if_neg o]
      exact ⟨h2.out_ _ _ _ (by rw [h1]; simp), by rw [cnt_out _ _ _ _ x0, h1]⟩
  rw [if_neg f2]
  by_cases f3 : b.fin = 3
  · rw [if_pos f3, if_pos f3]
    exact ⟨((h2.with_ _ _ _).out_ _ _ _ (by rw [cnt_with, h1]; simp)).out_ _ _ _ (by rw [cnt_out _ _ _ _ x0, cnt_with, h1]; simp), by rw [cnt_out _ _ _ _ (by omega), cnt_out _ _ _ _ x0, cnt_with, h1]⟩
  · rw [if_neg f3, if_neg f3]
    exact ⟨h2.out_ _ _ _ (by rw [h1]; simp), by rw [cnt_out _ _ _ _ x0, h1]⟩
theorem cnt_take {l : List It} {k : Nat} {y : It} (h : l[k]? = some y) : cnt (l.take (k + 1)) = cnt (l.take k) + if 0 ≤ y.ex then 1 else 0 := by
  have hk := get_lt h
  have he : l[k] = y := by rw [List.getElem?_eq_getElem hk] at h; exact Option.some.inj h
  rw [List.take_succ_eq_append_getElem hk, cnt_append, he]
  by_cases hy : 0 ≤ y.ex <;> simp [cnt, hy]
/-- Which instructions stand in a block's code. -/
def Safe (b : Bk) (x : It) : Prop := ¬ (1 ≤ x.i.op ∧ x.i.op ≤ 3) ∧ ¬ (72 ≤ x.i.op ∧ x.i.op < 112) ∧ x.i.op ≠ 64 ∧ (65 ≤ x.i.op ∧ x.i.op ≤ 71 → b.fin = 3 ∧ x.i.imm = 5)
theorem plain_all : ∀ n : Fin 256, ending3 (n.val : Int) = false → formL (n.val : Int) false ≠ fm0 → (n.val = 0 ∨ (16 ≤ n.val ∧ n.val ≤ 58)) := by decide +kernel
theorem plain_op {i : In} (hi : i.Ok) (hm : mayB i false = true) (he : ending3 i.op = false) : i.op = 0 ∨ (16 ≤ i.op ∧ i.op ≤ 58) := by
  obtain ⟨n, hn⟩ := Int.eq_ofNat_of_zero_le hi.o0
  have o1 := hi.o1
  have hne : formL i.op false ≠ fm0 := by
    intro e
    rw [mayB, e] at hm
    simp [fm0] at hm
  rw [hn] at he hne o1
  have := plain_all ⟨n, by omega⟩ he hne
  simp only at this
  omega
theorem safe_with {b : Bk} {l : List It} (hl : ∀ x ∈ l, Safe b x) (i : In) (pc dn : Int) (h : Safe b ⟨i, pc, dn, -1⟩) : ∀ x ∈ withI l i pc dn, Safe b x := by
  intro x hx
  simp only [withI, List.mem_append, List.mem_singleton] at hx
  rcases hx with hx | rfl
  · exact hl x hx
  · exact h
theorem safe_out {b : Bk} {l : List It} (hl : ∀ x ∈ l, Safe b x) (dn to nx : Int) : ∀ x ∈ outI l dn to nx, Safe b x := by
  intro x hx
  simp only [outI, List.mem_append, List.mem_cons, List.not_mem_nil, or_false] at hx
  rcases hx with hx | rfl | rfl
  · exact hl x hx
  · refine ⟨?_, ?_, ?_, ?_⟩ <;> simp
  · refine ⟨?_, ?_, ?_, ?_⟩ <;> simp
theorem safe_body {b : Bk} (hx : ∀ k, k < b.n → (b.X k).Ok) (hm : ∀ k, k < b.n → mayB (b.X k) false = true) : ∀ k, k ≤ b.n → (∀ j, j < k → ending3 (b.X j).op = false) → ∀ x ∈ bodyI b k, Safe b x
  | 0, _, _ => by intro x h; simp [bodyI] at h
  | k + 1, hk, he => by
    refine safe_with (safe_body hx hm k (by omega) (fun j hj => he j (by omega))) _ _ _ ?_
    have := plain_op (hx k (by omega)) (hm k (by omega)) (he k (by omega))
    refine ⟨?_, ?_, ?_, ?_⟩ <;> simp only <;> omega
theorem trI_safe {b : Bk} (hg : Good b) (hx : ∀ k, k < b.n → (b.X k).Ok) (first : Int) : ∀ x ∈ trI b first, Safe b x := by
  have n1 := hg.n1
  have hend := (end_way hg)
  have hbd : ∀ x ∈ bodyI b (if b.fin = 1 then b.n else b.n - 1), Safe b x := by
    refine safe_body hx hg.may _ (by split <;> omega) (fun j hj => ?_)
    by_cases h1 : j + 1 < b.n
    · exact hg.go_on j h1
    · have hf : b.fin = 1 := by
        by_cases hf : b.fin = 1
        · exact hf
        · rw [if_neg hf] at hj; omega
      have hj2 : j = b.n - 1 := by rw [if_pos hf] at hj; omega
      rcases hend.1 with ⟨-, e⟩ | ⟨h, -⟩ | ⟨h, -⟩ | ⟨h, -, -⟩ | ⟨h⟩
      · rw [hj2]; exact e
      all_goals omega
  unfold trI
  generalize bodyI b (if b.fin = 1 then b.n else b.n - 1) = l at *
  unfold endI
  by_cases f1 : b.fin = 1
  · rw [if_pos f1]; exact safe_out hbd _ _ _
  rw [if_neg f1]
  by_cases f2 : b.fin = 2
  · rw [if_pos f2]
    refine safe_out ?_ _ _ _
    split
    · refine safe_with hbd _ _ _ ?_
      refine ⟨?_, ?_, ?_, ?_⟩ <;> simp [ldiI]
    · exact hbd
  rw [if_neg f2]
  by_cases f3 : b.fin = 3
  · rw [if_pos f3]
    refine safe_out (safe_out (safe_with hbd _ _ _ ?_) _ _ _) _ _ _
    rcases hend.1 with ⟨h, -⟩ | ⟨h, -⟩ | ⟨h, -⟩ | ⟨-, h0, h1⟩ | ⟨h⟩
    · omega
    · omega
    · omega
    · refine ⟨?_, ?_, ?_, ?_⟩ <;> simp only [brI]
      · omega
      · omega
      · omega
      · exact fun _ => ⟨f3, trivial⟩
    · omega
  · rw [if_neg f3]; exact safe_out hbd _ _ _
end Go.Proofs.YtomphgpplbekiaaGreat
