/- Package kind: the table's map. Package kind: the table's filling. -/
import Derived.Test.YtomphgpplbekiaaGreatRows
import Derived.Test.YtomphgpplbekiaaGreatHeap
import Derived.WalkKit
import Derived.WalkSpells
import Derived.WalkLawsBesides
import Derived.Deep.QuietTactic
import Derived.Maps.Own
import Derived.Maps.OwnSet
import Derived.Maps.Keyed
import Derived.Maps.Views
import Derived.StillTailTactics
import Derived.BigQuiet
namespace Go.Proofs.YtomphgpplbekiaaGreat
open Go.RowKit

abbrev Kn := Int × ByteArray
def knV (x : Kn) : Value := .agg #[.int .i64 x.1, .string x.2]
def knD (x : Kn) : DataW Unit := .agg [.lit (.int .i64 x.1), .lit (.string x.2.data.toList)]
def KnR (v : Value) : Option (DataW Unit × List MemPlace) :=
  match v with
  | .agg cs => (match cs.toList with
    | [.int .i64 a, .string s] => some (knD (a, s), [])
    | _ => none)
  | _ => none
theorem knR_mk (x : Kn) : KnR (knV x) = some (knD x, []) := rfl
theorem knR_inv {v : Value} {x : Kn} {ps : List MemPlace} (h : KnR v = some (knD x, ps)) : v = knV x := by
  cases v <;> simp only [KnR] at h <;> try (cases h; done)
  rename_i cs
  split at h
  · rename_i a s hc
    obtain rfl : cs = #[.int .i64 a, .string s] := by rw [← Array.toArray_toList (xs := cs), hc]
    clear hc
    simp [knD] at h
    obtain ⟨⟨h1, h2⟩, -⟩ := h
    obtain ⟨x1, ⟨x2⟩⟩ := x
    obtain ⟨s⟩ := s
    simp only at h1 h2
    subst h1
    have : s = x2 := by cases s; cases x2; simpa using h2
    subst this
    rfl
  · cases h
/-- Block r is a map of at most n entries; at key k it answers M k. -/
def KMap (w : World) (r n : Nat) (M : Int → Kn) : Prop := ∃ D, w.ownsMap Tryz.prog 5 KnR r n D ∧ Maps.IsMap D ∧ ∀ k, 0 ≤ k → k < 256 → D.atKey (.int .u8 k) (knD (0, ⟨#[]⟩)) = knD (M k)
theorem key_law : Maps.Keyed Tryz.prog 5 := Maps.int_keyed Tryz.underlying5
theorem key_of (k : Int) (h0 : 0 ≤ k) (h1 : k < 256) : keyOf Tryz.prog 5 (.int .u8 k) = some (.int .u8 k) :=
  Maps.keyOf_int_mk Tryz.underlying5 (by simp [Lit.wf, IntKind.min, IntKind.max, IntKind.bits, IntKind.signed]; omega)
theorem zero_kn (w : World) : (zeroValue 227).run Tryz.prog w = .ok (knV (0, ⟨#[]⟩)) w := by kernel_rfl
theorem KMap.made (w : World) : KMap (w.alloc (.map #[] 0)) w.heap.size 0 (fun _ => (0, ⟨#[]⟩)) := ⟨_, World.ownsMap_made w _ _ _, Maps.isMap_empty, fun _ _ _ => rfl⟩
theorem KMap.look {w : World} {r n : Nat} {M : Int → Kn} (h : KMap w r n M) (k : Int) (h0 : 0 ≤ k) (h1 : k < 256) : (Instr.lookup 223 (.map (some r)) (.int .u8 k) false).run Tryz.prog w = .ok (knV (M k)) w := by
  obtain ⟨D, hD, -, hk⟩ := h
  obtain ⟨v, ps, hr, hv⟩ := hD.lookup key_law Tryz.underlying223 (zero_kn w) (knR_mk _) (key_of k h0 h1)
  rw [hk k h0 h1] at hv
  rw [hr, knR_inv hv]
theorem KMap.keeps {F : Nat → Prop} {w w' : World} {r n : Nat} {M : Int → Kn} (h : KMap w r n M) (hk : Keeps F w w') (hF : ¬ F r) : KMap w' r n M := by
  obtain ⟨D, ⟨es, clock, hb, r1⟩, r2⟩ := h
  exact ⟨D, ⟨es, clock, hk.get hb hF, r1⟩, r2⟩
def updK (M : Int → Kn) (k : Int) (x : Kn) : Int → Kn := fun j => if j = k then x else M j
theorem KMap.put {w : World} {r n : Nat} {M : Int → Kn} (h : KMap w r n M) (hn : n < 100000) (k : Int) (h0 : 0 ≤ k) (h1 : k < 256) (x : Kn) :
    ∃ w', (Instr.mapUpdate 223 (.map (some r)) (.int .u8 k) (knV x)).run Tryz.prog w = .ok () w' ∧ KMap w' r (n + 1) (updK M k x) ∧ Keeps (fun k => k = r) w w' := by
  obtain ⟨D, hD, hm, hk⟩ := h
  obtain ⟨w', hr, ho, hg⟩ := hD.update key_law Tryz.underlying223 (by simp only [maxLen]; omega) (key_of k h0 h1) (knR_mk x)
  refine ⟨w', hr, ⟨_, ho, hm.put _ _, fun j j0 j1 => ?_⟩, keeps_grown hg (fun k h => by simpa using h.symm)⟩
  unfold updK
  split
  · rename_i e
    subst e
    exact Maps.atKey_put_same hm (key_law.key (key_of j h0 h1)) _ _
  · rename_i e
    rw [Maps.atKey_put_other (fun h => e (by simpa using h)), hk j j0 j1]
theorem KMap.mono {w : World} {r n m : Nat} {M : Int → Kn} (h : KMap w r n M) (hn : n ≤ m) : KMap w r m M := by
  obtain ⟨D, hD, h2⟩ := h
  exact ⟨D, hD.mono hn, h2⟩
/-- One row of the table: these operations are of that kind. -/
def rowK (M : Int → Kn) (xs : List Int) (x : Kn) : Int → Kn := xs.foldl (fun M k => updK M k x) M

def FillRel (w : World) (r S n : Nat) (p tb : Addr) (M : Int → Kn) (xs : List Int) (x : Kn) (k : Nat) (wr : World) : Prop :=
  Keeps (fun k => k = r) w wr ∧ KMap wr r (n + k) (rowK M (xs.take k) x) ∧ wr.heap[w.heap.size]? = some (.cells #[.int .i64 x.1, .string x.2] 227 (0, 0)) ∧ wr.heap[S]? = some (.cells (xs.map (Value.int .u8)).toArray 5 (0, 0)) ∧
    wr.cell? p = some (.pointer (some tb)) ∧ wr.cell? ⟨tb.block, tb.off + 4, none⟩ = some (.map (some r))
end Go.Proofs.YtomphgpplbekiaaGreat
namespace Go.Proofs.YtomphgpplbekiaaGreat
open Go.RowKit

theorem rowK_take (M : Int → Kn) (xs : List Int) (x : Kn) (k : Nat) (y : Int) (h : xs[k]? = some y) : rowK M (xs.take (k + 1)) x = updK (rowK M (xs.take k) x) y x := by
  unfold rowK
  rw [List.take_add_one, h, List.foldl_append]
  rfl
set_option maxHeartbeats 2000000 in
set_option maxRecDepth 100000 in
theorem fill1_any (w : World) (r S n l c : Nat) (p : Nat) (tb : Nat) (A : Array Value) (M : Int → Kn) (xs : List Int) (x : Kn) (hl : xs.length = l) (hn : n + l < 1000) (hb : ∀ y ∈ xs, 0 ≤ y ∧ y < 256)
    (hM : KMap w r n M) (hS : w.heap[S]? = some (.cells (xs.map (Value.int .u8)).toArray 5 (0, 0))) (hp : w.heap[p]? = some (.cells #[.pointer (some ⟨tb, 0, none⟩)] 183 (0, 0)))
    (ht : w.heap[tb]? = some (.cells A 225 (0, 0))) (hA : A[4]? = some (.map (some r))) (hrp : r ≠ p) (hrS : r ≠ S) (hrt : r ≠ tb) (hrw : r < w.heap.size) :
    Calls Tryz.prog 144 #[knV x, .slice (some ⟨S, 0, none⟩) l c, .pointer (some ⟨p, 0, none⟩)] w fun e w' => e = .returned (.tuple #[]) ∧ Keeps (fun k => k = r) w w' ∧ KMap w' r (n + l) (rowK M xs x) := by
  have hrel : FillRel w r S n ⟨p, 0, none⟩ ⟨tb, 0, none⟩ M xs x 0 (w.alloc (.cells #[.int .i64 x.1, .string x.2] 227)) :=
    ⟨(Keeps.refl _ _).alloc _, hM.keeps ((Keeps.refl (fun _ => False) _).alloc _) id, block_new _ _, block_old _ hS, by rw [cell_of (block_old _ hp)]; rfl, by rw [cell_of (block_old _ ht)]; simpa using hA⟩
  have HS := hidE  hrel
  clear hrel hM hS hp ht hA
  obtain ⟨x1, x2⟩ := x
  simp only [knV] at *
  subst hl
  go_enter Tryz.func144, Tryz.ntmps144
  go_wp2_with fail
  go_loopw [9] (fun t9 wr => ∃ k : Nat, t9 = .int .i64 k ∧ k ≤ xs.length ∧ FillRel w r S n ⟨p, 0, none⟩ ⟨tb, 0, none⟩ M xs (x1, x2) k wr) (fun t9 _ => (xs.length - intOf t9).toNat)
  case atStart => exact ⟨0, rfl, by omega, HS.out⟩
  case round =>
    obtain ⟨k, rfl, hk, hR⟩ := hrel
    have HR := hidE  hR
    obtain ⟨hK, hM, hx, hS, hp, ht⟩ := hR
    clear HS hK
    by_cases hlt : k < xs.length
    · obtain ⟨y, hy⟩ : ∃ y, xs[k]? = some y := ⟨_, List.getElem?_eq_getElem hlt⟩
      have hyb := hb y (List.mem_of_getElem? hy)
      have cS : wr.cell? ⟨S, k, none⟩ = some (.int .u8 y) := by rw [cell_of hS]; simp [hy]
      have cx := cell_of hx
      obtain ⟨w', hput, hM', hk'⟩ := KMap.put (w := wr.drew) (hM.keeps (Keeps.drew (Keeps.refl (fun _ => False) _)) id) (by omega) y hyb.1 hyb.2 (x1, x2)
      have hrl := lt_of_block hx
      have hnext : FillRel w r S n ⟨p, 0, none⟩ ⟨tb, 0, none⟩ M xs (x1, x2) (k + 1) w' := by
        obtain ⟨q1, -, q3, q4, q5, q6⟩ := HR.out
        have hk2 : Keeps (fun k => k = r) wr w' := ((Keeps.refl _ wr).drew).trans hk'
        refine ⟨q1.trans hk2, ?_, hk2.get q3 (by omega), hk2.get q4 (by omega), ?_, ?_⟩
        · rw [rowK_take _ _ _ _ _ hy]; exact hM'
        · rw [World.cell?_of_block (w := wr) (a := ⟨p, 0, none⟩) (hk2.block p (World.block_lt_of_cell? wr ⟨p, 0, none⟩ q5) (by omega))]; exact q5
        · rw [World.cell?_of_block (w := wr) (a := ⟨tb, 0 + 4, none⟩) (hk2.block tb (World.block_lt_of_cell? wr ⟨tb, 0 + 4, none⟩ q6) (by omega))]; exact q6
      have HN := hidE  hnext
      simp only [knV, Nat.zero_add] at *
      clear hnext hM' hk' hM hx hS hy HR
      go_wp2_with fail
      go_still_tail 6, (by kernel_rfl)
      change wpList _ _ _ _ _ wr.drew
      go_wp2
      go_roundw
      case rel => exact ⟨k + 1, by go_num, by omega, HN.out⟩
      case measure => simp [intOf]; omega
    · obtain rfl : k = xs.length := by omega
      clear hM hx hS
      go_wp2
      go_end0
      exact ⟨rfl, HR.out.1, by have h := HR.out.2.1; rwa [List.take_length] at h⟩
end Go.Proofs.YtomphgpplbekiaaGreat
