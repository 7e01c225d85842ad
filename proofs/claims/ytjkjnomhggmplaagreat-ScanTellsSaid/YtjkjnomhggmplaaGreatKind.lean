/- Package kind: the table's map. -/
import Derived.Test.YtjkjnomhggmplaaGreatRows
import Derived.Test.YtjkjnomhggmplaaGreatHeap
import Derived.WalkKit
import Derived.WalkSpells
import Derived.WalkLawsBesides
import Derived.Deep.QuietTactic
import Derived.Maps.Own
import Derived.Maps.OwnSet
import Derived.Maps.Keyed
import Derived.Maps.Views
namespace Go.Proofs.YtjkjnomhggmplaaGreat
open Go.RowKit

abbrev Kn := Int × ByteArray
def knV (x : Kn) : Value := .agg #[.int .i64 x.1, .string x.2]
def knD (x : Kn) : DataW Unit := .agg [.lit (.int .i64 x.1), .lit (.string x.2.data.toList)]
def KnR (v : Value) : Option (DataW Unit × List MemPlace) :=
  match v with
  | .agg cs => (match cs.toList with
    | [.int .i64 a, .string s] => some (knD (a, s), [])
    | _ => none)
  | _ => none
theorem knR_mk (x : Kn) : KnR (knV x) = some (knD x, []) := rfl
theorem knR_inv {v : Value} {x : Kn} {ps : List MemPlace} (h : KnR v = some (knD x, ps)) : v = knV x := by
  cases v <;> simp only [KnR] at h <;> try (cases h; done)
  rename_i cs
  split at h
  · rename_i a s hc
    obtain rfl : cs = #[.int .i64 a, .string s] := by rw [← Array.toArray_toList (xs := cs), hc]
    clear hc
    simp [knD] at h
    obtain ⟨⟨h1, h2⟩, -⟩ := h
    obtain ⟨x1, ⟨x2⟩⟩ := x
    obtain ⟨s⟩ := s
    simp only at h1 h2
    subst h1
    have : s = x2 := by cases s; cases x2; simpa using h2
    subst this
    rfl
  · cases h
/-- Block r is a map of at most n entries; at key k it answers M k. -/
def KMap (w : World) (r n : Nat) (M : Int → Kn) : Prop := ∃ D, w.ownsMap Tryz.prog 5 KnR r n D ∧ Maps.IsMap D ∧ ∀ k, 0 ≤ k → k < 256 → D.atKey (.int .u8 k) (knD (0, ⟨#[]⟩)) = knD (M k)
theorem key_law : Maps.Keyed Tryz.prog 5 := Maps.int_keyed Tryz.underlying5
theorem key_of (k : Int) (h0 : 0 ≤ k) (h1 : k < 256) : keyOf Tryz.prog 5 (.int .u8 k) = some (.int .u8 k) :=
  Maps.keyOf_int_mk Tryz.underlying5 (by simp [Lit.wf, IntKind.min, IntKind.max, IntKind.bits, IntKind.signed]; omega)
theorem zero_kn (w : World) : (zeroValue 138).run Tryz.prog w = .ok (knV (0, ⟨#[]⟩)) w := by kernel_rfl
theorem KMap.made (w : World) : KMap (w.alloc (.map #[] 0)) w.heap.size 0 (fun _ => (0, ⟨#[]⟩)) := ⟨_, World.ownsMap_made w _ _ _, Maps.isMap_empty, fun _ _ _ => rfl⟩
theorem KMap.look {w : World} {r n : Nat} {M : Int → Kn} (h : KMap w r n M) (k : Int) (h0 : 0 ≤ k) (h1 : k < 256) : (Instr.lookup 125 (.map (some r)) (.int .u8 k) false).run Tryz.prog w = .ok (knV (M k)) w := by
  obtain ⟨D, hD, -, hk⟩ := h
  obtain ⟨v, ps, hr, hv⟩ := hD.lookup key_law Tryz.underlying125 (zero_kn w) (knR_mk _) (key_of k h0 h1)
  rw [hk k h0 h1] at hv
  rw [hr, knR_inv hv]
theorem KMap.keeps {F : Nat → Prop} {w w' : World} {r n : Nat} {M : Int → Kn} (h : KMap w r n M) (hk : Keeps F w w') (hF : ¬ F r) : KMap w' r n M := by
  obtain ⟨D, ⟨es, clock, hb, r1⟩, r2⟩ := h
  exact ⟨D, ⟨es, clock, hk.get hb hF, r1⟩, r2⟩
def updK (M : Int → Kn) (k : Int) (x : Kn) : Int → Kn := fun j => if j = k then x else M j
theorem KMap.put {w : World} {r n : Nat} {M : Int → Kn} (h : KMap w r n M) (hn : n < 100000) (k : Int) (h0 : 0 ≤ k) (h1 : k < 256) (x : Kn) :
    ∃ w', (Instr.mapUpdate 125 (.map (some r)) (.int .u8 k) (knV x)).run Tryz.prog w = .ok () w' ∧ KMap w' r (n + 1) (updK M k x) ∧ Keeps (fun k => k = r) w w' := by
  obtain ⟨D, hD, hm, hk⟩ := h
  obtain ⟨w', hr, ho, hg⟩ := hD.update key_law Tryz.underlying125 (by simp only [maxLen]; omega) (key_of k h0 h1) (knR_mk x)
  refine ⟨w', hr, ⟨_, ho, hm.put _ _, fun j j0 j1 => ?_⟩, keeps_grown hg (fun k h => by simpa using h.symm)⟩
  unfold updK
  split
  · rename_i e
    subst e
    exact Maps.atKey_put_same hm (key_law.key (key_of j h0 h1)) _ _
  · rename_i e
    rw [Maps.atKey_put_other (fun h => e (by simpa using h)), hk j j0 j1]
theorem KMap.mono {w : World} {r n m : Nat} {M : Int → Kn} (h : KMap w r n M) (hn : n ≤ m) : KMap w r m M := by
  obtain ⟨D, hD, h2⟩ := h
  exact ⟨D, hD.mono hn, h2⟩
/-- One row of the table: these operations are of that kind. -/
def rowK (M : Int → Kn) (xs : List Int) (x : Kn) : Int → Kn := xs.foldl (fun M k => updK M k x) M

def FillRel (w : World) (r S n : Nat) (p tb : Addr) (M : Int → Kn) (xs : List Int) (x : Kn) (k : Nat) (wr : World) : Prop :=
  Keeps (fun k => k = r) w wr ∧ KMap wr r (n + k) (rowK M (xs.take k) x) ∧ wr.heap[w.heap.size]? = some (.cells #[.int .i64 x.1, .string x.2] 138 (0, 0)) ∧ wr.heap[S]? = some (.cells (xs.map (Value.int .u8)).toArray 5 (0, 0)) ∧
    wr.cell? p = some (.pointer (some tb)) ∧ wr.cell? ⟨tb.block, tb.off + 4, none⟩ = some (.map (some r))
end Go.Proofs.YtjkjnomhggmplaaGreat
