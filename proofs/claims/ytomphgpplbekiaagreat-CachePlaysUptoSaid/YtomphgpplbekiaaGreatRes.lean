/- Results that lie in a variable's cells. No program is named here. -/
import Derived.Test.YtomphgpplbekiaaGreatHeap
namespace Go.Proofs.YtomphgpplbekiaaGreat
open Go.RowKit
def isAggD : TypeDesc → Bool
  | .struct _ | .array _ _ => true
  | _ => false
theorem block_drew {w : World} {k : Nat} {x : Option Obj} (h : w.heap[k]? = x) : w.drew.heap[k]? = x := h
theorem block_drewN {w : World} {k n : Nat} {x : Option Obj} (h : w.heap[k]? = x) : (w.drewN n).heap[k]? = x := h
section
variable {P : Program} {w : World} {fn : Func} {tmps : Array Value}
theorem run_rescell {t : TypeId} {b : Nat} {A : Array Value} {ty : TypeId} {f : Nat × Nat} {d : TypeDesc} (hb : w.heap[b]? = some (.cells A ty f))
    (hu : P.underlying t = some d) (hd : isAggD d = true) (hi : (P.info? t).map (·.size) = some A.size) :
    (loadVar t ⟨b, 0, none⟩).run P w = .ok (.agg A) w := by
  cases d <;> simp [isAggD] at hd
  · exact run_loadVar_row w b ty t A f _ hb hu rfl hi
  · exact run_loadVar_row w b ty t A f _ hb hu rfl hi
theorem run_asAddr (a : Addr) : (asAddr (.pointer (some a))).run P w = .ok a w := rfl
theorem results_c {a : Tmp} {t : TypeId} {b : Nat} {A : Array Value} {ty : TypeId} {f : Nat × Nat} {d : TypeDesc} (h : fn.results = #[.cell a t]) (hp : tmps.getD a undef = .pointer (some ⟨b, 0, none⟩)) (hb : w.heap[b]? = some (.cells A ty f))
    (hu : P.underlying t = some d) (hd : isAggD d = true) (hi : (P.info? t).map (·.size) = some A.size) : (results fn tmps).run P w = .ok (.agg A) w := by
  have h1 := run_rescell (P := P) hb hu hd hi
  have hq : tmps[a]?.getD undef = .pointer (some ⟨b, 0, none⟩) := by simpa using hp
  simp [results, h, hq, run_asAddr, h1]
theorem results_cc {a a' : Tmp} {t t' : TypeId} {b b' : Nat} {A A' : Array Value} {ty ty' : TypeId} {f f' : Nat × Nat} {d d' : TypeDesc} (h : fn.results = #[.cell a t, .cell a' t'])
    (hp : tmps.getD a undef = .pointer (some ⟨b, 0, none⟩)) (hb : w.heap[b]? = some (.cells A ty f)) (hu : P.underlying t = some d) (hd : isAggD d = true) (hi : (P.info? t).map (·.size) = some A.size)
    (hp' : tmps.getD a' undef = .pointer (some ⟨b', 0, none⟩)) (hb' : w.heap[b']? = some (.cells A' ty' f')) (hu' : P.underlying t' = some d') (hd' : isAggD d' = true) (hi' : (P.info? t').map (·.size) = some A'.size) :
    (results fn tmps).run P w = .ok (.tuple #[.agg A, .agg A']) w := by
  have h1 := run_rescell (P := P) hb hu hd hi
  have h2 := run_rescell (P := P) hb' hu' hd' hi'
  have hq : tmps[a]?.getD undef = .pointer (some ⟨b, 0, none⟩) := by simpa using hp
  have hq' : tmps[a']?.getD undef = .pointer (some ⟨b', 0, none⟩) := by simpa using hp'
  simp [results, h, hq, hq', run_asAddr, h1, h2]
theorem results_ct {a u : Tmp} {t : TypeId} {b : Nat} {A : Array Value} {ty : TypeId} {f : Nat × Nat} {d : TypeDesc} (h : fn.results = #[.cell a t, .tmp u]) (hp : tmps.getD a undef = .pointer (some ⟨b, 0, none⟩)) (hb : w.heap[b]? = some (.cells A ty f))
    (hu : P.underlying t = some d) (hd : isAggD d = true) (hi : (P.info? t).map (·.size) = some A.size) : (results fn tmps).run P w = .ok (.tuple #[.agg A, tmps.getD u undef]) w := by
  have h1 := run_rescell (P := P) hb hu hd hi
  have hq : tmps[a]?.getD undef = .pointer (some ⟨b, 0, none⟩) := by simpa using hp
  simp [results, h, hq, run_asAddr, h1]
theorem results_ctt {a u v : Tmp} {t : TypeId} {b : Nat} {A : Array Value} {ty : TypeId} {f : Nat × Nat} {d : TypeDesc} (h : fn.results = #[.cell a t, .tmp u, .tmp v]) (hp : tmps.getD a undef = .pointer (some ⟨b, 0, none⟩)) (hb : w.heap[b]? = some (.cells A ty f))
    (hu : P.underlying t = some d) (hd : isAggD d = true) (hi : (P.info? t).map (·.size) = some A.size) : (results fn tmps).run P w = .ok (.tuple #[.agg A, tmps.getD u undef, tmps.getD v undef]) w := by
  have h1 := run_rescell (P := P) hb hu hd hi
  have hq : tmps[a]?.getD undef = .pointer (some ⟨b, 0, none⟩) := by simpa using hp
  simp [results, h, hq, run_asAddr, h1]
end
end Go.Proofs.YtomphgpplbekiaaGreat
