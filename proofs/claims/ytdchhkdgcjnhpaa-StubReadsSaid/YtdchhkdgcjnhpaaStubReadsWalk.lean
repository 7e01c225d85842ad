/- The walk of the statement StubReads. -/
import Derived.Test.YtdchhkdgcjnhpaaStubC
import Derived.Test.YtdchhkdgcjnhpaaBytesOpen
namespace Go.Proofs.Ytdchhkdgcjnhpaa
open Go.RowKit

set_option maxHeartbeats 2000000 in
set_option maxRecDepth 100000 in
theorem stubReads_walk (w : World) (a0 : Option Addr) (l0 c0 : Nat) (h0 : RdV Try.prog w 22 [.slice a0 l0 c0]) :
    Calls Try.prog 5 #[.slice a0 l0 c0] w fun e w' => e = .returned (.bool true) ∧ Below w.heap.size w w' := by
  obtain ⟨X, hX, hlc, -⟩ := bytes_open h0
  clear h0
  have HX := hidE  hX
  clear hX
  have HR := fun w hX => hidE  (read_any a0 l0 c0 X w hlc hX)
  have HF := fun w hX => hidE  (ref_read a0 l0 c0 X w hX)
  generalize readL X l0 = r at *
  obtain ⟨r1, r2, r3⟩ := r
  simp only [readV] at HR HF
  go_enter Try.func5, Try.ntmps5
  go_wp2_with fail
  refine (HR _ HX.out).out.mono ?_
  rintro e w1 ⟨rfl, hk⟩
  go_wp2_with fail
  refine (HF _ (HX.out.keeps hk)).out.mono ?_
  rintro e w2 ⟨rfl, hk2⟩
  go_wp2_with fail
  refine (works_19 _).mono ?_
  rintro e w3 ⟨rfl, hk3⟩
  go_wp2
  go_ret
  exact ⟨rfl, same_below ((hk.trans hk2).trans hk3)⟩
end Go.Proofs.Ytdchhkdgcjnhpaa
