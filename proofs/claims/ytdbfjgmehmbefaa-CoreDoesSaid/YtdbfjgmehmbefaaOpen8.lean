/- States and instructions that came in. -/
import Derived.Test.YtdbfjgmehmbefaaEqS
import Derived.Test.YtdbfjgmehmbefaaIsaB
import Derived.Test.YtdbfjgmehmbefaaRead
namespace Go.Proofs.Ytdbfjgmehmbefaa
open Go.RowKit

set_option maxHeartbeats 2000000 in
set_option maxRecDepth 100000 in
theorem ints8 {w : World} {cs : List Value} (h : RdV Try.prog w 23 cs) : ∃ f : Nat → Int, cs = [.int .u32 (f 0), .int .u32 (f 1), .int .u32 (f 2), .int .u32 (f 3), .int .u32 (f 4), .int .u32 (f 5), .int .u32 (f 6), .int .u32 (f 7)] ∧ (∀ k, 0 ≤ f k) ∧ ∀ k, f k < 4294967296 := by
  obtain ⟨hl, hf⟩ := h.array Try.underlying23
  rw [show Try.prog.cellsOf 23 = 8 from by kernel_rfl] at hl
  have e22 : Try.prog.cellsOf 22 = 1 := by kernel_rfl
  match cs, hl with
  | [c0, c1, c2, c3, c4, c5, c6, c7], _ =>
  obtain ⟨a0, h0, l0, m0⟩ := (hf 0 (by omega)).int Try.underlying22
  obtain ⟨a1, h1, l1, m1⟩ := (hf 1 (by omega)).int Try.underlying22
  obtain ⟨a2, h2, l2, m2⟩ := (hf 2 (by omega)).int Try.underlying22
  obtain ⟨a3, h3, l3, m3⟩ := (hf 3 (by omega)).int Try.underlying22
  obtain ⟨a4, h4, l4, m4⟩ := (hf 4 (by omega)).int Try.underlying22
  obtain ⟨a5, h5, l5, m5⟩ := (hf 5 (by omega)).int Try.underlying22
  obtain ⟨a6, h6, l6, m6⟩ := (hf 6 (by omega)).int Try.underlying22
  obtain ⟨a7, h7, l7, m7⟩ := (hf 7 (by omega)).int Try.underlying22
  simp [e22] at h0 h1 h2 h3 h4 h5 h6 h7
  subst h0 h1 h2 h3 h4 h5 h6 h7
  simp [IntKind.min, IntKind.max, IntKind.signed, IntKind.bits] at l0 m0 l1 m1 l2 m2 l3 m3 l4 m4 l5 m5 l6 m6 l7 m7
  refine ⟨fun k => if k = 0 then a0 else if k = 1 then a1 else if k = 2 then a2 else if k = 3 then a3 else if k = 4 then a4 else if k = 5 then a5 else if k = 6 then a6 else if k = 7 then a7 else 0, by simp, fun k => ?_, fun k => ?_⟩
  · simp only []; repeat (split; assumption)
    omega
  · simp only []; repeat (split; omega)
    omega
set_option maxHeartbeats 2000000 in
set_option maxRecDepth 100000 in
theorem st_open {w : World} {s : Array Value} (h : RdV Try.prog w 25 s.toList) : ∃ t : St, s = stA t ∧ t.Ok := by
  obtain ⟨hl, hf⟩ := h.struct Try.underlying25
  rw [show Try.prog.cellsOf 25 = 19 from by kernel_rfl] at hl
  obtain ⟨s⟩ := s
  match s, hl with
  | [c0, c1, c2, c3, c4, c5, c6, c7, c8, c9, c10, c11, c12, c13, c14, c15, c16, c17, c18], _ =>
  have e22 : Try.prog.cellsOf 22 = 1 := by kernel_rfl
  have e8 : Try.prog.cellsOf 23 = 8 := by kernel_rfl
  have e4 : Try.prog.cellsOf 4 = 1 := by kernel_rfl
  simp [e8, e22, e4] at hf
  obtain ⟨h0, h1, h2, h3, h4⟩ := hf
  obtain ⟨R, hR, r0, r1⟩ := ints8 h0
  obtain ⟨C, hC, -, -⟩ := ints8 h3
  obtain ⟨p, hp, p0, p1⟩ := h1.int Try.underlying22
  obtain ⟨q, hq, q0, q1⟩ := h2.int Try.underlying22
  obtain ⟨b, hb⟩ := h4.bool Try.underlying4
  simp at hR hC hp hq hb
  obtain ⟨rfl, rfl, rfl, rfl, rfl, rfl, rfl, rfl⟩ := hR
  obtain ⟨rfl, rfl, rfl, rfl, rfl, rfl, rfl, rfl⟩ := hC
  subst hp hq hb
  simp [IntKind.min, IntKind.max, IntKind.signed, IntKind.bits] at p0 p1 q0 q1
  exact ⟨⟨R, p, q, C, b⟩, rfl, r0, r1, p0, by simp only; omega, q0, by simp only; omega⟩
set_option maxHeartbeats 2000000 in
set_option maxRecDepth 100000 in
theorem in_open {w : World} {s : Array Value} (h : RdV Try.prog w 27 s.toList) : ∃ i : In, s = inA i ∧ i.Ok := by
  obtain ⟨hl, hf⟩ := h.struct Try.underlying27
  rw [show Try.prog.cellsOf 27 = 4 from by kernel_rfl] at hl
  obtain ⟨s⟩ := s
  match s, hl with
  | [c0, c1, c2, c3], _ =>
  have e5 : Try.prog.cellsOf 5 = 1 := by kernel_rfl
  have e21 : Try.prog.cellsOf 21 = 1 := by kernel_rfl
  simp [e5, e21] at hf
  obtain ⟨h0, h1, h2, h3⟩ := hf
  obtain ⟨a, ha, a0, a1⟩ := h0.int Try.underlying5
  obtain ⟨b, hb, b0, b1⟩ := h1.int Try.underlying5
  obtain ⟨c, hc, c0, c1⟩ := h2.int Try.underlying5
  obtain ⟨d, hd, d0, d1⟩ := h3.int Try.underlying21
  simp at ha hb hc hd
  subst ha hb hc hd
  simp [IntKind.min, IntKind.max, IntKind.signed, IntKind.bits] at a0 a1 b0 b1 c0 c1 d0 d1
  exact ⟨⟨a, b, c, d⟩, rfl, a0, by simp only; omega, b0, by simp only; omega, c0, by simp only; omega, d0, by simp only; omega⟩
end Go.Proofs.Ytdbfjgmehmbefaa
