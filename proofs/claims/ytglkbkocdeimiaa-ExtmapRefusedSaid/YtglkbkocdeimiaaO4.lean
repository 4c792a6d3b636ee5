import Derived.Test.YtglkbkocdeimiaaSp
import Derived.Test.YtglkbkocdeimiaaO2
namespace Go.Proofs.Ytglkbkocdeimiaa
open Go.ChangeShapes Go.WideShapes Go.ChangeAt Go.RowKit
section
variable {H : Type} {enc : TypeId × Value → H} {w : World} {base : Nat} {spare : Nat → Bool} {hd : Bool}
set_option maxRecDepth 100000 in
theorem tx_open {r : Reach} {b0 : Nat} {v : Value} {d : DataW H} {p : List MemPlace} (hv : Value.okWide Try.prog w r b0 32 v) (h : DataW.Trod enc Try.prog w base spare hd 32 v d p) :
    ∃ x : TxV, v = .agg #[.int .i64 x.time, .slice x.a x.l.length x.c] ∧ TxOk w x := by
  obtain ⟨cs, rfl, hsz⟩ := okWide_struct Try.underlying32 hv
  obtain ⟨fuel, hf⟩ := h
  have hc : Try.prog.cellsOf 32 = 2 := by kernel_rfl
  rw [hc] at hsz
  obtain ⟨l⟩ := cs
  match l, hsz with
  | [c0, c1], _ =>
    rw [show (Value.agg #[c0, c1]).cells.toList = [c0, c1] from rfl] at hf
    obtain ⟨y0, y1, m, _, _, e0, e1⟩ := trod_struct2 Try.underlying32 hf
    obtain ⟨k0, f0, g0, g1⟩ := rd_i64 Try.underlying3 e0
    obtain ⟨sa, len, cap, f1⟩ := rd_slice Try.underlying30 e1
    rw [f1] at e1
    obtain ⟨s1, s2, ps, s3, s4⟩ := puts_open e1
    have q0 : ([c0, c1].drop 0).take 1 = [.int .i64 k0] := f0
    have q1 : ([c0, c1].drop 1).take 1 = [.slice sa len cap] := f1
    simp at q0 q1
    exact ⟨⟨k0, sa, cap, ps⟩, by rw [q0, q1]; simp [s3], ⟨g0, g1⟩, by show ps.length ≤ _; omega, s4⟩
end
end Go.Proofs.Ytglkbkocdeimiaa
