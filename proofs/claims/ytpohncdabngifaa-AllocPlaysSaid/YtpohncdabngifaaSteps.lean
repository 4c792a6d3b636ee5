import Derived.Test.YtpohncdabngifaaOnce
import Derived.Test.YtpohncdabngifaaOpen
namespace Go.Proofs.Ytpohncdabngifaa
open Go.ChangeShapes Go.WideShapes Go.ChangeAt Go.RowKit

theorem steps_open {H : Type} {enc : TypeId × Value → H} {w : World} {base fuel : Nat} {spare : Nat → Bool} {hd : Bool} {a : Option Addr} {len cap : Nat} {x : DataW H × List MemPlace}
    (h : DataW.trod enc Try.prog w base spare hd fuel 22 [.slice a len cap] = some x) : len ≤ cap ∧ cap ≤ maxLen ∧ ∃ l : List (Int × Int), l.length = len ∧ StepsAt w a l := by
  obtain ⟨h1, h2, l, h3, h4⟩ := rd_list (α := Int × Int) (k := 2) Try.underlying22 (by kernel_rfl) (by omega) h
    (fun z c => c 0 = some (.int .i64 z.1) ∧ c 1 = some (.int .i64 z.2) ∧ -9223372036854775808 ≤ z.2 ∧ z.2 ≤ 9223372036854775807) (fun n cs y hy hl => by
      obtain ⟨y0, y1, m, _, _, e0, e1⟩ := trod_struct2 Try.underlying30 hy
      obtain ⟨k0, f0, _⟩ := rd_i64 Try.underlying3 e0
      obtain ⟨k1, f1, g0, g1⟩ := rd_i64 Try.underlying3 e1
      match cs, hl with
      | [c0, c1], _ =>
        have q0 : ([c0, c1].drop 0).take 1 = [.int .i64 k0] := f0
        have q1 : ([c0, c1].drop 1).take 1 = [.int .i64 k1] := f1
        simp at q0 q1
        exact ⟨(k0, k1), by simp [q0], by simp [q1], g0, g1⟩)
  refine ⟨h1, h2, l, h3, fun i hi => ?_⟩
  obtain ⟨b, o, e1, e2, c, ⟨c0, c1, c2, c3⟩, hc⟩ := h4 i hi
  exact ⟨b, o, e1, e2, by rw [← Nat.add_zero (o + i * 2), hc 0 (by omega)]; exact c0, by rw [hc 1 (by omega)]; exact c1, c2, c3⟩
end Go.Proofs.Ytpohncdabngifaa
