import Derived.Test.YtpohncdabngifaaMarks
import Derived.Test.YtpohncdabngifaaOpen
namespace Go.Proofs.Ytpohncdabngifaa
open Go.ChangeShapes Go.WideShapes Go.ChangeAt Go.RowKit

theorem ints_open {H : Type} {enc : TypeId × Value → H} {w : World} {base fuel : Nat} {spare : Nat → Bool} {hd : Bool} {a : Option Addr} {len cap : Nat} {x : DataW H × List MemPlace}
    (h : DataW.trod enc Try.prog w base spare hd fuel 44 [.slice a len cap] = some x) : len ≤ cap ∧ cap ≤ maxLen ∧ ∃ l : List Int, l.length = len ∧ IntsAt w a l := by
  obtain ⟨h1, h2, l, h3, h4⟩ := rd_list (α := Int) (k := 1) Try.underlying44 (by kernel_rfl) (by omega) h
    (fun z c => c 0 = some (.int .i64 z) ∧ -9223372036854775808 ≤ z ∧ z ≤ 9223372036854775807) (fun n cs y hy hl => by
      obtain ⟨k0, f0, g0, g1⟩ := rd_i64 Try.underlying3 hy
      subst f0
      exact ⟨k0, rfl, g0, g1⟩)
  refine ⟨h1, h2, l, h3, fun i hi => ?_⟩
  obtain ⟨b, o, e1, e2, c, ⟨c0, c1, c2⟩, hc⟩ := h4 i hi
  exact ⟨b, o, e1, e2, by have := hc 0 (by omega); rw [c0] at this; simpa using this, c1, c2⟩
end Go.Proofs.Ytpohncdabngifaa
