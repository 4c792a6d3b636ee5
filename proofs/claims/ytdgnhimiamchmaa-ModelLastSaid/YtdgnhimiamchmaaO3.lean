import Derived.Test.YtdgnhimiamchmaaLa
import Derived.Test.YtdgnhimiamchmaaO2
namespace Go.Proofs.Ytdgnhimiamchmaa
open Go.RowKit
open BigFrame
def zok (l : List Int) : Prop := ∀ x ∈ l, -9223372036854775808 ≤ x ∧ x ≤ 9223372036854775807
open Go.ChangeShapes Go.WideShapes Go.ChangeAt in
theorem ints_open {H : Type} {enc : TypeId × Value → H} {w : World} {base fuel : Nat} {spare : Nat → Bool} {hd : Bool} {a : Option Addr} {len cap : Nat} {x : DataW H × List MemPlace}
    (h : DataW.trod enc Try.prog w base spare hd fuel 44 [.slice a len cap] = some x) : len ≤ cap ∧ cap ≤ maxLen ∧ ∃ l : List Int, l.length = len ∧ (Rd zi w a l ∧ zok l) := by
  obtain ⟨h1, h2, l, h3, h4⟩ := rd_list (α := Int) (k := 1) Try.underlying44 (by kernel_rfl) (by omega) h
    (fun z c => c 0 = some (.int .i64 z) ∧ -9223372036854775808 ≤ z ∧ z ≤ 9223372036854775807) (fun n cs y hy hl => by
      obtain ⟨k0, f0, g0, g1⟩ := rd_i64 Try.underlying3 hy
      subst f0
      exact ⟨k0, rfl, g0, g1⟩)
  have hget : ∀ i x, l[i]? = some x → l.getD i default = x := fun i x hi => by rw [List.getD_eq_getElem?_getD, hi]; rfl
  refine ⟨h1, h2, l, h3, fun i x hi => ?_, fun x hx => ?_⟩
  · obtain ⟨hlt, _⟩ := List.getElem?_eq_some_iff.1 hi
    obtain ⟨b, o, e1, e2, c, ⟨c0, c1, c2⟩, hc⟩ := h4 i hlt
    rw [hget i x hi] at c0
    exact ⟨b, o, e1, e2, by have := hc 0 (by omega); rw [c0] at this; simpa using this⟩
  · obtain ⟨i, hi⟩ := List.getElem?_of_mem hx
    obtain ⟨hlt, _⟩ := List.getElem?_eq_some_iff.1 hi
    obtain ⟨b, o, e1, e2, c, ⟨c0, c1, c2⟩, hc⟩ := h4 i hlt
    rw [hget i x hi] at c1 c2
    exact ⟨c1, c2⟩


theorem last_row (la : Option Addr) (lc : Nat) (l : List Int) (bl : Bool) (w : World) (hl : l.length ≤ maxLen) (h1 : Rd zi w la l ∧ zok l) :
    Calls Try.prog 11 #[.slice la l.length lc, .bool bl] w fun e w' => e = .returned (.bool true) ∧ Below w.heap.size w w' :=
  last_law la lc l bl w (by unfold maxLen at hl; omega) h1.1 h1.2
end Go.Proofs.Ytdgnhimiamchmaa
