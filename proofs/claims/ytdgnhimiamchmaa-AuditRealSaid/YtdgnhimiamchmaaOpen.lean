import Derived.Test.YtdgnhimiamchmaaLib
import Derived.ProofKit
import Derived.Deep.Slices
import Derived.ChangeOld
import Derived.ShutString
namespace Go.Proofs.Ytdgnhimiamchmaa
open Go.ChangeShapes Go.WideShapes Go.ChangeAt Go.RowKit

/-- the elements of a slice that came in: where each lies, and what its cells are -/
def RowsAt {α : Type} [Inhabited α] (w : World) (k : Nat) (R : α → (Nat → Option Value) → Prop) (a : Option Addr) (l : List α) : Prop :=
  ∀ i, i < l.length → ∃ b o, a = some ⟨b, o, none⟩ ∧ b < w.heap.size ∧ ∃ c, R (l.getD i default) c ∧ ∀ j, j < k → w.cell? ⟨b, o + i * k + j, none⟩ = c j

section
variable {H : Type} {enc : TypeId × Value → H} {P : Program} {w : World} {base : Nat} {spare : Nat → Bool} {held : Bool}

theorem cell_spot {a : Addr} {u : Value} (h : w.cell? a = some u) : a.spot = none := by
  unfold World.cell? at h
  split at h
  · split at h
    · cases h
    · rename_i hs; simpa using hs
  · cases h
theorem add_none {b o n : Nat} : (⟨b, o, none⟩ : Addr).add n = ⟨b, o + n, none⟩ := by
  unfold Addr.add; split
  · rename_i h; subst h; rfl
  · rfl

theorem rd_list {α : Type} [Inhabited α] {T E : TypeId} {k fuel : Nat} {a : Option Addr} {len cap : Nat} {x : DataW H × List MemPlace} (hT : P.underlying T = some (.slice E)) (hk : P.cellsOf E = k) (hk0 : 0 < k)
    (h : DataW.trod enc P w base spare held fuel T [.slice a len cap] = some x) (R : α → (Nat → Option Value) → Prop)
    (hR : ∀ n cs y, DataW.trod enc P w base spare held n E cs = some y → cs.length = k → ∃ z, R z (fun j => cs[j]?)) :
    len ≤ cap ∧ cap ≤ maxLen ∧ ∃ l : List α, l.length = len ∧ RowsAt w k R a l := by
  rcases Go.Deep.open_slice hT h with ⟨hcs, _⟩ | ⟨ad, len', cap', m, n, D, Pl, hcs, _, hl, hm, hmm, _, hx⟩
  · simp at hcs
    obtain ⟨rfl, rfl, rfl⟩ := hcs
    exact ⟨Nat.le_refl _, Nat.zero_le _, [], rfl, fun i hi => by simp at hi⟩
  · simp at hcs
    obtain ⟨rfl, rfl, rfl⟩ := hcs
    rw [hk] at hx
    have hle : len ≤ m := by rw [hmm]; split <;> omega
    obtain ⟨f, hf⟩ := Go.Deep.choose_lt (α := α) (n := len) (p := fun i z => ∃ c, R z c ∧ ∀ j, j < k → w.cell? ((ad.add (i * k)).add j) = c j) (fun i hi => by
      obtain ⟨cs, h1, h2⟩ := hx i (by omega)
      obtain ⟨_, hlen, hc⟩ := World.cells?_some h1
      obtain ⟨z, hz⟩ := hR _ _ _ h2 hlen
      exact ⟨z, _, hz, hc⟩)
    refine ⟨hl, hm, (List.range len).map f, by simp, fun i hi => ?_⟩
    simp at hi
    obtain ⟨cs0, h1, _⟩ := hx 0 (by omega)
    obtain ⟨_, hlen0, hc0⟩ := World.cells?_some h1
    have h00 := hc0 0 hk0
    rw [List.getElem?_eq_getElem (by omega)] at h00
    have hsp : ad.spot = none := by
      have := cell_spot h00
      simpa [Addr.add] using this
    have hbl := World.block_lt_of_cell? w _ h00
    obtain ⟨b, o, sp⟩ := ad
    simp only at hsp
    subst hsp
    refine ⟨b, o, rfl, by simpa [Addr.add] using hbl, ?_⟩
    obtain ⟨c, hc, hcc⟩ := hf i hi
    refine ⟨c, by simpa [List.getD, hi] using hc, fun j hj => ?_⟩
    have := hcc j hj
    rwa [add_none, add_none] at this

/-- an int that came in fits -/
theorem rd_i64 {T : TypeId} {fuel : Nat} {cs : List Value} {x : DataW H × List MemPlace} (hT : P.underlying T = some (.int .i64)) (h : DataW.trod enc P w base spare held fuel T cs = some x) :
    ∃ n : Int, cs = [.int .i64 n] ∧ -9223372036854775808 ≤ n ∧ n ≤ 9223372036854775807 := by
  obtain ⟨n, rfl, _, hw⟩ := DataW.trod_int hT h
  refine ⟨n, rfl, ?_⟩
  simpa [Lit.wf, IntKind.min, IntKind.max, IntKind.bits, IntKind.signed] using hw
end
end Go.Proofs.Ytdgnhimiamchmaa
