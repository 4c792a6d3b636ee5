import Derived.Test.YtfmjkpobphjgkaaRo
import Derived.Test.YtfmjkpobphjgkaaOpen
namespace Go.Proofs.Ytfmjkpobphjgkaa
open Go.RowKit
open BigFrame

/-- a row of one-cell elements is read where the slice leads -/
def Rd {α : Type} (f : α → Value) (w : World) (a : Option Addr) (l : List α) : Prop :=
  ∀ (i : Nat) (x : α), l[i]? = some x → ∃ b o, a = some ⟨b, o, none⟩ ∧ b < w.heap.size ∧ w.cell? ⟨b, o + i, none⟩ = some (f x)
theorem Rd.nil {α : Type} (f : α → Value) (w : World) (a : Option Addr) : Rd f w a [] := fun i x h => by simp at h
theorem Rd.below {α : Type} {f : α → Value} {w w' : World} {a : Option Addr} {l : List α} (h : Rd f w a l) (hB : Below w.heap.size w w') : Rd f w' a l := fun i x hi => by
  obtain ⟨b, o, h1, h2, h3⟩ := h i x hi
  exact ⟨b, o, h1, Nat.lt_of_lt_of_le h2 hB.size, (hB.cell (p := ⟨b, o + i, none⟩) h2).trans h3⟩
theorem Rd.of_own {α : Type} {f : α → Value} {w : World} {B e n c : Nat} {a : Option Addr} {l : List α} (h : w.ownsRow B e 1 (.slice a n c) n (l.map f)) : n = l.length ∧ Rd f w a l := by
  have hn : n = l.length := by have := h.1; simp at this; omega
  refine ⟨hn, fun i x hi => ?_⟩
  have hl : i < l.length := by
    rcases Nat.lt_or_ge i l.length with h | h
    · exact h
    · rw [List.getElem?_eq_none h] at hi; cases hi
  rcases h.2 with ⟨h1, h2⟩ | ⟨g, cap, cur, h1, h2, h3, h4, h5, h6, h7⟩
  · omega
  · simp at h1
    obtain ⟨rfl, rfl⟩ := h1
    refine ⟨g, 0, rfl, lt_heap h3, ?_⟩
    rw [Nat.zero_add, h.cellAt i (by omega)]
    simp [hi]
abbrev zi : Int → Value := Value.int .i64
def zok (l : List Int) : Prop := ∀ x ∈ l, -9223372036854775808 ≤ x ∧ x ≤ 9223372036854775807

open Go.ChangeShapes Go.WideShapes Go.ChangeAt in
theorem ints_open {H : Type} {enc : TypeId × Value → H} {w : World} {base fuel : Nat} {spare : Nat → Bool} {hd : Bool} {a : Option Addr} {len cap : Nat} {x : DataW H × List MemPlace}
    (h : DataW.trod enc Try.prog w base spare hd fuel 27 [.slice a len cap] = some x) : len ≤ cap ∧ cap ≤ maxLen ∧ ∃ l : List Int, l.length = len ∧ (Rd zi w a l ∧ zok l) := by
  obtain ⟨h1, h2, l, h3, h4⟩ := rd_list (α := Int) (k := 1) Try.underlying27 (by kernel_rfl) (by omega) h
    (fun z c => c 0 = some (.int .i64 z) ∧ -9223372036854775808 ≤ z ∧ z ≤ 9223372036854775807) (fun n cs y hy hl => by
      obtain ⟨k0, f0, g0, g1⟩ := rd_i64 Try.underlying3 hy
      subst f0
      exact ⟨k0, rfl, g0, g1⟩)
  have hget : ∀ i x, l[i]? = some x → l.getD i default = x := fun i x hi => by rw [List.getD_eq_getElem?_getD, hi]; rfl
  refine ⟨h1, h2, l, h3, fun i x hi => ?_, fun x hx => ?_⟩
  · obtain ⟨hlt, _⟩ := List.getElem?_eq_some_iff.1 hi
    obtain ⟨b, o, e1, e2, c, ⟨c0, c1, c2⟩, hc⟩ := h4 i hlt
    rw [hget i x hi] at c0
    exact ⟨b, o, e1, e2, by have := hc 0 (by omega); rw [c0] at this; simpa using this⟩
  · obtain ⟨i, hi⟩ := List.getElem?_of_mem hx
    obtain ⟨hlt, _⟩ := List.getElem?_eq_some_iff.1 hi
    obtain ⟨b, o, e1, e2, c, ⟨c0, c1, c2⟩, hc⟩ := h4 i hlt
    rw [hget i x hi] at c1 c2
    exact ⟨c1, c2⟩

/-- two rows of ints -/
theorem ints_any (a1 a2 : Option Addr) (c1 c2 : Nat) (l1 l2 : List Int) (w : World) (hn : l1.length ≤ 140737488351232) (hn2 : l2.length ≤ 140737488351232) (h1 : Rd zi w a1 l1) (h2 : Rd zi w a2 l2) :
    Calls Try.prog 19 #[.slice a1 l1.length c1, .slice a2 l2.length c2] w fun e w' => e = .returned (.bool (decide (l1 = l2))) ∧ Below w.heap.size w w' := by
  have H1 := Lib.hid h1; have H2 := Lib.hid h2; clear h1 h2
  by_cases hl : l1.length = l2.length
  · rw [← hl]
    have t1 : ((l1.length : Int) != (l1.length : Int)) = false := by simp
    have HL := Lib.hid hl; clear hl
    generalize hm : l1.length = n at *
    have HM := Lib.hid hm; clear hm
    go_enter Try.func19, Try.ntmps19
    go_wp2_with fail
    go_loopw [5] (fun iv wr => ∃ i : Nat, i ≤ n ∧ iv = .int .i64 i ∧ Below w.heap.size w wr ∧ l1.take i = l2.take i) (fun iv _ => n - (intOf iv).toNat)
    case atStart => exact ⟨0, Nat.zero_le _, rfl, Below.refl _ _, rfl⟩
    case round =>
      obtain ⟨i, hi, rfl, hB, ht⟩ := hrel
      have HT := Lib.hid ht; clear ht
      by_cases hlt : i < n
      · have hx : l1[i]? = some (l1[i]'(by rw [HM.out]; exact hlt)) := List.getElem?_eq_getElem _
        generalize l1[i]'(by rw [HM.out]; exact hlt) = x at hx
        have hy : l2[i]? = some (l2[i]'(by rw [← HL.out]; exact hlt)) := List.getElem?_eq_getElem _
        generalize l2[i]'(by rw [← HL.out]; exact hlt) = y at hy
        obtain ⟨b1, o1, rfl, e1, d1⟩ := H1.out.below hB i x hx
        obtain ⟨b2, o2, rfl, e2, d2⟩ := H2.out.below hB i y hy
        simp only [zi] at d1 d2
        have HX := Lib.hid hx; have HY := Lib.hid hy; clear hx hy
        by_cases hxy : x = y
        · subst hxy
          have t2 : (x != x) = false := by simp
          go_wp2_with fail
          go_quiet (fail)
          go_wp2
          go_roundw
          case rel => exact ⟨i + 1, by omega, by go_num, below_drewN hB _, by rw [List.take_add_one, List.take_add_one, HT.out, HX.out, HY.out]⟩
          case measure => simp [intOf]; omega
        · have t2 : (x != y) = true := by simpa using hxy
          have hne : Hid (decide (l1 = l2) = false) := by
            show _ = _
            apply decide_eq_false
            intro e
            have := HX.out
            rw [e, HY.out] at this
            cases this
            exact hxy rfl
          clear hxy
          go_wp2_with fail
          go_quiet (fail)
          go_wp2
          go_ret
          exact ⟨by rw [hne.out]; rfl, below_drewN hB _⟩
      · have he : Hid (decide (l1 = l2) = true) := by
          show _ = _
          apply decide_eq_true
          have := HT.out
          rwa [List.take_of_length_le (by rw [HM.out]; omega), List.take_of_length_le (by rw [← HL.out]; omega)] at this
        go_wp2
        go_ret
        exact ⟨by rw [he.out]; rfl, hB⟩
  · have t1 : ((l1.length : Int) != (l2.length : Int)) = true := by simp; omega
    have hne : Hid (decide (l1 = l2) = false) := decide_eq_false (fun e => hl (by rw [e]))
    clear hl
    go_enter Try.func19, Try.ntmps19
    go_wp2
    go_ret
    exact ⟨by rw [hne.out]; rfl, Below.refl _ _⟩
end Go.Proofs.Ytfmjkpobphjgkaa
