import Derived.Test.YtglkbkocdeimiaaE2
namespace Go.Proofs.Ytglkbkocdeimiaa
open Go.RowKit
open BigFrame Lib
open Go.ChangeMaps (setBlock)

def Rises (l : List PutV) : Prop := 0 < l.length ∧ ∀ (j : Nat) (x y : PutV), l[j]? = some x → l[j + 1]? = some y → x.lba < y.lba

theorem rise_any (a : Option Addr) (c : Nat) (l : List PutV) (w : World) (hn : l.length ≤ 9223372036854775806) (h1 : PutsAt w a l) :
    Calls Try.prog 27 #[.slice a l.length c] w fun e w' => (∃ b : Bool, e = .returned (.bool b) ∧ (b = true ↔ Rises l)) ∧ Below w.heap.size w w' := by
  have H1 := Lib.hid h1; clear h1
  generalize hq : l.length = m at *
  have HM := Lib.hid hq; clear hq
  go_enter Try.func27, Try.ntmps27
  go_wp2_with fail
  go_loopw [3] (fun iv wr => ∃ i : Nat, 1 ≤ i ∧ (i ≤ m ∨ i = 1) ∧ iv = .int .i64 i ∧ Below w.heap.size w wr ∧ ∀ (j : Nat) (x y : PutV), j + 1 < i → l[j]? = some x → l[j + 1]? = some y → x.lba < y.lba) (fun iv _ => m - (intOf iv).toNat)
  case atStart => exact ⟨1, by omega, .inr rfl, rfl, Below.refl _ _, fun j _ _ h => by omega⟩
  case round =>
    obtain ⟨i, hi0, hi1, rfl, hB, hall⟩ := hrel
    have HALL := Lib.hid hall; clear hall
    by_cases hlt : i < m
    · obtain ⟨j, rfl⟩ : ∃ j, i = j + 1 := ⟨i - 1, by omega⟩
      have hx : l[j]? = some (l[j]'(by rw [HM.out]; omega)) := List.getElem?_eq_getElem _
      generalize l[j]'(by rw [HM.out]; omega) = x at hx
      have hy : l[j + 1]? = some (l[j + 1]'(by rw [HM.out]; omega)) := List.getElem?_eq_getElem _
      generalize l[j + 1]'(by rw [HM.out]; omega) = y at hy
      obtain ⟨b, o, rfl, e1, d1, d2, d3⟩ := H1.out.below hB j x hx
      obtain ⟨b', o', eb, e1', d1', d2', d3'⟩ := H1.out.below hB (j + 1) y hy
      cases eb
      have HX := Lib.hid hx; have HY := Lib.hid hy
      clear hx hy d2 d2' d3 d3'
      have s1 : IntKind.i64.wrap (((j + 1 : Nat) : Int) - 1) = (j : Int) := by
        rw [show ((j + 1 : Nat) : Int) - 1 = (j : Int) by omega]
        exact IntWalk.i64_in _ (by omega)
      have s2 : ((j + 1 : Nat) : Int) - 1 = (j : Int) := by omega
      by_cases hxy : y.lba ≤ x.lba
      · have t1 : decide (y.lba ≤ x.lba) = true := by simpa using hxy
        have hne : Hid (¬ Rises l) := fun h => by have := h.2 j x y HX.out HY.out; omega
        go_wp2_with fail
        go_quiet (fail)
        go_wp2
        go_ret
        exact ⟨⟨false, rfl, by simp [hne.out]⟩, below_drewN hB _⟩
      · have t1 : decide (y.lba ≤ x.lba) = false := by simpa using hxy
        have hlt2 : x.lba < y.lba := by omega
        go_wp2_with fail
        go_quiet (fail)
        go_wp2
        go_roundw
        case rel =>
          refine ⟨j + 2, by omega, .inl (by omega), by go_num, below_drewN hB _, fun j' x' y' hj hx' hy' => ?_⟩
          by_cases e : j' = j
          · subst e
            rw [HX.out] at hx'; rw [HY.out] at hy'
            cases hx'; cases hy'
            exact hlt2
          · exact HALL.out j' x' y' (by omega) hx' hy'
        case measure => simp [intOf]; omega
    · have hr : Hid (0 < m ↔ Rises l) := by
        show _ ↔ _
        constructor
        · intro h0
          refine ⟨by rw [HM.out]; exact h0, fun j x y hx hy => HALL.out j x y ?_ hx hy⟩
          have := (List.getElem?_eq_some_iff.1 hy).1
          rw [HM.out] at this
          omega
        · intro h; rw [← HM.out]; exact h.1
      by_cases h0 : 0 < m
      · go_wp2
        go_ret
        exact ⟨⟨true, rfl, by simp [← hr.out, h0]⟩, hB⟩
      · have e : m = 0 := by omega
        subst e
        go_wp2
        go_ret
        exact ⟨⟨false, rfl, by simp [← hr.out]⟩, hB⟩

def lenBad (l : List PutV) : Bool := l.any fun p => p.d.length != 40
theorem clos30 (p : PutV) (w : World) (hp : p.d.length ≤ 9223372036854775807) :
    Calls Try.prog 30 #[.agg #[.int .i64 p.lba, .slice p.a p.d.length p.c]] w fun e w' => e = .returned (.bool (p.d.length != 40)) ∧ Below w.heap.size w w' := by
  generalize hd : p.d.length = dl at *
  have ht : Hid (((dl : Int) != 40) = (dl != 40)) := by
    show _ = _
    rw [Bool.eq_iff_iff]; simp; omega
  go_enter Try.func30, Try.ntmps30
  go_wp2
  go_ret
  refine ⟨?_, (Below.refl _ w).alloc (Nat.le_refl _) _⟩
  rw [← ht.out]; rfl

set_option maxHeartbeats 400000 in
theorem idxP_any (a : Option Addr) (c : Nat) (l : List PutV) (w : World) (hn : l.length ≤ 9223372036854775806) (h1 : PutsAt w a l) :
    Calls Try.prog 38 #[.slice a l.length c, .func (.func 30) #[] #[]] w fun e w' => (∃ i : Int, e = .returned (.int .i64 i) ∧ (0 ≤ i ↔ lenBad l = true) ∧ -1 ≤ i ∧ i ≤ 9223372036854775806) ∧ Below w.heap.size w w' := by
  have HP := Lib.hid (fun W p (hp : p.d.length ≤ 9223372036854775807) => clos30 p W hp)
  have H1 := Lib.hid h1; clear h1
  generalize hq : l.length = m at *
  have HM := Lib.hid hq; clear hq
  go_enter Try.func38, Try.ntmps38
  go_wp2_with fail
  go_loopw [8] (fun iv wr => ∃ i : Nat, i ≤ m ∧ iv = .int .i64 i ∧ Below w.heap.size w wr ∧ lenBad (l.take i) = false) (fun iv _ => m - (intOf iv).toNat)
  case atStart => exact ⟨0, Nat.zero_le _, rfl, Below.refl _ _, rfl⟩
  case round =>
    obtain ⟨i, hi, rfl, hB, ht⟩ := hrel
    have HT := Lib.hid ht; clear ht
    by_cases hlt : i < m
    · have hx : l[i]? = some (l[i]'(by rw [HM.out]; exact hlt)) := List.getElem?_eq_getElem _
      generalize l[i]'(by rw [HM.out]; exact hlt) = x at hx
      obtain ⟨b1, o1, rfl, e1, d1, d2, d3⟩ := H1.out.below hB i x hx
      have hxl : x.d.length ≤ 9223372036854775807 := by have := d3.2.2.1; unfold maxLen at this; omega
      have HXL := Lib.hid hxl
      have HX := Lib.hid hx; clear hx hxl
      have D3 := Lib.hid d3; clear d3
      cases h0 : (x.d.length != 40) with
      | false =>
        have H0 := Lib.hid h0; clear h0
        go_wp2_with (go_at_call 30; refine (HP.out _ _ HXL.out).mono ?_; rintro e w' ⟨rfl, hB2⟩; rw [H0.out])
        go_roundw
        case rel => exact ⟨i + 1, by omega, by go_num, below_below hB hB2 (Nat.le_refl _), by rw [List.take_add_one, HX.out]; simp only [lenBad, List.any_append]; rw [show (l.take i).any (fun p => p.d.length != 40) = false from HT.out]; simp [H0.out]⟩
        case measure => simp [intOf]; omega
      | true =>
        have hz : Hid (lenBad l = true) := by
          show _ = _
          unfold lenBad
          rw [List.any_eq_true]
          exact ⟨x, List.mem_of_getElem? HX.out, by simp [h0]⟩
        have H0 := Lib.hid h0; clear h0
        go_wp2_with (go_at_call 30; refine (HP.out _ _ HXL.out).mono ?_; rintro e w' ⟨rfl, hB2⟩; rw [H0.out])
        go_ret
        exact ⟨⟨i, rfl, by simp [hz.out], by omega, by omega⟩, below_below hB hB2 (Nat.le_refl _)⟩
    · have hz : Hid (lenBad l = false) := by
        show _ = _
        have := HT.out
        rwa [List.take_of_length_le (by rw [HM.out]; omega)] at this
      go_wp2
      go_ret
      exact ⟨⟨-1, rfl, by simp [hz.out], by omega, by omega⟩, hB⟩

theorem contP_any (a : Option Addr) (c : Nat) (l : List PutV) (w : World) (hn : l.length ≤ 9223372036854775806) (h1 : PutsAt w a l) :
    Calls Try.prog 29 #[.slice a l.length c, .func (.func 30) #[] #[]] w fun e w' => e = .returned (.bool (lenBad l)) ∧ Below w.heap.size w w' := by
  have h := Lib.hid (idxP_any a c l w hn h1)
  clear h1
  go_enter Try.func29, Try.ntmps29
  go_wp2_with fail
  refine h.out.mono ?_
  rintro e w1 ⟨⟨i, rfl, hi, h2, h3⟩, hB⟩
  by_cases h0 : 0 ≤ i
  · have hz := Lib.hid (hi.1 h0)
    clear hi
    go_wp2
    go_ret
    exact ⟨by rw [hz.out]; rfl, hB⟩
  · have hz : Hid (lenBad l = false) := by
      show _ = _
      cases h5 : lenBad l with
      | false => rfl
      | true => exact (h0 (hi.2 h5)).elim
    clear hi
    have h6 : decide (0 ≤ i) = false := by simpa using h0
    have h7 : i < 0 := by omega
    go_wp2
    go_ret
    exact ⟨by rw [hz.out]; rfl, hB⟩
end Go.Proofs.Ytglkbkocdeimiaa
