import Derived.Test.YtglkbkocdeimiaaAw
namespace Go.Proofs.Ytglkbkocdeimiaa
open Go.RowKit
open BigFrame Lib

theorem sum2_any (x v : Int) (b : Nat) (w : World) (h0 : 0 ≤ x) (h1 : x ≤ 1099511627776) (h2 : 0 ≤ v) (h3 : v ≤ 9223372036854775807) (hc : w.cell? ⟨b, 0, none⟩ = some (.int .i64 v)) (hc3 : w.cell? ⟨b, 1, none⟩ = some (.int .i64 3)) :
    Calls Try.prog 24 #[.int .i64 x, .slice (some ⟨b, 0, none⟩) 2 2] w fun e w' => e = .returned (.int .i64 (smin (smin x v) 3)) ∧ w = w' := by
  by_cases hv : v > 1099511627776 - x
  · have hs : Hid (smin (smin x v) 3 = 1099511627776) := by
      show _ = _
      have : smin x v = 1099511627776 := by unfold smin; rw [if_pos hv]
      rw [this]; decide
    have t1 : decide (1099511627776 - x < v) = true := by simp; omega
    go_enter Try.func24, Try.ntmps24
    go_wp2_with fail
    go_loopw [0, 5] (fun xv iv wr => xv = .int .i64 x ∧ iv = .int .i64 0 ∧ wr = w) (fun _ _ _ => 0)
    case atStart => exact ⟨rfl, rfl, rfl⟩
    case round =>
      obtain ⟨rfl, rfl, rfl⟩ := hrel
      go_wp2
      go_ret
      exact ⟨by rw [hs.out]; rfl, rfl⟩
  · have hv2 : v ≤ 1099511627776 - x := by omega
    have hsv : smin x v = x + v := by unfold smin; rw [if_neg hv]
    by_cases h4 : 3 > 1099511627776 - (x + v)
    · have hs : Hid (smin (smin x v) 3 = 1099511627776) := by
        show _ = _
        rw [hsv]; unfold smin; rw [if_pos h4]
      clear hv hsv
      have t1 : decide (1099511627776 - (x + v) < 3) = true := by simp; omega
      go_enter Try.func24, Try.ntmps24
      go_wp2_with fail
      go_loopw [0, 5] (fun xv iv wr => wr = w ∧ ((xv = .int .i64 x ∧ iv = .int .i64 0) ∨ (xv = .int .i64 (x + v) ∧ iv = .int .i64 1))) (fun _ iv _ => 2 - (intOf iv).toNat)
      case atStart => exact ⟨rfl, .inl ⟨rfl, rfl⟩⟩
      case round =>
        obtain ⟨rfl, ⟨rfl, rfl⟩ | ⟨rfl, rfl⟩⟩ := hrel
        · go_wp2
          go_roundw
          case rel => exact ⟨trivial, .inr ⟨rfl, rfl⟩⟩
          case measure => simp [intOf]
        · go_wp2
          go_ret
          exact ⟨by rw [hs.out]; rfl, rfl⟩
    · have hs : Hid (smin (smin x v) 3 = x + v + 3) := by
        show _ = _
        rw [hsv]; unfold smin; rw [if_neg h4]
      have h5 : 3 ≤ 1099511627776 - (x + v) := by omega
      clear hv hsv h4
      go_enter Try.func24, Try.ntmps24
      go_wp2_with fail
      go_loopw [0, 5] (fun xv iv wr => wr = w ∧ ((xv = .int .i64 x ∧ iv = .int .i64 0) ∨ (xv = .int .i64 (x + v) ∧ iv = .int .i64 1) ∨ (xv = .int .i64 (x + v + 3) ∧ iv = .int .i64 2))) (fun _ iv _ => 2 - (intOf iv).toNat)
      case atStart => exact ⟨rfl, .inl ⟨rfl, rfl⟩⟩
      case round =>
        obtain ⟨rfl, ⟨rfl, rfl⟩ | ⟨rfl, rfl⟩ | ⟨rfl, rfl⟩⟩ := hrel
        · go_wp2
          go_roundw
          case rel => exact ⟨trivial, .inr (.inl ⟨rfl, rfl⟩)⟩
          case measure => simp [intOf]
        · go_wp2
          go_roundw
          case rel => exact ⟨trivial, .inr (.inr ⟨rfl, rfl⟩)⟩
          case measure => simp [intOf]
        · go_wp2
          go_ret
          exact ⟨by rw [hs.out]; rfl, rfl⟩

/-- a step: its kind, its transaction (time, puts), its number -/
structure StV where
  kind : Int
  time : Int
  a : Option Addr
  c : Nat
  l : List PutV
  n : Int
instance : Inhabited StV := ⟨⟨0, 0, none, 0, [], 0⟩⟩
def i64ok (x : Int) : Prop := -9223372036854775808 ≤ x ∧ x ≤ 9223372036854775807
def StOk (w : World) (x : StV) : Prop := i64ok x.kind ∧ i64ok x.time ∧ x.l.length ≤ maxLen ∧ PutsAt w x.a x.l ∧ i64ok x.n
def StepsAt (w : World) (a : Option Addr) (l : List StV) : Prop :=
  ∀ (i : Nat) (x : StV), l[i]? = some x → ∃ b o, a = some ⟨b, o, none⟩ ∧ b < w.heap.size ∧ w.cell? ⟨b, o + i * 4, none⟩ = some (.int .i64 x.kind) ∧ w.cell? ⟨b, o + i * 4 + 1, none⟩ = some (.int .i64 x.time) ∧
    w.cell? ⟨b, o + i * 4 + 2, none⟩ = some (.slice x.a x.l.length x.c) ∧ w.cell? ⟨b, o + i * 4 + 3, none⟩ = some (.int .i64 x.n) ∧ StOk w x
theorem StepsAt.below {w w' : World} {a : Option Addr} {l : List StV} (h : StepsAt w a l) (hB : Below w.heap.size w w') : StepsAt w' a l := fun i x hi => by
  obtain ⟨b, o, h1, h2, h3, h4, h5, h6, h7, h8, h9, h10, h11⟩ := h i x hi
  have hc : ∀ j, w'.cell? ⟨b, j, none⟩ = w.cell? ⟨b, j, none⟩ := fun j => hB.cell (p := ⟨b, j, none⟩) h2
  exact ⟨b, o, h1, Nat.lt_of_lt_of_le h2 hB.size, (hc _).trans h3, (hc _).trans h4, (hc _).trans h5, (hc _).trans h6, h7, h8, h9, h10.below hB, h11⟩

set_option maxRecDepth 100000 in
theorem small_any (a : Option Addr) (c : Nat) (l : List StV) (w : World) (hn : l.length ≤ 9223372036854775807) (h1 : StepsAt w a l) :
    Calls Try.prog 8 #[.slice a l.length c] w fun e w' => (∃ b : Bool, e = .returned (.bool b) ∧ (b = true → l.length ≤ 100 ∧ ∀ x ∈ l, x.l.length ≤ 20000)) ∧ Below w.heap.size w w' := by
  have H1 := Lib.hid h1; clear h1
  generalize hq : l.length = m at *
  have HM := Lib.hid hq; clear hq
  have HS := Lib.hid (fun x v b W => sum2_any x v b W)
  go_enter Try.func8, Try.ntmps8
  go_wp2_with fail
  go_loopw [3, 4] (fun nv iv wr => ∃ (i : Nat) (v : Int), i ≤ m ∧ iv = .int .i64 i ∧ nv = .int .i64 v ∧ 0 ≤ v ∧ v ≤ 20000 ∧ Below w.heap.size w wr ∧ ∀ x ∈ l.take i, x.l.length ≤ 20000) (fun _ iv _ => m - (intOf iv).toNat)
  case atStart => exact ⟨0, 0, Nat.zero_le _, rfl, rfl, by omega, by omega, Below.refl _ _, fun x hx => by simp at hx⟩
  case round =>
    obtain ⟨i, v, hi, rfl, rfl, hv0, hv1, hB, hall⟩ := hrel
    have HALL := Lib.hid hall; clear hall
    by_cases hlt : i < m
    · have hx : l[i]? = some (l[i]'(by rw [HM.out]; exact hlt)) := List.getElem?_eq_getElem _
      generalize l[i]'(by rw [HM.out]; exact hlt) = x at hx
      obtain ⟨b, o, rfl, e1, d0, d1, d2, d3, d4, d5, d6, d7, d8⟩ := H1.out.below hB i x hx
      have e3 : x.l.length ≤ 9223372036854775807 := by unfold maxLen at d6; omega
      have HP := Lib.hid (puts_any x.a x.c x.l 20000 wr e3 (by omega) (by omega) d7)
      generalize hdl : x.l.length = dl at *
      have HDL := Lib.hid hdl; have HX := Lib.hid hx; clear d7 hx d6 hdl d4 d5 d8 d0 d1 d3
      go_wp2_with fail
      refine HP.out.mono ?_
      rintro e w' ⟨⟨pv, rfl, hp0, hp1, hp2⟩, hB2⟩
      have hB3 : Below w.heap.size w w' := hB.trans (hB2.mono hB.size)
      have S1 := smin_le v pv (by omega) (by omega) (by omega)
      have S2 := smin_le (smin v pv) 3 (by omega) (by omega) (by omega)
      go_wp2_with fail
      refine (HS.out v pv w'.heap.size _ (by omega) (by omega) (by omega) (by omega) (by first | omega | (simp; done) | (simp; omega) | (go_num; done)) (by first | omega | (simp; done) | (simp; omega) | (go_num; done))).mono ?_
      rintro e w4 ⟨rfl, rfl⟩
      have hpl : smin (smin v pv) 3 ≤ 20000 → dl ≤ 20000 := by
        intro h
        have := S1.2.2.2 (by omega)
        have := hp2 (by omega)
        omega
      generalize smin (smin v pv) 3 = sv at *
      have HPL := Lib.hid hpl; clear hpl
      by_cases hsv : 20000 < sv
      · clear hp2
        go_wp2
        go_ret
        exact ⟨⟨false, rfl, fun h => by cases h⟩, hB3.alloc hB3.size _⟩
      · have hs2 : sv ≤ 20000 := by omega
        have t1 : decide (20000 < sv) = false := by simp; omega
        clear hsv hp2
        go_wp2
        go_roundw
        case rel =>
          refine ⟨i + 1, sv, by omega, by go_num, rfl, by omega, hs2, hB3.alloc hB3.size _, fun x1 hx1 => ?_⟩
          rw [List.take_add_one, HX.out] at hx1
          rcases List.mem_append.1 hx1 with h2 | h2
          · exact HALL.out _ h2
          · simp at h2
            subst h2
            rw [HDL.out]
            exact HPL.out hs2
        case measure => simp [intOf]; omega
    · have hall : Hid (∀ x ∈ l, x.l.length ≤ 20000) := by
        have := HALL.out
        rwa [List.take_of_length_le (by rw [HM.out]; omega)] at this
      go_wp2
      go_ret
      exact ⟨⟨decide ((m : Int) ≤ 100), rfl, fun h => ⟨by have := of_decide_eq_true h; omega, hall.out⟩⟩, hB⟩
end Go.Proofs.Ytglkbkocdeimiaa
