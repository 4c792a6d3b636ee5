import Derived.Test.YtdgnhimiamchmaaProg
import Derived.Test.YtdgnhimiamchmaaMap
namespace Go.Proofs.Ytdgnhimiamchmaa
open Go.RowKit
open BigFrame

theorem Try.info5 : (Try.prog.info? 5).map (fun i => (i.zero, i.size, i.bytes)) = some (some (.int .u8 0), 1, 1) := by kernel_rfl

/-- a row of one-cell elements is read where the slice leads -/
def Rd {α : Type} (f : α → Value) (w : World) (a : Option Addr) (l : List α) : Prop :=
  ∀ (i : Nat) (x : α), l[i]? = some x → ∃ b o, a = some ⟨b, o, none⟩ ∧ b < w.heap.size ∧ w.cell? ⟨b, o + i, none⟩ = some (f x)
theorem Rd.nil {α : Type} (f : α → Value) (w : World) (a : Option Addr) : Rd f w a [] := fun i x h => by simp at h
theorem Rd.below {α : Type} {f : α → Value} {w w' : World} {a : Option Addr} {l : List α} (h : Rd f w a l) (hB : Below w.heap.size w w') : Rd f w' a l := fun i x hi => by
  obtain ⟨b, o, h1, h2, h3⟩ := h i x hi
  exact ⟨b, o, h1, Nat.lt_of_lt_of_le h2 hB.size, (hB.cell (p := ⟨b, o + i, none⟩) h2).trans h3⟩
/-- what is written lies in blocks of S, none of which are the row's -/
theorem Rd.chg {α : Type} {f : α → Value} {S : Nat → Prop} {w w' : World} {a : Option Addr} {l : List α} (h : Rd f w a l) (hC : Chg S w w') (hS : ∀ b o, a = some ⟨b, o, none⟩ → ¬ S b) : Rd f w' a l := fun i x hi => by
  obtain ⟨b, o, h1, h2, h3⟩ := h i x hi
  exact ⟨b, o, h1, Nat.lt_of_lt_of_le h2 hC.size, (World.cell?_of_block (a := ⟨b, o + i, none⟩) (hC.block b h2 (hS b o h1))).trans h3⟩
def u8 (x : Int) : Value := .int .u8 x
def i64v (x : Nat) : Value := .int .i64 (x : Int)
theorem Rd.of_own {α : Type} {f : α → Value} {w : World} {B e n c : Nat} {a : Option Addr} {l : List α} (h : w.ownsRow B e 1 (.slice a n c) n (l.map f)) : n = l.length ∧ Rd f w a l := by
  have hn : n = l.length := by have := h.1; simp at this; omega
  refine ⟨hn, fun i x hi => ?_⟩
  have hl : i < l.length := by
    rcases Nat.lt_or_ge i l.length with h | h
    · exact h
    · rw [List.getElem?_eq_none h] at hi; cases hi
  rcases h.2 with ⟨h1, h2⟩ | ⟨g, cap, cur, h1, h2, h3, h4, h5, h6, h7⟩
  · omega
  · simp at h1
    obtain ⟨rfl, rfl⟩ := h1
    refine ⟨g, 0, rfl, lt_heap h3, ?_⟩
    rw [Nat.zero_add, h.cellAt i (by omega)]
    simp [hi]
theorem map_u8 (l : List Int) : l.map u8 = l.map (Value.int .u8) := rfl

theorem cellA {w : World} {k : Nat} {x : Value} {e : TypeId} (hk : k = w.heap.size) : ∀ (j : Nat) (u : Value), [x][j]? = some u → (w.alloc (.cells #[x] e)).cell? ((⟨k, 0, none⟩ : Addr).add j) = some u := by
  subst hk; exact cell_one_new _ _ _

theorem own_form {w : World} {B : Nat} {e : TypeId} {size : Nat} {v : Value} {n : Nat} {xs : List Value} (h : w.ownsRow B e size v n xs) : ∃ a c, v = .slice a n c := by
  rcases h.2 with ⟨h1, h2⟩ | ⟨g, cap, cur, h1, _⟩
  · exact ⟨none, 0, by rw [h1, h2]⟩
  · exact ⟨_, _, h1⟩

theorem round_any (k n : Int) (w : World) (h0 : 0 < n) (h1 : n ≤ 1000000) (hk : -9223372036854775808 ≤ k) (hk2 : k ≤ 9223372036854775807) :
    Calls Try.prog 26 #[.int .i64 k, .int .i64 n] w fun e w' => e = .returned (.int .i64 (k % n)) ∧ w = w' := by
  by_cases hp : 0 ≤ k
  · have h2 := Int.emod_nonneg k (show n ≠ 0 by omega)
    go_enter Try.func26, Try.ntmps26
    go_wp2
    go_ret
    exact ⟨rfl, rfl⟩
  · have h2 := Int.emod_nonneg k (show n ≠ 0 by omega)
    have h3 := Int.emod_lt_of_pos k h0
    have e := Int.tmod_eq_emod (a := k) (b := n)
    by_cases hd : n ∣ k
    · rw [if_pos (Or.inr hd)] at e
      have e0 : k % n = 0 := Int.emod_eq_zero_of_dvd hd
      rw [e0] at e ⊢
      have h4 : 0 ≤ k.tmod n := by omega
      have e1 : k.tmod n = 0 := by omega
      clear e hd h2 h3 e0
      go_enter Try.func26, Try.ntmps26
      go_wp2
      go_ret
      exact ⟨by first | rfl | rw [e1], rfl⟩
    · rw [if_neg (by rintro (h | h); exact hp h; exact hd h)] at e
      have e1 : k.tmod n + n = k % n := by omega
      have h4 : k.tmod n < 0 := by omega
      have h5 : -1000000 ≤ k.tmod n := by omega
      have E1 := Lib.hid e1
      clear e hd h2 h3 e1 hp
      go_enter Try.func26, Try.ntmps26
      go_wp2
      go_ret
      exact ⟨by rw [E1.out]; rfl, rfl⟩


set_option maxHeartbeats 400000 in
/-- two rows of bytes -/
theorem bytes_any (a1 a2 : Option Addr) (c1 c2 : Nat) (l1 l2 : List Int) (w : World) (hn : l1.length ≤ 140737488351232) (h1 : Rd u8 w a1 l1) (h2 : Rd u8 w a2 l2) :
    Calls Try.prog 22 #[.slice a1 l1.length c1, .slice a2 l2.length c2] w fun e w' => e = .returned (.bool (decide (l1 = l2))) ∧ Below w.heap.size w w' := by
  have H1 := Lib.hid h1; have H2 := Lib.hid h2; clear h1 h2
  by_cases hl : l1.length = l2.length
  · rw [← hl]
    have t1 : ((l1.length : Int) != (l1.length : Int)) = false := by simp
    have HL := Lib.hid hl; clear hl
    generalize hm : l1.length = n at *
    have HM := Lib.hid hm; clear hm
    go_enter Try.func22, Try.ntmps22
    go_wp2_with fail
    go_loopw [5] (fun iv wr => ∃ i : Nat, i ≤ n ∧ iv = .int .i64 i ∧ Below w.heap.size w wr ∧ l1.take i = l2.take i) (fun iv _ => n - (intOf iv).toNat)
    case atStart => exact ⟨0, Nat.zero_le _, rfl, Below.refl _ _, rfl⟩
    case round =>
      obtain ⟨i, hi, rfl, hB, ht⟩ := hrel
      have HT := Lib.hid ht; clear ht
      by_cases hlt : i < n
      · have hx : l1[i]? = some (l1[i]'(by rw [HM.out]; exact hlt)) := List.getElem?_eq_getElem _
        generalize l1[i]'(by rw [HM.out]; exact hlt) = x at hx
        have hy : l2[i]? = some (l2[i]'(by rw [← HL.out]; exact hlt)) := List.getElem?_eq_getElem _
        generalize l2[i]'(by rw [← HL.out]; exact hlt) = y at hy
        obtain ⟨b1, o1, rfl, e1, d1⟩ := H1.out.below hB i x hx
        obtain ⟨b2, o2, rfl, e2, d2⟩ := H2.out.below hB i y hy
        simp only [u8] at d1 d2
        have HX := Lib.hid hx; have HY := Lib.hid hy; clear hx hy
        by_cases hxy : x = y
        · subst hxy
          have t2 : (x != x) = false := by simp
          go_wp2_with fail
          go_quiet (fail)
          go_wp2
          go_roundw
          case rel => exact ⟨i + 1, by omega, by go_num, below_drewN hB _, by rw [List.take_add_one, List.take_add_one, HT.out, HX.out, HY.out]⟩
          case measure => simp [intOf]; omega
        · have t2 : (x != y) = true := by simpa using hxy
          have hne : Hid (decide (l1 = l2) = false) := by
            show _ = _
            apply decide_eq_false
            intro e
            have := HX.out
            rw [e, HY.out] at this
            cases this
            exact hxy rfl
          clear hxy
          go_wp2_with fail
          go_quiet (fail)
          go_wp2
          go_ret
          exact ⟨by rw [hne.out]; rfl, below_drewN hB _⟩
      · have he : Hid (decide (l1 = l2) = true) := by
          show _ = _
          apply decide_eq_true
          have := HT.out
          rwa [List.take_of_length_le (by rw [HM.out]; omega), List.take_of_length_le (by rw [← HL.out]; omega)] at this
        go_wp2
        go_ret
        exact ⟨by rw [he.out]; rfl, hB⟩
  · have t1 : ((l1.length : Int) != (l2.length : Int)) = true := by simp; omega
    have hne : Hid (decide (l1 = l2) = false) := decide_eq_false (fun e => hl (by rw [e]))
    clear hl
    go_enter Try.func22, Try.ntmps22
    go_wp2
    go_ret
    exact ⟨by rw [hne.out]; rfl, Below.refl _ _⟩
end Go.Proofs.Ytdgnhimiamchmaa
