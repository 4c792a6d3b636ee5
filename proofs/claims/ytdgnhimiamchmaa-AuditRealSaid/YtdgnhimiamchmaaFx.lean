import Derived.Test.YtdgnhimiamchmaaHm
import Derived.Test.YtdgnhimiamchmaaOe
namespace Go.Proofs.Ytdgnhimiamchmaa
open Go.RowKit
open BigFrame Lib

/-- the first place where f says so, from k on; -1: none -/
def fidx {α : Type} (f : α → Bool) : List α → Nat → Int
  | [], _ => -1
  | x :: l, k => if f x = true then (k : Int) else fidx f l (k + 1)
theorem fidx_drop {α : Type} (f : α → Bool) (l : List α) : ∀ i, i ≤ l.length → (∀ y ∈ l.take i, f y = false) → fidx f l 0 = fidx f (l.drop i) i
  | 0, _, _ => rfl
  | i + 1, hi, h => by
    have hx : l[i]? = some (l[i]'(by omega)) := List.getElem?_eq_getElem _
    have hl : ∀ y ∈ l.take i, f y = false := fun y hy => h y (by rw [List.take_add_one]; exact List.mem_append_left _ hy)
    have ht : l.take (i + 1) = l.take i ++ [l[i]'(by omega)] := by rw [List.take_add_one, hx]; rfl
    have hf : f (l[i]'(by omega)) = false := h _ (by rw [ht]; exact List.mem_append_right _ (List.mem_singleton.2 rfl))
    rw [fidx_drop f l i (by omega) hl, drop_cons hx, fidx, hf]; rfl
theorem fidx_at {α : Type} (f : α → Bool) (l : List α) (i : Nat) (x : α) (hx : l[i]? = some x) (hf : f x = true) (h : ∀ y ∈ l.take i, f y = false) : fidx f l 0 = i := by
  have hi := (List.getElem?_eq_some_iff.1 hx).1
  rw [fidx_drop f l i (by omega) h, drop_cons hx, fidx, if_pos hf]
theorem fidx_none {α : Type} (f : α → Bool) (l : List α) (h : ∀ y ∈ l, f y = false) : fidx f l 0 = -1 := by
  rw [fidx_drop f l l.length (Nat.le_refl _) (by rwa [List.take_of_length_le (Nat.le_refl _)]), List.drop_eq_nil_of_le (Nat.le_refl _)]; rfl
theorem fidx_any {α : Type} (f : α → Bool) : ∀ (l : List α) (k : Nat), (decide (0 ≤ fidx f l k) = l.any f) ∧ -1 ≤ fidx f l k ∧ fidx f l k ≤ k + l.length
  | [], k => ⟨by simp [fidx], by simp [fidx], by simp only [fidx]; omega⟩
  | x :: l, k => by
    unfold fidx
    by_cases h : f x = true
    · rw [if_pos h]
      refine ⟨?_, by omega, by simp; omega⟩
      rw [List.any_cons, h]
      simp
    · rw [if_neg h]
      have := fidx_any f l (k + 1)
      refine ⟨?_, this.2.1, by simp; omega⟩
      rw [List.any_cons, Bool.not_eq_true _ |>.mp h, this.1]; rfl

theorem idxP_gen (g : Nat) (cb : Array Value) (f : PutV → Bool) (a : Option Addr) (c : Nat) (l : List PutV) (w : World) (hn : l.length ≤ 9223372036854775807) (h1 : PutsAt w a l) (eg : ∀ args w, (callFunc g args).run Try.prog w = .ok (.enter g args) w)
    (hg : ∀ W, Below w.heap.size w W → ∀ p ∈ l, Calls Try.prog g (#[.agg #[.int .i64 p.lba, .slice p.a p.d.length p.c]] ++ cb) W fun e w' => e = .returned (.bool (f p)) ∧ Below W.heap.size W w') :
    Calls Try.prog 64 #[.slice a l.length c, .func (.func g) #[] cb] w fun e w' => e = .returned (.int .i64 (fidx f l 0)) ∧ Below w.heap.size w w' := by
  have HP := Lib.hid hg
  have H1 := Lib.hid h1; clear h1 hg
  generalize hq : l.length = m at *
  have HM := Lib.hid hq; clear hq
  go_enter Try.func64, Try.ntmps64
  go_wp2_with fail
  go_loopw [8] (fun iv wr => ∃ i : Nat, i ≤ m ∧ iv = .int .i64 i ∧ Below w.heap.size w wr ∧ Aside (∀ y ∈ l.take i, f y = false)) (fun iv _ => m - (intOf iv).toNat)
  case atStart => exact ⟨0, Nat.zero_le _, rfl, Below.refl _ _, fun y hy => by simp at hy⟩
  case round =>
    obtain ⟨i, hi, rfl, hB, HT⟩ := hrel
    by_cases hlt : i < m
    · have hx : l[i]? = some (l[i]'(by rw [HM.out]; exact hlt)) := List.getElem?_eq_getElem _
      generalize l[i]'(by rw [HM.out]; exact hlt) = x at hx
      obtain ⟨b1, o1, rfl, e1, d1, d2, d3⟩ := H1.out.below hB i x hx
      have HX := Lib.hid hx
      have HC := Lib.hid (fun W hW => HP.out W hW x (List.mem_of_getElem? hx))
      clear hx d3
      cases h0 : f x with
      | false =>
        have H0 := Lib.hid h0; clear h0
        go_wp2_with (go_at_fn g; refine (HC.out _ hB).mono ?_; rintro e w' ⟨rfl, hB2⟩; rw [H0.out])
        go_roundw
        case rel =>
          refine ⟨i + 1, by omega, by go_num, below_below hB hB2 (Nat.le_refl _), fun y hy => ?_⟩
          rw [List.take_add_one, HX.out] at hy
          rcases List.mem_append.1 hy with hy | hy
          · exact HT.out y hy
          · simp at hy; subst hy; exact H0.out
        case measure => simp [intOf]; omega
      | true =>
        have hz : Hid (fidx f l 0 = i) := fidx_at f l i x HX.out h0 HT.out
        have H0 := Lib.hid h0; clear h0
        go_wp2_with (go_at_fn g; refine (HC.out _ hB).mono ?_; rintro e w' ⟨rfl, hB2⟩; rw [H0.out])
        go_ret
        exact ⟨by rw [hz.out]; rfl, below_below hB hB2 (Nat.le_refl _)⟩
    · have hz : Hid (fidx f l 0 = -1) := fidx_none f l (fun y hy => HT.out y (by rw [List.take_of_length_le (by rw [HM.out]; omega)]; exact hy))
      go_wp2
      go_ret
      exact ⟨by rw [hz.out]; rfl, hB⟩
theorem contP_gen (g : Nat) (cb : Array Value) (f : PutV → Bool) (a : Option Addr) (c : Nat) (l : List PutV) (w : World) (hn : l.length ≤ 9223372036854775807) (h1 : PutsAt w a l) (eg : ∀ args w, (callFunc g args).run Try.prog w = .ok (.enter g args) w)
    (hg : ∀ W, Below w.heap.size w W → ∀ p ∈ l, Calls Try.prog g (#[.agg #[.int .i64 p.lba, .slice p.a p.d.length p.c]] ++ cb) W fun e w' => e = .returned (.bool (f p)) ∧ Below W.heap.size W w') :
    Calls Try.prog 41 #[.slice a l.length c, .func (.func g) #[] cb] w fun e w' => e = .returned (.bool (l.any f)) ∧ Below w.heap.size w w' := by
  have H := Lib.hid (idxP_gen g cb f a c l w hn h1 eg hg)
  have HA := Lib.hid (fidx_any f l 0)
  clear h1 hg
  have q1 := HA.out.2.1
  have q2 := HA.out.2.2
  generalize hq : l.length = m at *
  have HD : Hid (decide (0 ≤ fidx f l 0) = l.any f) := HA.out.1
  generalize fidx f l 0 = v at *
  generalize l.any f = b at *
  go_enter Try.func41, Try.ntmps41
  go_wp2_with fail
  refine H.out.mono ?_
  rintro e w1 ⟨rfl, hB⟩
  cases b with
  | true =>
    have t1 : 0 ≤ v := of_decide_eq_true HD.out
    go_wp2
    go_ret
    exact ⟨rfl, hB⟩
  | false =>
    have t1 : v < 0 := by have := of_decide_eq_false HD.out; omega
    have t2 : decide (v ≥ 0) = false := HD.out
    go_wp2
    go_ret
    exact ⟨rfl, hB⟩

theorem idxR_gen (g : Nat) (cb : Array Value) (f : ReadV → Bool) (a : Option Addr) (c : Nat) (l : List ReadV) (w : World) (hn : l.length ≤ 9223372036854775807) (h1 : ReadsAt w a l) (eg : ∀ args w, (callFunc g args).run Try.prog w = .ok (.enter g args) w)
    (hg : ∀ W, Below w.heap.size w W → ∀ p ∈ l, Calls Try.prog g (#[.agg #[.int .i64 p.lba, .slice p.a p.d.length p.c, .bool p.own]] ++ cb) W fun e w' => e = .returned (.bool (f p)) ∧ Below W.heap.size W w') :
    Calls Try.prog 96 #[.slice a l.length c, .func (.func g) #[] cb] w fun e w' => e = .returned (.int .i64 (fidx f l 0)) ∧ Below w.heap.size w w' := by
  have HP := Lib.hid hg
  have H1 := Lib.hid h1; clear h1 hg
  generalize hq : l.length = m at *
  have HM := Lib.hid hq; clear hq
  go_enter Try.func96, Try.ntmps96
  go_wp2_with fail
  go_loopw [8] (fun iv wr => ∃ i : Nat, i ≤ m ∧ iv = .int .i64 i ∧ Below w.heap.size w wr ∧ Aside (∀ y ∈ l.take i, f y = false)) (fun iv _ => m - (intOf iv).toNat)
  case atStart => exact ⟨0, Nat.zero_le _, rfl, Below.refl _ _, fun y hy => by simp at hy⟩
  case round =>
    obtain ⟨i, hi, rfl, hB, HT⟩ := hrel
    by_cases hlt : i < m
    · have hx : l[i]? = some (l[i]'(by rw [HM.out]; exact hlt)) := List.getElem?_eq_getElem _
      generalize l[i]'(by rw [HM.out]; exact hlt) = x at hx
      obtain ⟨b1, o1, rfl, e1, d1, d2, d3, d4⟩ := H1.out.below hB i x hx
      have HX := Lib.hid hx
      have HC := Lib.hid (fun W hW => HP.out W hW x (List.mem_of_getElem? hx))
      clear hx d4
      cases h0 : f x with
      | false =>
        have H0 := Lib.hid h0; clear h0
        go_wp2_with (go_at_fn g; refine (HC.out _ hB).mono ?_; rintro e w' ⟨rfl, hB2⟩; rw [H0.out])
        go_roundw
        case rel =>
          refine ⟨i + 1, by omega, by go_num, below_below hB hB2 (Nat.le_refl _), fun y hy => ?_⟩
          rw [List.take_add_one, HX.out] at hy
          rcases List.mem_append.1 hy with hy | hy
          · exact HT.out y hy
          · simp at hy; subst hy; exact H0.out
        case measure => simp [intOf]; omega
      | true =>
        have hz : Hid (fidx f l 0 = i) := fidx_at f l i x HX.out h0 HT.out
        have H0 := Lib.hid h0; clear h0
        go_wp2_with (go_at_fn g; refine (HC.out _ hB).mono ?_; rintro e w' ⟨rfl, hB2⟩; rw [H0.out])
        go_ret
        exact ⟨by rw [hz.out]; rfl, below_below hB hB2 (Nat.le_refl _)⟩
    · have hz : Hid (fidx f l 0 = -1) := fidx_none f l (fun y hy => HT.out y (by rw [List.take_of_length_le (by rw [HM.out]; omega)]; exact hy))
      go_wp2
      go_ret
      exact ⟨by rw [hz.out]; rfl, hB⟩
theorem contR_gen (g : Nat) (cb : Array Value) (f : ReadV → Bool) (a : Option Addr) (c : Nat) (l : List ReadV) (w : World) (hn : l.length ≤ 9223372036854775807) (h1 : ReadsAt w a l) (eg : ∀ args w, (callFunc g args).run Try.prog w = .ok (.enter g args) w)
    (hg : ∀ W, Below w.heap.size w W → ∀ p ∈ l, Calls Try.prog g (#[.agg #[.int .i64 p.lba, .slice p.a p.d.length p.c, .bool p.own]] ++ cb) W fun e w' => e = .returned (.bool (f p)) ∧ Below W.heap.size W w') :
    Calls Try.prog 87 #[.slice a l.length c, .func (.func g) #[] cb] w fun e w' => e = .returned (.bool (l.any f)) ∧ Below w.heap.size w w' := by
  have H := Lib.hid (idxR_gen g cb f a c l w hn h1 eg hg)
  have HA := Lib.hid (fidx_any f l 0)
  clear h1 hg
  have q1 := HA.out.2.1
  have q2 := HA.out.2.2
  generalize hq : l.length = m at *
  have HD : Hid (decide (0 ≤ fidx f l 0) = l.any f) := HA.out.1
  generalize fidx f l 0 = v at *
  generalize l.any f = b at *
  go_enter Try.func87, Try.ntmps87
  go_wp2_with fail
  refine H.out.mono ?_
  rintro e w1 ⟨rfl, hB⟩
  cases b with
  | true =>
    have t1 : 0 ≤ v := of_decide_eq_true HD.out
    go_wp2
    go_ret
    exact ⟨rfl, hB⟩
  | false =>
    have t1 : v < 0 := by have := of_decide_eq_false HD.out; omega
    have t2 : decide (v ≥ 0) = false := HD.out
    go_wp2
    go_ret
    exact ⟨rfl, hB⟩

theorem idxI_gen (g : Nat) (cb : Array Value) (f : Nat → Bool) (a : Option Addr) (c : Nat) (l : List Nat) (w : World) (hn : l.length ≤ 9223372036854775807) (h1 : Rd i64n w a l) (eg : ∀ args w, (callFunc g args).run Try.prog w = .ok (.enter g args) w)
    (hg : ∀ W, Below w.heap.size w W → ∀ p ∈ l, Calls Try.prog g (#[.int .i64 (p : Int)] ++ cb) W fun e w' => e = .returned (.bool (f p)) ∧ Below W.heap.size W w') :
    Calls Try.prog 85 #[.slice a l.length c, .func (.func g) #[] cb] w fun e w' => e = .returned (.int .i64 (fidx f l 0)) ∧ Below w.heap.size w w' := by
  have HP := Lib.hid hg
  have H1 := Lib.hid h1; clear h1 hg
  generalize hq : l.length = m at *
  have HM := Lib.hid hq; clear hq
  go_enter Try.func85, Try.ntmps85
  go_wp2_with fail
  go_loopw [8] (fun iv wr => ∃ i : Nat, i ≤ m ∧ iv = .int .i64 i ∧ Below w.heap.size w wr ∧ Aside (∀ y ∈ l.take i, f y = false)) (fun iv _ => m - (intOf iv).toNat)
  case atStart => exact ⟨0, Nat.zero_le _, rfl, Below.refl _ _, fun y hy => by simp at hy⟩
  case round =>
    obtain ⟨i, hi, rfl, hB, HT⟩ := hrel
    by_cases hlt : i < m
    · have hx : l[i]? = some (l[i]'(by rw [HM.out]; exact hlt)) := List.getElem?_eq_getElem _
      generalize l[i]'(by rw [HM.out]; exact hlt) = x at hx
      obtain ⟨b1, o1, rfl, e1, d1⟩ := H1.out.below hB i x hx
      have HX := Lib.hid hx
      have HC := Lib.hid (fun W hW => HP.out W hW x (List.mem_of_getElem? hx))
      have d1' : wr.cell? ⟨b1, o1 + i, none⟩ = some (.int .i64 (x : Int)) := d1
      clear hx d1
      cases h0 : f x with
      | false =>
        have H0 := Lib.hid h0; clear h0
        go_wp2_with (go_at_fn g; refine (HC.out _ hB).mono ?_; rintro e w' ⟨rfl, hB2⟩; rw [H0.out])
        go_roundw
        case rel =>
          refine ⟨i + 1, by omega, by go_num, below_below hB hB2 (Nat.le_refl _), fun y hy => ?_⟩
          rw [List.take_add_one, HX.out] at hy
          rcases List.mem_append.1 hy with hy | hy
          · exact HT.out y hy
          · simp at hy; subst hy; exact H0.out
        case measure => simp [intOf]; omega
      | true =>
        have hz : Hid (fidx f l 0 = i) := fidx_at f l i x HX.out h0 HT.out
        have H0 := Lib.hid h0; clear h0
        go_wp2_with (go_at_fn g; refine (HC.out _ hB).mono ?_; rintro e w' ⟨rfl, hB2⟩; rw [H0.out])
        go_ret
        exact ⟨by rw [hz.out]; rfl, below_below hB hB2 (Nat.le_refl _)⟩
    · have hz : Hid (fidx f l 0 = -1) := fidx_none f l (fun y hy => HT.out y (by rw [List.take_of_length_le (by rw [HM.out]; omega)]; exact hy))
      go_wp2
      go_ret
      exact ⟨by rw [hz.out]; rfl, hB⟩
theorem contI_gen (g : Nat) (cb : Array Value) (f : Nat → Bool) (a : Option Addr) (c : Nat) (l : List Nat) (w : World) (hn : l.length ≤ 9223372036854775807) (h1 : Rd i64n w a l) (eg : ∀ args w, (callFunc g args).run Try.prog w = .ok (.enter g args) w)
    (hg : ∀ W, Below w.heap.size w W → ∀ p ∈ l, Calls Try.prog g (#[.int .i64 (p : Int)] ++ cb) W fun e w' => e = .returned (.bool (f p)) ∧ Below W.heap.size W w') :
    Calls Try.prog 73 #[.slice a l.length c, .func (.func g) #[] cb] w fun e w' => e = .returned (.bool (l.any f)) ∧ Below w.heap.size w w' := by
  have H := Lib.hid (idxI_gen g cb f a c l w hn h1 eg hg)
  have HA := Lib.hid (fidx_any f l 0)
  clear h1 hg
  have q1 := HA.out.2.1
  have q2 := HA.out.2.2
  generalize hq : l.length = m at *
  have HD : Hid (decide (0 ≤ fidx f l 0) = l.any f) := HA.out.1
  generalize fidx f l 0 = v at *
  generalize l.any f = b at *
  go_enter Try.func73, Try.ntmps73
  go_wp2_with fail
  refine H.out.mono ?_
  rintro e w1 ⟨rfl, hB⟩
  cases b with
  | true =>
    have t1 : 0 ≤ v := of_decide_eq_true HD.out
    go_wp2
    go_ret
    exact ⟨rfl, hB⟩
  | false =>
    have t1 : v < 0 := by have := of_decide_eq_false HD.out; omega
    have t2 : decide (v ≥ 0) = false := HD.out
    go_wp2
    go_ret
    exact ⟨rfl, hB⟩

theorem idxH_gen (g : Nat) (cb : Array Value) (f : HistV → Bool) (a : Option Addr) (c : Nat) (l : List HistV) (w : World) (hn : l.length ≤ 9223372036854775807) (h1 : HRow w a l) (eg : ∀ args w, (callFunc g args).run Try.prog w = .ok (.enter g args) w)
    (hg : ∀ W, Below w.heap.size w W → ∀ p ∈ l, Calls Try.prog g (#[aggH p] ++ cb) W fun e w' => e = .returned (.bool (f p)) ∧ Below W.heap.size W w') :
    Calls Try.prog 55 #[.slice a l.length c, .func (.func g) #[] cb] w fun e w' => e = .returned (.int .i64 (fidx f l 0)) ∧ Below w.heap.size w w' := by
  have HP := Lib.hid hg
  have H1 := Lib.hid h1; clear h1 hg
  generalize hq : l.length = m at *
  have HM := Lib.hid hq; clear hq
  go_enter Try.func55, Try.ntmps55
  go_wp2_with fail
  go_loopw [8] (fun iv wr => ∃ i : Nat, i ≤ m ∧ iv = .int .i64 i ∧ Below w.heap.size w wr ∧ Aside (∀ y ∈ l.take i, f y = false)) (fun iv _ => m - (intOf iv).toNat)
  case atStart => exact ⟨0, Nat.zero_le _, rfl, Below.refl _ _, fun y hy => by simp at hy⟩
  case round =>
    obtain ⟨i, hi, rfl, hB, HT⟩ := hrel
    by_cases hlt : i < m
    · have hx : l[i]? = some (l[i]'(by rw [HM.out]; exact hlt)) := List.getElem?_eq_getElem _
      generalize l[i]'(by rw [HM.out]; exact hlt) = x at hx
      obtain ⟨b1, o1, rfl, e1, k0, k1, k2, k3, k4, k5, k6⟩ := H1.out.below hB i x hx
      have HX := Lib.hid hx
      have HC := Lib.hid (fun W hW => HP.out W hW x (List.mem_of_getElem? hx))
      clear hx
      unfold aggH at HC
      generalize x.pl.length = xpl at *
      generalize x.rl.length = xrl at *
      cases h0 : f x with
      | false =>
        have H0 := Lib.hid h0; clear h0
        go_wp2_with (go_at_fn g; refine (HC.out _ hB).mono ?_; rintro e w' ⟨rfl, hB2⟩; rw [H0.out])
        go_roundw
        case rel =>
          refine ⟨i + 1, by omega, by go_num, below_below hB hB2 (Nat.le_refl _), fun y hy => ?_⟩
          rw [List.take_add_one, HX.out] at hy
          rcases List.mem_append.1 hy with hy | hy
          · exact HT.out y hy
          · simp at hy; subst hy; exact H0.out
        case measure => simp [intOf]; omega
      | true =>
        have hz : Hid (fidx f l 0 = i) := fidx_at f l i x HX.out h0 HT.out
        have H0 := Lib.hid h0; clear h0
        go_wp2_with (go_at_fn g; refine (HC.out _ hB).mono ?_; rintro e w' ⟨rfl, hB2⟩; rw [H0.out])
        go_ret
        exact ⟨by rw [hz.out]; rfl, below_below hB hB2 (Nat.le_refl _)⟩
    · have hz : Hid (fidx f l 0 = -1) := fidx_none f l (fun y hy => HT.out y (by rw [List.take_of_length_le (by rw [HM.out]; omega)]; exact hy))
      go_wp2
      go_ret
      exact ⟨by rw [hz.out]; rfl, hB⟩
end Go.Proofs.Ytdgnhimiamchmaa
