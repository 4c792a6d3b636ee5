import Derived.Test.YtfmjkpobphjgkaaH2
namespace Go.Proofs.Ytfmjkpobphjgkaa
open Go.RowKit
open BigFrame Lib
open Go.ChangeMaps (setBlock)

def low (D : BD) (now : Int) : Int := D.foldl (fun a p => min a p.2) now
theorem low_le : ∀ (D : BD) (now : Int), low D now ≤ now ∧ (low D now = now ∨ ∃ p ∈ D, low D now = p.2) ∧ ∀ p ∈ D, low D now ≤ p.2
  | [], now => ⟨Int.le_refl _, .inl rfl, fun p hp => by simp at hp⟩
  | q :: D, now => by
    have ih := low_le D (min now q.2)
    have e : low (q :: D) now = low D (min now q.2) := rfl
    rw [e]
    refine ⟨by omega, ?_, fun p hp => ?_⟩
    · rcases ih.2.1 with h | ⟨p, hp, h⟩
      · by_cases hq : now ≤ q.2
        · left; omega
        · right; exact ⟨q, by simp, by omega⟩
      · exact .inr ⟨p, by simp [hp], h⟩
    · rcases List.mem_cons.1 hp with rfl | hp
      · omega
      · exact ih.2.2 p hp
theorem low_of {D : BD} {now v : Int} (h1 : v ≤ now) (h2 : v = now ∨ ∃ p ∈ D, v = p.2) (h3 : ∀ p ∈ D, v ≤ p.2) : v = low D now := by
  obtain ⟨a, b, c⟩ := low_le D now
  rcases h2 with h | ⟨p, hp, h⟩
  · rcases b with g | ⟨q, hq, g⟩
    · omega
    · have := h3 q hq; omega
  · have := c p hp
    rcases b with g | ⟨q, hq, g⟩
    · omega
    · have := h3 q hq; omega

theorem low_nil (now : Int) (w : World) : Calls Try.prog 16 #[.pointer none, .int .i64 now] w fun e w' => e = .returned (.int .i64 now) ∧ w = w' := by
  go_enter Try.func16, Try.ntmps16
  go_wp2
  go_ret
  exact ⟨rfl, rfl⟩

set_option maxRecDepth 100000 in
theorem low_any {g r : Nat} {most last : Int} {D : BD} (now : Int) (w : World) (hM : BookAt w g r most last D) :
    Calls Try.prog 16 #[.pointer (some ⟨g, 0, none⟩), .int .i64 now] w fun e w' => e = .returned (.int .i64 (low D now)) ∧ Below w.heap.size w w' := by
  have c2 := hM.c2
  obtain ⟨o, ho, hR⟩ := map_range (P := Try.prog) hM.map Try.underlying48
  clear hM
  go_enter Try.func16, Try.ntmps16
  go_wp2_with fail
  have hB0 : Below w.heap.size w (w.alloc o) := (Below.refl _ w).alloc (Nat.le_refl _) _
  generalize hit : w.heap.size = it at *
  generalize w.alloc o = w2 at *
  clear ho
  go_loopg [1] (bm D).length (fun k nv wr => Below it w wr ∧ ∃ (left : IM) (v : Int), k = left.length ∧ RangeIs wr it r (bm D) left ∧ nv = .int .i64 v ∧ v ≤ now ∧ (v = now ∨ ∃ p ∈ D, v = p.2) ∧ ∀ p ∈ D, (p.1, Value.int .i64 p.2) ∈ left ∨ v ≤ p.2)
  case atStart => exact ⟨hB0, bm D, now, rfl, hR, rfl, Int.le_refl _, .inl rfl, fun p hp => .inl (List.mem_map.2 ⟨p, hp, rfl⟩)⟩
  case round =>
    obtain ⟨hB, left, v, hk, hR1, rfl, hv1, hv2, hall⟩ := hrel
    have HK := Lib.hid hk; have HALL := Lib.hid hall; have HV2 := Lib.hid hv2; have HV1 := Lib.hid hv1; clear hk hall hv2 hv1
    rcases range_next (P := Try.prog) hR1 0 with ⟨hl0, hn0⟩ | ⟨p, left', w', hp1, hp2, hp3, hp4, hp5, hn1, hn2, hR2, hC2, hs2⟩
    · have hd : Hid (v = low D now) := by
        subst hl0
        exact low_of HV1.out HV2.out (fun p hp => by rcases HALL.out p hp with h | h; simp at h; exact h)
      go_wp2
      go_ret
      exact ⟨by rw [hd.out]; rfl, by rw [hit]; exact hB⟩
    · have hit' : it < wr.heap.size := hR1.lt
      have hBn : Below it w w' := hB.trans (hC2.below (by omega) (fun k hk e => by omega))
      obtain ⟨q, hq, rfl⟩ := List.mem_map.1 hp2
      obtain ⟨qk, qt⟩ := q
      simp only at hn1 hn2
      have P3 := Lib.hid hp3; have P5 := Lib.hid hp5; have HQ := Lib.hid hq
      clear hp1 hp2 hp3 hp4 hp5 hq
      go_wp2
      go_roundg left'.length
      case measure => rw [HK.out]; exact P5.out
      case rel =>
        refine ⟨hBn, left', min v qt, rfl, hR2, rfl, by have := HV1.out; omega, ?_, fun p hp => ?_⟩
        · by_cases e : v ≤ qt
          · rw [Int.min_eq_left e]; exact HV2.out
          · right; exact ⟨_, HQ.out, by show min v qt = qt; omega⟩
        · rcases HALL.out p hp with h1 | h1
          · rcases P3.out _ h1 with h2 | h2
            · simp only [Prod.mk.injEq, Value.int.injEq, true_and] at h2
              right; omega
            · exact .inl h2
          · right; omega

theorem open_ok {g r : Nat} {most last : Int} {D : BD} (t : Int) (w : World) (hM : BookAt w g r most last D) (hl : last < 1000000) (hc : ocode most D.length t = 0) :
    Calls Try.prog 10 #[.pointer (some ⟨g, 0, none⟩), .int .i64 t] w fun e w' => e = .returned (.tuple #[.int .i64 (last + 1), .int .i64 0]) ∧
      Chg (fun k => k = g ∨ k = r) w w' ∧ BookAt w' g r most (last + 1) (D ++ [(last + 1, t)]) := by
  have := open_any t w hM hl
  unfold omore olast at this
  rw [hc] at this
  exact this

set_option maxRecDepth 100000 in
theorem awake_any (w : World) : Calls Try.prog 8 #[] w fun e w' => e = .returned (.bool true) ∧ Below w.heap.size w w' := by
  go_enter Try.func8, Try.ntmps8
  go_wp2_with fail
  refine (new_any 5 w).mono ?_
  rintro e w1 ⟨rfl, hB1, hM1⟩
  have hs1 := hB1.size
  have HR1 := hM1.map.lt
  generalize hr : w.heap.size = r at *
  have O1 := Lib.hid (open_ok 5 w1 hM1 (by omega) (by decide))
  clear hM1
  go_wp2_with fail
  refine O1.out.mono ?_
  rintro e w2 ⟨rfl, hC2, hM2⟩
  have hB2 : Below r w w2 := hB1.trans (hC2.below (by omega) (fun k hk e => by omega))
  have hM2' : BookAt w2 (r + 1) r 5 1 [(1, 5)] := hM2
  have O2 := Lib.hid (open_ok 3 w2 hM2' (by omega) (by decide))
  clear hM2 hM2'
  go_wp2_with fail
  refine O2.out.mono ?_
  rintro e w3 ⟨rfl, hC3, hM3⟩
  have hB3 : Below r w w3 := hB2.trans (hC3.below (by have := hC2.size; omega) (fun k hk e => by omega))
  have hM3' : BookAt w3 (r + 1) r 5 2 [(1, 5), (2, 3)] := hM3
  have L3 := low_any 9 w3 hM3'
  have e3 : low [(1, 5), (2, 3)] 9 = 3 := by decide
  rw [e3] at L3
  have HL3 := Lib.hid L3
  clear hM3 hM3' L3 O1 O2 e3
  go_wp2_with fail
  refine HL3.out.mono ?_
  rintro e w4 ⟨rfl, hB4⟩
  go_wp2
  go_ret
  exact ⟨rfl, by rw [hr]; exact hB3.trans (hB4.mono (by have := hB3.size; omega))⟩

set_option maxRecDepth 100000 in
theorem nothing_any (t now : Int) (w : World) (_h0 : -9223372036854775808 ≤ t) (_h1 : t ≤ 9223372036854775807) (_h2 : -9223372036854775808 ≤ now) (_h3 : now ≤ 9223372036854775807) :
    Calls Try.prog 5 #[.int .i64 t, .int .i64 now] w fun e w' => e = .returned (.bool true) ∧ Below w.heap.size w w' := by
  have HAW := Lib.hid awake_any
  by_cases ht : t < 0 ∨ 1099511627776 < t
  · have O1 := Lib.hid (open_arg none t w ht)
    by_cases ht1 : t < 0
    all_goals
      first
      | have ht2 : decide (t < 0) = true := by simpa using ht1
      | (have ht2 : decide (t < 0) = false := by simpa using ht1
         have ht3 : 1099511627776 < t := by omega
         have ht4 : decide (1099511627776 < t) = true := by simpa using ht3)
      clear ht ht1
      go_enter Try.func5, Try.ntmps5
      go_wp2_with fail
      refine O1.out.mono ?_
      rintro e w' ⟨rfl, rfl⟩
      go_wp2_with fail
      refine (at_nil _ _).mono ?_
      rintro e w' ⟨rfl, rfl⟩
      go_wp2_with fail
      refine (close_nil _ _).mono ?_
      rintro e w' ⟨rfl, rfl⟩
      go_wp2_with fail
      refine (low_nil _ _).mono ?_
      rintro e w' ⟨rfl, rfl⟩
      go_wp2_with fail
      refine (count_nil _).mono ?_
      rintro e w' ⟨rfl, rfl⟩
      go_wp2_with fail
      refine (list_nil _).mono ?_
      rintro e w' ⟨rfl, rfl⟩
      go_wp2_with fail
      refine (HAW.out _).mono ?_
      rintro e w5 ⟨rfl, hB5⟩
      go_wp2
      go_ret
      exact ⟨rfl, hB5⟩
  · have O1 := Lib.hid (open_nil t w (by omega) (by omega))
    have ht2 : decide (t < 0) = false := by simp; omega
    have ht4 : decide (1099511627776 < t) = false := by simp; omega
    clear ht
    go_enter Try.func5, Try.ntmps5
    go_wp2_with fail
    refine O1.out.mono ?_
    rintro e w' ⟨rfl, rfl⟩
    go_wp2_with fail
    refine (at_nil _ _).mono ?_
    rintro e w' ⟨rfl, rfl⟩
    go_wp2_with fail
    refine (close_nil _ _).mono ?_
    rintro e w' ⟨rfl, rfl⟩
    go_wp2_with fail
    refine (low_nil _ _).mono ?_
    rintro e w' ⟨rfl, rfl⟩
    go_wp2_with fail
    refine (count_nil _).mono ?_
    rintro e w' ⟨rfl, rfl⟩
    go_wp2_with fail
    refine (list_nil _).mono ?_
    rintro e w' ⟨rfl, rfl⟩
    go_wp2_with fail
    refine (HAW.out _).mono ?_
    rintro e w5 ⟨rfl, hB5⟩
    go_wp2
    go_ret
    exact ⟨rfl, hB5⟩
end Go.Proofs.Ytfmjkpobphjgkaa
