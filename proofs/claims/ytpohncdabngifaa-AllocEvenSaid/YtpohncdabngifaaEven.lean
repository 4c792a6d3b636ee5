import Derived.Test.YtpohncdabngifaaW
namespace Go.Proofs.Ytpohncdabngifaa
open Go.RowKit

/-- the zones behind i turns -/
def evn (z i : Nat) : List Z := (List.range z).map fun j => (false, ((i / z : Nat) : Int) + if j < i % z then 1 else 0)
theorem evn_len (z i : Nat) : (evn z i).length = z := by simp [evn]
theorem evn_tk (z i j : Nat) (h : j < z) : tk (evn z i) j = false := by simp [tk, evn, List.getD, h]
theorem evn_wear (z i j : Nat) (h : j < z) : wear (evn z i) j = ((i / z : Nat) : Int) + if j < i % z then 1 else 0 := by simp [wear, evn, List.getD, h]
theorem evn_zero (z : Nat) : evn z 0 = List.replicate z (false, 0) := by
  apply List.ext_getElem?
  intro j
  by_cases h : j < z
  · simp [evn, h]
  · simp [evn, h]
theorem evn_cnt (z i : Nat) : cnt (evn z i) = z := by
  have : ∀ n, n ≤ z → (frees (evn z i) n).length = n := by
    intro n
    induction n with
    | zero => simp [frees]
    | succ n ih => intro h; rw [fl_succ, ih (by omega), evn_tk _ _ _ (by omega)]; simp
  simpa [cnt, evn_len] using this z (Nat.le_refl z)
theorem evn_bst (z i : Nat) (n : Nat) (hn : n ≤ z) (h0 : 0 < n) : bst (evn z i) n = if n ≤ i % z then some 0 else some (i % z) := by
  induction n with
  | zero => omega
  | succ n ih =>
    simp only [bst]
    by_cases hz : n = 0
    · subst hz
      rw [evn_tk _ _ _ (by omega)]
      simp only [bst, Bool.false_eq_true, if_false]
      split
      · rfl
      · congr 1; omega
    · rw [ih (by omega) (by omega), evn_tk _ _ _ (by omega)]
      by_cases h1 : n ≤ i % z
      · rw [if_pos h1]
        simp only [Bool.false_eq_true, false_or]
        rw [evn_wear _ _ _ (by omega), evn_wear _ _ _ (by omega)]
        by_cases h2 : n < i % z
        · rw [if_pos h2, if_pos (show 0 < i % z by omega), if_pos (Int.le_refl _), if_pos (show n + 1 ≤ i % z by omega)]
        · rw [if_neg h2, if_pos (show 0 < i % z by omega), if_neg (by omega), if_neg (show ¬ n + 1 ≤ i % z by omega)]
          congr 1; omega
      · rw [if_neg h1]
        simp only [Bool.false_eq_true, false_or]
        rw [evn_wear _ _ _ (by omega), evn_wear _ _ _ (by omega), if_neg (show ¬ n < i % z by omega), if_neg (show ¬ i % z < i % z by omega), if_pos (Int.le_refl _), if_neg (show ¬ n + 1 ≤ i % z by omega)]
theorem evn_best (z i : Nat) (h : 0 < z) : bst (evn z i) (evn z i).length = some (i % z) := by
  have := Nat.mod_lt i h
  rw [evn_len, evn_bst z i z (Nat.le_refl _) h, if_neg (by omega)]
theorem evn_succ (z i : Nat) (h : 0 < z) : ((evn z i).set (i % z) (true, wear (evn z i) (i % z))).set (i % z) (false, wear (evn z i) (i % z) + 1) = evn z (i + 1) := by
  have hr := Nat.mod_lt i h
  have hd := Nat.div_add_mod i z
  rw [List.set_set, evn_wear _ _ _ hr, if_neg (by omega)]
  generalize hq : i / z = q at *
  generalize hm : i % z = r at *
  have hs : (i + 1) / z = (if r + 1 = z then q + 1 else q) ∧ (i + 1) % z = (if r + 1 = z then 0 else r + 1) := by
    by_cases e : r + 1 = z
    · rw [if_pos e, if_pos e]
      exact (Nat.div_mod_unique h).2 ⟨by rw [Nat.mul_succ]; omega, h⟩
    · rw [if_neg e, if_neg e]
      exact (Nat.div_mod_unique h).2 ⟨by omega, by omega⟩
  apply List.ext_getElem?
  intro j
  by_cases hj : j < z
  · rw [List.getElem?_set]
    by_cases e : r = j
    · subst e
      rw [if_pos rfl, if_pos (by simpa [evn] using hj)]
      simp only [evn, List.getElem?_map, List.getElem?_range hj, Option.map_some, hs.1, hs.2]
      by_cases e2 : r + 1 = z
      · rw [if_pos e2, if_pos e2, if_neg (by omega)]; simp
      · rw [if_neg e2, if_neg e2, if_pos (by omega)]; simp
    · rw [if_neg e]
      simp only [evn, List.getElem?_map, List.getElem?_range hj, Option.map_some, hs.1, hs.2, hq, hm]
      by_cases e2 : r + 1 = z
      · rw [if_pos e2, if_pos e2, if_pos (show j < r by omega), if_neg (by omega)]; simp
      · rw [if_neg e2, if_neg e2]
        by_cases h3 : j < r
        · rw [if_pos h3, if_pos (by omega)]
        · rw [if_neg h3, if_neg (by omega)]
  · rw [List.getElem?_eq_none (by simpa [evn] using Nat.le_of_not_lt hj), List.getElem?_eq_none (by simpa [evn] using Nat.le_of_not_lt hj)]

set_option maxHeartbeats 1000000 in
theorem even_any (z t : Int) (w : World) : Calls Try.prog 4 #[.int .i64 z, .int .i64 t] w fun e w' => e = .returned (.bool true) ∧ Below w.heap.size w w' := by
  by_cases hbad : z < 1 ∨ 64 < z ∨ t < 0 ∨ 300 < t
  · have hc : z < 1 ∨ (1 ≤ z ∧ 64 < z) ∨ (1 ≤ z ∧ z ≤ 64 ∧ t < 0) ∨ (1 ≤ z ∧ z ≤ 64 ∧ 0 ≤ t ∧ 300 < t) := by omega
    clear hbad
    rcases hc with h1 | ⟨h1, h2⟩ | ⟨h1, h2, h3⟩ | ⟨h1, h2, h3, h4⟩
    all_goals
      go_enter Try.func4, Try.ntmps4
      go_wp2_with fail
      refine (awake_any _).mono ?_
      rintro e w3 ⟨rfl, hB3⟩
      go_wp2
      go_ret
      exact ⟨rfl, hB3⟩
  · obtain ⟨n, rfl⟩ := Int.eq_ofNat_of_zero_le (show 0 ≤ z by omega)
    obtain ⟨m, rfl⟩ := Int.eq_ofNat_of_zero_le (show 0 ≤ t by omega)
    have h1 : (1 : Int) ≤ n := by omega
    have h2 : (n : Int) ≤ 64 := by omega
    have h4 : (m : Int) ≤ 300 := by omega
    clear hbad
    go_enter Try.func4, Try.ntmps4
    go_wp2_with fail
    refine (new_ok n 0 w (by omega) (by omega) (by omega) (by omega)).mono ?_
    rintro e w1 ⟨rfl, hA, hB⟩
    rw [← evn_zero] at hA
    go_wp2_with fail
    go_loopw [7] (fun iv wr => ∃ i : Nat, i ≤ m ∧ iv = .int .i64 i ∧ Below w.heap.size w wr ∧ AllocAt wr (w.heap.size + 1) w.heap.size (evn n i) 0) (fun iv _ => m - (intOf iv).toNat)
    case atStart => exact ⟨0, Nat.zero_le _, rfl, hB, hA⟩
    case round =>
      obtain ⟨i, hi, rfl, hB, hA⟩ := hrel
      by_cases hlt : i < m
      · go_wp2_with fail
        refine (take_some _ _ _ _ false wr (i % n) hA (by rw [evn_cnt]; omega) (Or.inr (by rw [evn_cnt]; omega)) (evn_best n i (by omega))).mono ?_
        rintro e w2 ⟨rfl, hA2, hC2⟩
        go_wp2_with fail
        rw [← Int.natCast_emod i n]
        have hr := Nat.mod_lt i (show 0 < n by omega)
        have hw0 : wear ((evn n i).set (i % n) (true, wear (evn n i) (i % n))) (i % n) = (i / n : Nat) := by
          rw [wear_self _ _ _ (by rw [evn_len]; exact hr), evn_wear _ _ _ hr, if_neg (by omega), Int.add_zero]
        have hdiv : i / n ≤ i := Nat.div_le_self i n
        refine (free_in _ _ _ _ (i % n) w2 hA2 (by simpa [evn_len] using hr) (by rw [hw0]; exact Int.natCast_nonneg _) (by rw [hw0]; have : ((i / n : Nat) : Int) ≤ (i : Int) := Int.ofNat_le.2 hdiv; omega)).mono ?_
        rintro e w3 ⟨rfl, hA3, hC3⟩
        rw [tk_self _ _ _ (by rw [evn_len]; exact hr)] at hA3 ⊢
        rw [if_pos rfl] at hA3 ⊢
        rw [hw0] at hA3
        have hA4 : AllocAt w3 (w.heap.size + 1) w.heap.size (evn n (i + 1)) 0 := by
          rw [← evn_succ n i (by omega)]
          rw [evn_wear _ _ _ hr, if_neg (by omega), Int.add_zero] at hA3 ⊢
          exact hA3
        have hB3 := below_chg (below_chg hB hC2 (Nat.le_refl _) (by rintro k rfl; exact Nat.le_refl _)) hC3 (Nat.le_refl _) (by rintro k rfl; exact Nat.le_refl _)
        clear hA hA2 hA3 hC2 hC3 hB hw0 hdiv
        go_wp2
        go_roundw
        case rel => exact ⟨i + 1, by omega, by go_num, hB3, hA4⟩
        case measure => simp [intOf]; omega
      · have him : i = m := by omega
        subst him
        clear hlt
        go_wp2_with fail
        go_loopw [10] (fun jv wr => ∃ j : Nat, j ≤ n ∧ jv = .int .i64 j ∧ Below w.heap.size w wr ∧ AllocAt wr (w.heap.size + 1) w.heap.size (evn n i) 0) (fun jv _ => n - (intOf jv).toNat)
        case atStart => exact ⟨0, Nat.zero_le _, rfl, hB, hA⟩
        case round =>
          clear hA hB
          obtain ⟨j, hj, rfl, hB, hA⟩ := hrel
          by_cases hlt : j < n
          · go_wp2_with fail
            refine (wear_in _ _ _ _ j wr hA (by rw [evn_len]; exact hlt)).mono ?_
            rintro e w3 ⟨rfl, rfl⟩
            rw [evn_wear _ _ _ hlt]
            have hdd : ((i / n : Nat) : Int) ≤ 300 := by have : ((i / n : Nat) : Int) ≤ (i : Int) := Int.ofNat_le.2 (Nat.div_le_self i n); omega
            have hde : ((i : Int) / (n : Int)) = ((i / n : Nat) : Int) := (Int.natCast_ediv i n).symm
            generalize i / n = q at hdd hde ⊢
            have hq0 : (0 : Int) ≤ q := Int.natCast_nonneg q
            by_cases hjr : j < i % n
            · rw [if_pos hjr]
              have HA := Lib.hid hA
              clear hA hjr
              go_wp2
              go_roundw
              case rel => exact ⟨j + 1, by omega, by go_num, hB, HA.out⟩
              case measure => simp [intOf]; omega
            · rw [if_neg hjr]
              have HA := Lib.hid hA
              clear hA hjr
              go_wp2
              go_roundw
              case rel => exact ⟨j + 1, by omega, by go_num, hB, HA.out⟩
              case measure => simp [intOf]; omega
          · have hjn : j = n := by omega
            subst hjn
            go_wp2_with fail
            refine (awake_any _).mono ?_
            rintro e w3 ⟨rfl, hB3⟩
            go_wp2
            go_ret
            exact ⟨rfl, below_below hB hB3 (Nat.le_refl _)⟩
end Go.Proofs.Ytpohncdabngifaa
