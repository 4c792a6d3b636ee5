import Derived.Test.YtpohncdabngifaaT
import Derived.Test.YtpohncdabngifaaPlain2
namespace Go.Proofs.Ytpohncdabngifaa
open Go.RowKit

theorem round_any (k n : Int) (w : World) (h0 : 0 < n) (h1 : n ≤ 1000000) (hk : -9223372036854775808 ≤ k) (hk2 : k ≤ 9223372036854775807) :
    Calls Try.prog 11 #[.int .i64 k, .int .i64 n] w fun e w' => e = .returned (.int .i64 (k % n)) ∧ w = w' := by
  by_cases hp : 0 ≤ k
  · have h2 := Int.emod_nonneg k (show n ≠ 0 by omega)
    go_enter Try.func11, Try.ntmps11
    go_wp2
    go_ret
    exact ⟨rfl, rfl⟩
  · have h2 := Int.emod_nonneg k (show n ≠ 0 by omega)
    have h3 := Int.emod_lt_of_pos k h0
    have e := Int.tmod_eq_emod (a := k) (b := n)
    by_cases hd : n ∣ k
    · rw [if_pos (Or.inr hd)] at e
      have e0 : k % n = 0 := Int.emod_eq_zero_of_dvd hd
      rw [e0] at e ⊢
      have h4 : 0 ≤ k.tmod n := by omega
      have e1 : k.tmod n = 0 := by omega
      clear e hd h2 h3 e0
      go_enter Try.func11, Try.ntmps11
      go_wp2
      go_ret
      exact ⟨by first | rfl | rw [e1], rfl⟩
    · rw [if_neg (by rintro (h | h); exact hp h; exact hd h)] at e
      have e1 : k.tmod n + n = k % n := by omega
      have h4 : k.tmod n < 0 := by omega
      have h5 : -1000000 ≤ k.tmod n := by omega
      have E1 := Lib.hid e1
      clear e hd h2 h3 e1 hp
      go_enter Try.func11, Try.ntmps11
      go_wp2
      go_ret
      exact ⟨by rw [E1.out]; rfl, rfl⟩

theorem awake_any (w : World) : Calls Try.prog 8 #[] w fun e w' => e = .returned (.bool true) ∧ Below w.heap.size w w' := by
  go_enter Try.func8, Try.ntmps8
  go_wp2_with fail
  refine (new_ok 2 1 w (by omega) (by omega) (by omega) (by omega)).mono ?_
  rintro e w1 ⟨rfl, hA, hB⟩
  go_wp2_with fail
  refine (take_some _ _ _ _ false w1 0 hA (by decide) (Or.inr (by decide)) (by rfl)).mono ?_
  rintro e w2 ⟨rfl, hA2, hC2⟩
  go_wp2_with fail
  refine (take_none _ _ _ _ false w2 hA2 (Or.inr ⟨rfl, by decide⟩)).mono ?_
  rintro e w3 ⟨rfl, hB3⟩
  go_wp2_with fail
  refine (take_some _ _ _ _ true w3 1 (hA2.below' hB3) (by decide) (Or.inl rfl) (by rfl)).mono ?_
  rintro e w4 ⟨rfl, hA4, hC4⟩
  go_wp2
  go_ret
  exact ⟨rfl, below_chg (below_below (below_chg hB hC2 (Nat.le_refl _) (by rintro k rfl; exact Nat.le_refl _)) hB3 (Nat.le_refl _)) hC4 (Nat.le_refl _) (by rintro k rfl; exact Nat.le_refl _)⟩
end Go.Proofs.Ytpohncdabngifaa
