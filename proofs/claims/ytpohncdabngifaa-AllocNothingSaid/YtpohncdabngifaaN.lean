import Derived.Test.YtpohncdabngifaaW
namespace Go.Proofs.Ytpohncdabngifaa
open Go.RowKit
open BigFrame

theorem take_nil (r : Bool) (w : World) : Calls Try.prog 10 #[.pointer none, .bool r] w fun e w' => e = .returned (.tuple #[.int .i64 0, .int .i64 9]) ∧ Below w.heap.size w w' := by
  have HC := Lib.hid (fun (n : Nat) => Calls.quiet_of_same ((count_nil (w.drewN n)).mono fun e w' ⟨h1, h2⟩ => ⟨h1, h2.symm⟩))
  go_enter Try.func10, Try.ntmps10
  go_wp2_with fail
  go_step3
  go_wp2_with fail
  go_quiet (exact HC.out _)
  go_wp2
  rw [Exit.noGoto_ret]
  go_ret2
  exact ⟨rfl, below_drewN (Below.refl _ _) _⟩

theorem nothing_any (z s k : Int) (w : World) : Calls Try.prog 7 #[.int .i64 z, .int .i64 s, .int .i64 k] w fun e w' => e = .returned (.bool true) ∧ Below w.heap.size w w' := by
  by_cases hbad : z < 1 ∨ 64 < z ∨ s < 0 ∨ z < s
  · have hN := Lib.hid (fun W => new_bad z s W hbad)
    have hc : z < 1 ∨ (1 ≤ z ∧ 64 < z) ∨ (1 ≤ z ∧ z ≤ 64 ∧ s < 0) ∨ (1 ≤ z ∧ z ≤ 64 ∧ 0 ≤ s ∧ z < s) := by omega
    clear hbad
    rcases hc with h1 | ⟨h1, h2⟩ | ⟨h1, h2, h3⟩ | ⟨h1, h2, h3, h4⟩
    all_goals
      try have h5 : decide (s ≤ z) = false := by (simp; omega)
      go_enter Try.func7, Try.ntmps7
      go_wp2_with fail
      refine (take_nil _ _).mono ?_
      rintro e w1 ⟨rfl, hB⟩
      go_wp2_with fail
      refine (hN.out _).mono ?_
      rintro e w2 ⟨rfl, rfl⟩
      go_wp2_with (first | (go_at_call 12; refine (free_nil _ _).mono ?_; rintro e w' ⟨rfl, rfl⟩) | (go_at_call 18; refine (mark_nil _ _).mono ?_; rintro e w' ⟨rfl, rfl⟩) | (go_at_call 13; refine (count_nil _).mono ?_; rintro e w' ⟨rfl, rfl⟩) | (go_at_call 14; refine (wear_nil _ _).mono ?_; rintro e w' ⟨rfl, rfl⟩) | (go_at_call 22; refine (list_nil _).mono ?_; rintro e w' ⟨rfl, rfl⟩))
      refine (awake_any _).mono ?_
      rintro e w3 ⟨rfl, hB3⟩
      go_wp2
      go_ret
      exact ⟨rfl, below_below hB hB3 (Nat.le_refl _)⟩
  · obtain ⟨zn, rfl⟩ := Int.eq_ofNat_of_zero_le (show 0 ≤ z by omega)
    have h1 : (1 : Int) ≤ zn := by omega
    have h2 : (zn : Int) ≤ 64 := by omega
    have h3 : 0 ≤ s := by omega
    have h4 : s ≤ zn := by omega
    have h5 : decide (s ≤ (zn : Int)) = true := by simp; omega
    clear hbad
    go_enter Try.func7, Try.ntmps7
    go_wp2_with fail
    refine (take_nil _ _).mono ?_
    rintro e w1 ⟨rfl, hB⟩
    go_wp2_with fail
    refine (new_ok zn s w1 (by omega) (by omega) h3 h4).mono ?_
    rintro e w2 ⟨rfl, hA, hB2⟩
    go_wp2_with (first | (go_at_call 12; refine (free_nil _ _).mono ?_; rintro e w' ⟨rfl, rfl⟩) | (go_at_call 18; refine (mark_nil _ _).mono ?_; rintro e w' ⟨rfl, rfl⟩) | (go_at_call 13; refine (count_nil _).mono ?_; rintro e w' ⟨rfl, rfl⟩) | (go_at_call 14; refine (wear_nil _ _).mono ?_; rintro e w' ⟨rfl, rfl⟩) | (go_at_call 22; refine (list_nil _).mono ?_; rintro e w' ⟨rfl, rfl⟩))
    refine (awake_any _).mono ?_
    rintro e w3 ⟨rfl, hB3⟩
    go_wp2
    go_ret
    exact ⟨rfl, below_below (below_below hB hB2 (Nat.le_refl _)) hB3 (Nat.le_refl _)⟩
end Go.Proofs.Ytpohncdabngifaa
