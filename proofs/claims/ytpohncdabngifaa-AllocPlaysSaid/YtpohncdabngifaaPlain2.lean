import Derived.Test.YtpohncdabngifaaA
namespace Go.Proofs.Ytpohncdabngifaa
open Go.RowKit

theorem fl_succ (zs : List Z) (n : Nat) : (frees zs (n + 1)).length = (frees zs n).length + (if tk zs n = true then 0 else 1) := by
  simp only [frees]; split <;> simp
theorem tk_self (zs : List Z) (i : Nat) (z : Z) (hi : i < zs.length) : tk (zs.set i z) i = z.1 := by rw [tk_set, if_pos ⟨rfl, hi⟩]
theorem tk_other (zs : List Z) (i j : Nat) (z : Z) (h : i ≠ j) : tk (zs.set i z) j = tk zs j := by rw [tk_set, if_neg (by rintro ⟨h1, _⟩; exact h h1)]
theorem wear_self (zs : List Z) (i : Nat) (z : Z) (hi : i < zs.length) : wear (zs.set i z) i = z.2 := by rw [wear_set, if_pos ⟨rfl, hi⟩]
theorem wear_other (zs : List Z) (i j : Nat) (z : Z) (h : i ≠ j) : wear (zs.set i z) j = wear zs j := by rw [wear_set, if_neg (by rintro ⟨h1, _⟩; exact h h1)]
theorem fl_set_true (zs : List Z) (i : Nat) (x : Int) (hi : i < zs.length) (h : tk zs i = false) (n : Nat) : (frees (zs.set i (true, x)) n).length + (if i < n then 1 else 0) = (frees zs n).length := by
  induction n with
  | zero => simp [frees]
  | succ n ih =>
    rw [fl_succ, fl_succ]
    by_cases e : i = n
    · subst e
      rw [tk_self _ _ _ hi, h]
      simp only [if_true, Bool.false_eq_true, if_false]
      rw [if_pos (by omega)]
      rw [if_neg (by omega)] at ih
      omega
    · rw [tk_other _ _ _ _ e]
      by_cases h2 : i < n
      · rw [if_pos h2] at ih; rw [if_pos (show i < n + 1 by omega)]; omega
      · rw [if_neg h2] at ih; rw [if_neg (show ¬ i < n + 1 by omega)]; omega
theorem fl_set_false (zs : List Z) (i : Nat) (x : Int) (hi : i < zs.length) (h : tk zs i = true) (n : Nat) : (frees (zs.set i (false, x)) n).length = (frees zs n).length + (if i < n then 1 else 0) := by
  induction n with
  | zero => simp [frees]
  | succ n ih =>
    rw [fl_succ, fl_succ]
    by_cases e : i = n
    · subst e
      rw [tk_self _ _ _ hi, h]
      simp only [if_true, Bool.false_eq_true, if_false]
      rw [if_pos (by omega)]
      rw [if_neg (by omega)] at ih
      omega
    · rw [tk_other _ _ _ _ e]
      by_cases h2 : i < n
      · rw [if_pos h2] at ih; rw [if_pos (show i < n + 1 by omega)]; omega
      · rw [if_neg h2] at ih; rw [if_neg (show ¬ i < n + 1 by omega)]; omega
theorem cnt_take (zs : List Z) (i : Nat) (x : Int) (hi : i < zs.length) (h : tk zs i = false) : cnt (zs.set i (true, x)) + 1 = cnt zs := by
  have := fl_set_true zs i x hi h zs.length
  rw [if_pos hi] at this
  simpa [cnt] using this
theorem cnt_free (zs : List Z) (i : Nat) (x : Int) (hi : i < zs.length) (h : tk zs i = true) : cnt (zs.set i (false, x)) = cnt zs + 1 := by
  have := fl_set_false zs i x hi h zs.length
  rw [if_pos hi] at this
  simpa [cnt] using this
theorem bst_free (zs : List Z) (n m : Nat) (h : bst zs n = some m) : tk zs m = false := by
  induction n generalizing m with
  | zero => simp [bst] at h
  | succ n ih =>
    simp only [bst] at h
    split at h
    · split at h
      · cases h
      · rename_i hn; cases h; simpa using hn
    · rename_i c hc
      split at h
      · cases h; exact ih _ hc
      · rename_i hn; cases h; simp only [not_or] at hn; simpa using hn.1
theorem bst_some (zs : List Z) (n : Nat) (h : 0 < (frees zs n).length) : ∃ m, bst zs n = some m := by
  induction n with
  | zero => simp [frees] at h
  | succ n ih =>
    simp only [bst]
    cases hb : bst zs n with
    | some c => dsimp only; split <;> exact ⟨_, rfl⟩
    | none =>
      dsimp only
      have h0 : ¬ 0 < (frees zs n).length := by
        intro h1
        obtain ⟨m, hm⟩ := ih h1
        rw [hb] at hm; cases hm
      rw [fl_succ] at h
      by_cases ht : tk zs n = true
      · rw [if_pos ht] at h; omega
      · rw [if_neg ht]; exact ⟨_, rfl⟩
theorem tk_rep (z i : Nat) (b : Bool) (x : Int) (h : i < z) : tk (List.replicate z (b, x)) i = b := by simp [tk, List.getD, h]
theorem wear_rep (z i : Nat) (b : Bool) (x : Int) (h : i < z) : wear (List.replicate z (b, x)) i = x := by simp [wear, List.getD, h]
theorem cnt_rep (z : Nat) (x : Int) : cnt (List.replicate z (false, x)) = z := by
  have : ∀ n, n ≤ z → (frees (List.replicate z (false, x)) n).length = n := by
    intro n
    induction n with
    | zero => simp [frees]
    | succ n ih => intro h; rw [fl_succ, ih (by omega), tk_rep _ _ _ _ (by omega)]; simp
  simpa [cnt] using this z (Nat.le_refl z)
end Go.Proofs.Ytpohncdabngifaa
