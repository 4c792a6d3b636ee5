import Derived.Test.YtdgnhimiamchmaaLib
import Derived.Sort.LotA
namespace Go.Proofs.Ytdgnhimiamchmaa
open Go.Sort

/-! plain facts: a permutation that is sorted by a strict order is the only one -/
theorem sorted_unique {α : Type} {R : α → α → Prop} (ha : ∀ a b, R a b → ¬ R b a) : ∀ (l1 l2 : List α), l1.Perm l2 → l1.Pairwise R → l2.Pairwise R → l1 = l2
  | [], l2, hp, _, _ => (List.nil_perm.1 hp).symm
  | a :: l1, [], hp, _, _ => by have := hp.length_eq; simp at this
  | a :: l1, b :: l2, hp, h1, h2 => by
    rw [List.pairwise_cons] at h1 h2
    have hab : a = b := by
      have m1 : a ∈ b :: l2 := hp.mem_iff.1 (by simp)
      have m2 : b ∈ a :: l1 := hp.mem_iff.2 (by simp)
      rcases List.mem_cons.1 m1 with h | h
      · exact h
      · rcases List.mem_cons.1 m2 with h' | h'
        · exact h'.symm
        · exact (ha _ _ (h2.1 a h) (h1.1 b h')).elim
    subst hab
    rw [sorted_unique ha l1 l2 ((List.perm_cons a).1 hp) h1.2 h2.2]

/-- the order of a stable sort: by the key, then by the place -/
def Ks {α : Type} (key : α → Int) (pos : α → Nat) (x y : α) : Prop := key x < key y ∨ (key x = key y ∧ pos x < pos y)
theorem Ks.asymm {α : Type} {key : α → Int} {pos : α → Nat} (a b : α) (h : Ks key pos a b) : ¬ Ks key pos b a := by
  unfold Ks at *; omega
theorem Ks.le {α : Type} {key : α → Int} {pos : α → Nat} {a b : α} (h : Ks key pos a b) : key a ≤ key b := by
  unfold Ks at h; omega

section
variable {α : Type} [Inhabited α]

theorem get_mid (P S : List α) (x : α) {i : Nat} (hi : P.length = i) : (P ++ x :: S).toArray[i]! = x := by
  subst hi; simp
theorem swp_mid (P M S : List α) (x y : α) {i j : Nat} (hi : P.length = i) (hj : i + 1 + M.length = j) : swp (P ++ x :: (M ++ y :: S)).toArray i j = (P ++ y :: (M ++ x :: S)).toArray := by
  have e1 : (P ++ x :: (M ++ y :: S)).toArray[i]! = x := get_mid P _ x hi
  have e2 : (P ++ x :: (M ++ y :: S)).toArray[j]! = y := by
    have := get_mid (P ++ x :: M) S y (i := j) (by simp; omega)
    simpa using this
  unfold swp
  rw [e1, e2, List.setIfInBounds_toArray, List.setIfInBounds_toArray]
  congr 1
  subst hi
  rw [List.set_append_right _ _ (Nat.le_refl _), Nat.sub_self, List.set_cons_zero, List.set_append_right _ _ (by omega), show j - P.length = M.length + 1 by omega, List.set_cons_succ, List.set_append_right _ _ (Nat.le_refl _), Nat.sub_self, List.set_cons_zero]
theorem swp_comm (d : Array α) {i j : Nat} (hi : i < d.size) (hj : j < d.size) : swp d i j = swp d j i := by
  unfold swp
  by_cases e : i = j
  · subst e; rfl
  · rw [Array.setIfInBounds_comm _ _ e]

/-- m exchanges, from a and b on -/
def swps (d : Array α) (a b : Nat) : Nat → Array α
  | 0 => d
  | i + 1 => swp (swps d a b i) (a + i) (b + i)
@[simp] theorem size_swps (d : Array α) (a b : Nat) : ∀ i, (swps d a b i).size = d.size
  | 0 => rfl
  | i + 1 => by rw [swps, size_swp, size_swps d a b i]
theorem swps_app (P : List α) : ∀ (n : Nat) (X M Y S : List α), X.length = n → Y.length = n → ∀ b, P.length + n + M.length = b → swps (P ++ X ++ M ++ Y ++ S).toArray P.length b n = (P ++ Y ++ M ++ X ++ S).toArray
  | 0, X, M, Y, S, hX, hY, b, _ => by
    rw [List.length_eq_zero_iff] at hX hY; subst hX hY; rfl
  | n + 1, X, M, Y, S, hX, hY, b, hb => by
    obtain ⟨X', x, rfl⟩ : ∃ X' x, X = X' ++ [x] := by
      rcases List.eq_nil_or_concat X with h | ⟨X', x, h⟩
      · subst h; simp at hX
      · exact ⟨X', x, by rw [h, List.concat_eq_append]⟩
    obtain ⟨Y', y, rfl⟩ : ∃ Y' y, Y = Y' ++ [y] := by
      rcases List.eq_nil_or_concat Y with h | ⟨Y', y, h⟩
      · subst h; simp at hY
      · exact ⟨Y', y, by rw [h, List.concat_eq_append]⟩
    have hX' : X'.length = n := by simpa using hX
    have hY' : Y'.length = n := by simpa using hY
    have ih := swps_app P n X' ([x] ++ M) Y' ([y] ++ S) hX' hY' b (by simp; omega)
    have e : P ++ (X' ++ [x]) ++ M ++ (Y' ++ [y]) ++ S = P ++ X' ++ ([x] ++ M) ++ Y' ++ ([y] ++ S) := by simp
    rw [swps, e, ih]
    have := swp_mid (P ++ Y') (M ++ X') S x y (i := P.length + n) (j := b + n) (by simp [hY']) (by simp [hX']; omega)
    have e2 : P ++ Y' ++ ([x] ++ M) ++ X' ++ ([y] ++ S) = P ++ Y' ++ x :: (M ++ X' ++ y :: S) := by simp
    rw [e2, this]
    simp

/-- what stands at a moves up, i times -/
def bubUp (d : Array α) (a : Nat) : Nat → Array α
  | 0 => d
  | i + 1 => swp (bubUp d a i) (a + i) (a + i + 1)
@[simp] theorem size_bubUp (d : Array α) (a : Nat) : ∀ i, (bubUp d a i).size = d.size
  | 0 => rfl
  | i + 1 => by rw [bubUp, size_swp, size_bubUp d a i]
theorem bubUp_app (P : List α) (x : α) : ∀ (n : Nat) (B S : List α), B.length = n → bubUp (P ++ x :: (B ++ S)).toArray P.length n = (P ++ B ++ x :: S).toArray
  | 0, B, S, h => by rw [List.length_eq_zero_iff] at h; subst h; simp [bubUp]
  | n + 1, B, S, h => by
    obtain ⟨B', y, rfl⟩ : ∃ B' y, B = B' ++ [y] := by
      rcases List.eq_nil_or_concat B with e | ⟨X', x, e⟩
      · subst e; simp at h
      · exact ⟨X', x, by rw [e, List.concat_eq_append]⟩
    have h' : B'.length = n := by simpa using h
    have ih := bubUp_app P x n B' (y :: S) h'
    rw [bubUp, show P ++ x :: (B' ++ [y] ++ S) = P ++ x :: (B' ++ y :: S) by simp, ih]
    have := swp_mid (P ++ B') [] S x y (i := P.length + n) (j := P.length + n + 1) (by simp [h']) (by simp)
    simp only [List.nil_append] at this
    rw [this]; simp
/-- what stands at m moves down, i times -/
def bubDn (d : Array α) (m : Nat) : Nat → Array α
  | 0 => d
  | i + 1 => swp (bubDn d m i) (m - i) (m - i - 1)
@[simp] theorem size_bubDn (d : Array α) (m : Nat) : ∀ i, (bubDn d m i).size = d.size
  | 0 => rfl
  | i + 1 => by rw [bubDn, size_swp, size_bubDn d m i]
theorem bubDn_app (y : α) (S : List α) : ∀ (A P : List α), ∀ m, P.length + A.length = m → bubDn (P ++ A ++ y :: S).toArray m A.length = (P ++ y :: (A ++ S)).toArray
  | [], P, m, h => by simp [bubDn]
  | x :: A, P, m, h => by
    have ih := bubDn_app y S A (P ++ [x]) m (by simp at h ⊢; omega)
    have e : P ++ x :: A ++ y :: S = P ++ [x] ++ A ++ y :: S := by simp
    simp only [List.length_cons] at h ⊢
    rw [bubDn, e, ih]
    have := swp_mid P [] (A ++ S) x y (i := m - A.length - 1) (j := m - A.length) (by omega) (by simp; omega)
    simp only [List.nil_append] at this
    rw [swp_comm _ (by simp; omega) (by simp; omega), show P ++ [x] ++ y :: (A ++ S) = P ++ x :: y :: (A ++ S) by simp, this]
    simp
/-- what stands where: what moves, and what lies below it -/
theorem bubDn_get (d : Array α) (m : Nat) (hm : m < d.size) : ∀ i, i ≤ m → (bubDn d m i)[m - i]! = d[m]! ∧ ∀ k, k < m - i → (bubDn d m i)[k]! = d[k]!
  | 0, _ => ⟨rfl, fun _ _ => rfl⟩
  | i + 1, hi => by
    obtain ⟨h1, h2⟩ := bubDn_get d m hm i (by omega)
    rw [bubDn]
    constructor
    · rw [swp_get _ (by simp; omega) (by simp; omega), show m - (i + 1) = m - i - 1 by omega, h1]
      first | (rw [if_pos rfl]) | (rw [if_neg (by omega), if_pos rfl]) | simp
    · intro k hk
      rw [swp_get _ (by simp; omega) (by simp; omega), if_neg (by omega), if_neg (by omega), h2 k (by omega)]
end
end Go.Proofs.Ytdgnhimiamchmaa
