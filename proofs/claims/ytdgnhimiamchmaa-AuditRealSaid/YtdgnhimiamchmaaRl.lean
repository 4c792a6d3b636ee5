import Derived.Test.YtdgnhimiamchmaaA8
namespace Go.Proofs.Ytdgnhimiamchmaa
open Go.RowKit
open BigFrame Lib

section
variable (f t b o : Int) (pa a : Option Addr) (c : Nat)
/-- the first wrote at 5, and ended at t -/
def realA : HistV := histV 3 0 5 f t none 0 [] pa 1 [put0 1 a c (dat 1)]
/-- the second began at o, with the snapshot of b -/
def realB : HistV := histV 4 b 0 o 0 none 0 [] none 0 []
theorem real_ord : ordL [realA f t pa a c, realB b o] = [0] := by kernel_rfl
theorem real_one0 : oneH 5 [realA f t pa a c, realB b o] [0] 0 = if (late [realA f t pa a c, realB b o] (realA f t pa a c) 0 || false) = true then 11 else 0 := by kernel_rfl
theorem real_one1 : oneH 5 [realA f t pa a c, realB b o] [0] 1 = if (late [realA f t pa a c, realB b o] (realB b o) 0 || false) = true then 11 else 0 := by kernel_rfl
theorem real_late0 : late [realA f t pa a c, realB b o] (realA f t pa a c) 0 = (decide (0 < t) && (decide (t < f) && true)) := by kernel_rfl
theorem real_late1 : late [realA f t pa a c, realB b o] (realB b o) 0 = (decide (0 < t) && (decide (t < o) && decide (b < 5))) := by kernel_rfl
theorem real_mayA : mayH 5 (realA f t pa a c) = true := by kernel_rfl
theorem real_mayB (h0 : 0 ≤ b) (h1 : b ≤ 20) : mayH 5 (realB b o) = true := by
  have e : mayH 5 (realB b o) = ((!(false || false || decide (b < 0) || decide (1099511627776 < b) || false)) && true) := by kernel_rfl
  rw [e, decide_eq_false (by omega), decide_eq_false (by omega)]
  rfl
theorem real_check (h1 : 1 ≤ f) (h2 : f ≤ t) (h3 : 0 ≤ b) (h4 : b ≤ 20) : checkL 5 [realA f t pa a c, realB b o] = if t < o ∧ b < 5 then (1, 11) else (-1, 0) := by
  have hbad : badH 5 [realA f t pa a c, realB b o] = -1 := by
    unfold badH fidx fidx fidx
    rw [real_mayA, real_mayB b o h3 h4]
    rfl
  unfold checkL
  rw [if_neg (by omega), hbad, if_neg (by omega)]
  unfold scanL
  rw [real_ord]
  have e0 : oneH 5 [realA f t pa a c, realB b o] [0] 0 = 0 := by
    rw [real_one0, real_late0, decide_eq_false (show ¬ t < f by omega)]
    simp
  have e1 : oneH 5 [realA f t pa a c, realB b o] [0] 1 = if t < o ∧ b < 5 then 11 else 0 := by
    rw [real_one1, real_late1, decide_eq_true (show 0 < t by omega)]
    by_cases hc : t < o ∧ b < 5
    · rw [if_pos hc, decide_eq_true hc.1, decide_eq_true hc.2]; rfl
    · rw [if_neg hc]
      rcases Decidable.not_and_iff_or_not.1 hc with h | h
      · rw [decide_eq_false h]; simp
      · rw [decide_eq_false h]; simp
  have hr : List.range [realA f t pa a c, realB b o].length = [0, 1] := rfl
  rw [hr]
  by_cases hc : t < o ∧ b < 5
  · rw [if_pos hc] at e1 ⊢
    have : ([0, 1] : List Nat).find? (fun i => oneH 5 [realA f t pa a c, realB b o] [0] i != 0) = some 1 := by
      rw [List.find?_cons, e0, List.find?_cons, e1]; rfl
    rw [this]
    show ((1 : Int), oneH 5 _ (ordL [realA f t pa a c, realB b o]) 1) = _
    rw [real_ord, e1]
  · rw [if_neg hc] at e1 ⊢
    have : ([0, 1] : List Nat).find? (fun i => oneH 5 [realA f t pa a c, realB b o] [0] i != 0) = none := by
      rw [List.find?_cons, e0, List.find?_cons, e1]; rfl
    rw [this]
    rfl
end
end Go.Proofs.Ytdgnhimiamchmaa
