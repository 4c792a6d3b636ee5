import Derived.Test.YtfmjkpobphjgkaaOn2
namespace Go.Proofs.Ytfmjkpobphjgkaa
open Go.RowKit
open BigFrame Lib

set_option maxRecDepth 100000 in
theorem once_row (most : Int) (a : Option Addr) (c : Nat) (l : List IStep) (w : World) (_h0 : -9223372036854775808 ≤ most) (_h1 : most ≤ 9223372036854775807) (hn : l.length ≤ maxLen) (h1 : IStepsAt w a l) :
    Calls Try.prog 6 #[.int .i64 most, .slice a l.length c] w fun e w' => e = .returned (.bool true) ∧ Below w.heap.size w w' := by
  have HAW := Lib.hid awake_any
  have hl : l.length ≤ 9223372036854775807 := by unfold maxLen at hn; omega
  by_cases hg : 0 ≤ most ∧ most ≤ 50 ∧ l.length ≤ 200
  · exact once_main most a c l w hg.1 hg.2.1 hg.2.2 h1
  · have HG := Lib.hid hg
    clear hg h1 hn
    generalize l.length = m at *
    by_cases c1 : most < 0
    · go_enter Try.func6, Try.ntmps6
      go_wp2_with fail
      refine (HAW.out _).mono ?_
      rintro e w6 ⟨rfl, hB6⟩
      go_wp2
      go_ret
      exact ⟨rfl, hB6⟩
    · have d1 : 0 ≤ most := by omega
      have t1 : decide (most < 0) = false := by simpa using c1
      clear c1
      by_cases c2 : 50 < most
      · go_enter Try.func6, Try.ntmps6
        go_wp2_with fail
        refine (HAW.out _).mono ?_
        rintro e w6 ⟨rfl, hB6⟩
        go_wp2
        go_ret
        exact ⟨rfl, hB6⟩
      · have d2 : most ≤ 50 := by omega
        have t2 : decide (50 < most) = false := by simpa using c2
        have c3 : (200 : Int) < (m : Int) := by
          have := HG.out
          omega
        have t3 : decide ((200 : Int) < (m : Int)) = true := by simpa using c3
        clear c2
        go_enter Try.func6, Try.ntmps6
        go_wp2_with fail
        refine (HAW.out _).mono ?_
        rintro e w6 ⟨rfl, hB6⟩
        go_wp2
        go_ret
        exact ⟨rfl, hB6⟩
end Go.Proofs.Ytfmjkpobphjgkaa
