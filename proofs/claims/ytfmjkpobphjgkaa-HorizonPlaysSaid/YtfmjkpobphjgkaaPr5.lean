import Derived.Test.YtfmjkpobphjgkaaPr4
namespace Go.Proofs.Ytfmjkpobphjgkaa
open Go.RowKit
open BigFrame Lib

set_option maxRecDepth 100000 in
theorem plays_row (most : Int) (a : Option Addr) (c : Nat) (l : List IStep) (now : Int) (w : World) (_h0 : -9223372036854775808 ≤ most) (_h1 : most ≤ 9223372036854775807) (hn : l.length ≤ maxLen) (h1 : IStepsAt w a l) (_n0 : -9223372036854775808 ≤ now) (_n1 : now ≤ 9223372036854775807) :
    Calls Try.prog 3 #[.int .i64 most, .slice a l.length c, .int .i64 now] w fun e w' => e = .returned (.bool true) ∧ Below w.heap.size w w' := by
  have HAW := Lib.hid awake_any
  have hl : l.length ≤ 9223372036854775807 := by unfold maxLen at hn; omega
  by_cases hg : most ≤ 1000 ∧ l.length ≤ 300
  · exact plays_main most a c l now w hg.1 hg.2 h1
  · have HG := Lib.hid hg
    clear hg h1 hn
    generalize l.length = m at *
    by_cases c3 : (300 : Int) < (m : Int)
    · go_enter Try.func3, Try.ntmps3
      go_wp2_with fail
      refine (HAW.out _).mono ?_
      rintro e w6 ⟨rfl, hB6⟩
      go_wp2
      go_ret
      exact ⟨rfl, hB6⟩
    · have c2 : 1000 < most := by
        have := HG.out
        omega
      have t3 : decide ((300 : Int) < (m : Int)) = false := by simpa using c3
      have t2 : decide (1000 < most) = true := by simpa using c2
      clear c3
      go_enter Try.func3, Try.ntmps3
      go_wp2_with fail
      refine (HAW.out _).mono ?_
      rintro e w6 ⟨rfl, hB6⟩
      go_wp2
      go_ret
      exact ⟨rfl, hB6⟩
end Go.Proofs.Ytfmjkpobphjgkaa
