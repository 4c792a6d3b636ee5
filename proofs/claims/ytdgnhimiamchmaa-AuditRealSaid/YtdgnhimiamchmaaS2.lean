import Derived.Test.YtdgnhimiamchmaaS
import Derived.Test.YtdgnhimiamchmaaD
namespace Go.Proofs.Ytdgnhimiamchmaa
open Go.RowKit
open BigFrame Lib

set_option maxRecDepth 100000 in
theorem hist_nil (top : Int) (w : World) (ht0 : 0 ≤ top) (ht : top ≤ 1000000) :
    Calls Try.prog 39 #[.slice none 0 0, .int .i64 top] w fun e w' => e = .returned (.int .i64 0) ∧ Below w.heap.size w w' := by
  have HS := Lib.hid (fun x v b W => sum1_any x v b W)
  have HZ : Hid (smin 0 0 = 0) := by show _ = _; decide
  go_enter Try.func39, Try.ntmps39
  go_wp2_with fail
  refine (HS.out 0 0 w.heap.size _ (by omega) (by omega) (by omega) (by omega) (by first | omega | (simp; done) | (simp; omega) | (go_num; done))).mono ?_
  rintro e w' ⟨rfl, rfl⟩
  rw [HZ.out]
  have hB0 : Below w.heap.size w (w.alloc (.cells #[.int .i64 0] 3)) := (Below.refl _ w).alloc (Nat.le_refl _) _
  generalize w.alloc (.cells #[.int .i64 0] 3) = w2 at *
  go_wp2_with fail
  go_loopw [5, 6] (fun nv iv wr => nv = .int .i64 0 ∧ iv = .int .i64 0 ∧ wr = w2) (fun _ _ _ => 0)
  case atStart => exact ⟨rfl, rfl, rfl⟩
  case round =>
    obtain ⟨rfl, rfl, rfl⟩ := hrel
    go_wp2
    go_ret
    exact ⟨rfl, hB0⟩

set_option maxRecDepth 100000 in
theorem smallT_any (a : Option Addr) (c : Nat) (l : List TxV) (w : World) (hn : l.length ≤ 9223372036854775807) (h1 : TxsAt w a l) :
    Calls Try.prog 15 #[.slice a l.length c, .slice none 0 0] w fun e w' => (∃ b : Bool, e = .returned (.bool b) ∧ (b = true → l.length ≤ 100 ∧ ∀ x ∈ l, x.l.length ≤ 10000)) ∧ Below w.heap.size w w' := by
  have HT := Lib.hid (txs_any a c l 10000 w hn (by omega) (by omega) h1)
  have HH := Lib.hid (fun W => hist_nil 10000 W (by omega) (by omega))
  clear h1
  generalize hq : l.length = m at *
  have HM := Lib.hid hq; clear hq
  go_enter Try.func15, Try.ntmps15
  go_wp2_with fail
  refine HT.out.mono ?_
  rintro e w1 ⟨⟨v, rfl, hv0, hv1, hv⟩, hB⟩
  have HV := Lib.hid hv; clear hv
  by_cases hvt : v ≤ 10000
  · by_cases hm : m ≤ 100
    · go_wp2_with fail
      refine (HH.out _).mono ?_
      rintro e w2 ⟨rfl, hB2⟩
      go_wp2
      go_ret
      refine ⟨⟨true, rfl, fun _ => ⟨hm, fun x hx => ?_⟩⟩, hB.trans (hB2.mono hB.size)⟩
      have := (HV.out hvt).2 x hx
      omega
    · have hm' : decide ((m : Int) ≤ 100) = false := by simp; omega
      have hm2 : 100 < m := by omega
      clear hm
      go_wp2
      go_ret
      exact ⟨⟨false, rfl, fun h => by cases h⟩, hB⟩
  · have hvt' : decide (v ≤ 10000) = false := by simpa using hvt
    have hvt2 : 10000 < v := by omega
    clear hvt
    go_wp2
    go_ret
    exact ⟨⟨false, rfl, fun h => by cases h⟩, hB⟩
end Go.Proofs.Ytdgnhimiamchmaa
