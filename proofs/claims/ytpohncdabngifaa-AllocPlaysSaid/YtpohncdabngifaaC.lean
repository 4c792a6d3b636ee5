import Derived.Test.YtpohncdabngifaaB
namespace Go.Proofs.Ytpohncdabngifaa
open Go.RowKit

theorem new_bad (z s : Int) (w : World) (hbad : z < 1 ∨ 64 < z ∨ s < 0 ∨ z < s) : Calls Try.prog 9 #[.int .i64 z, .int .i64 s] w fun e w' => e = .returned (.tuple #[.pointer none, .int .i64 1]) ∧ w = w' := by
  by_cases h1 : z < 1
  · clear hbad
    go_enter Try.func9, Try.ntmps9
    go_wp2
    go_ret2
    exact ⟨rfl, rfl⟩
  by_cases h2 : 64 < z
  · clear hbad
    go_enter Try.func9, Try.ntmps9
    go_wp2
    go_ret2
    exact ⟨rfl, rfl⟩
  by_cases h3 : s < 0
  · clear hbad
    go_enter Try.func9, Try.ntmps9
    go_wp2
    go_ret2
    exact ⟨rfl, rfl⟩
  · have h4 : z < s := by omega
    clear hbad
    go_enter Try.func9, Try.ntmps9
    go_wp2
    go_ret2
    exact ⟨rfl, rfl⟩

theorem new_ok (z : Nat) (s : Int) (w : World) (h1 : 1 ≤ z) (h2 : z ≤ 64) (h3 : 0 ≤ s) (h4 : s ≤ z) : Calls Try.prog 9 #[.int .i64 z, .int .i64 s] w fun e w' =>
    e = .returned (.tuple #[.pointer (some ⟨w.heap.size + 1, 0, none⟩), .int .i64 0]) ∧ AllocAt w' (w.heap.size + 1) w.heap.size (List.replicate z (false, 0)) s ∧ Below w.heap.size w w' := by
  obtain ⟨i0, hi, hz0, hz1, hz2⟩ := info_parts Try.info55
  have hmk : ∀ W : World, (Instr.makeSlice 51 (.int .i64 z) (.int .i64 z)).run Try.prog W = .ok (.slice (some ⟨W.heap.size, 0, none⟩) z z) (W.alloc (.cells (zcells (List.replicate z (false, 0))).toArray 55)) := by
    intro W
    have hr := run_make (P := Try.prog) W 51 55 i0 _ Try.underlying51 hi hz0 .i64 .i64 z z (by omega) (Int.le_refl _) (by rw [hz2]; omega) (by omega)
    rw [hz1] at hr
    have := made_flat encZ (false, 0) 2 z rfl (by omega)
    simp only [Int.toNat_natCast] at hr
    rw [show ((Value.agg #[.bool false, .int .i64 0] : Value).cells) = (encZ (false, 0)).toArray from rfl, this] at hr
    exact hr
  clear hi hz0 hz1 hz2
  generalize hZ : zcells (List.replicate z (false, 0)) = Zs at hmk
  have HZ := Lib.hid hZ; clear hZ
  go_enter Try.func9, Try.ntmps9
  go_wp2
  go_ret2
  refine ⟨rfl, ⟨?_, ?_, ?_, ?_⟩, ?_⟩
  · rw [alloc_new (by simp)]; simp
  · rw [alloc_heap (by simp), alloc_new rfl, HZ.out]
  · omega
  · simpa using h2
  · exact ((Below.refl _ _).alloc (Nat.le_refl _) _).alloc (by simp) _
end Go.Proofs.Ytpohncdabngifaa
