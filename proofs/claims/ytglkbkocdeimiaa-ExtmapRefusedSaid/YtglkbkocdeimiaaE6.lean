import Derived.Test.YtglkbkocdeimiaaAw
namespace Go.Proofs.Ytglkbkocdeimiaa
open Go.RowKit
open BigFrame Lib

def inX (n F L : Int) : Bool := decide (0 ≤ F ∧ 1 ≤ L ∧ L ≤ n ∧ F ≤ n - L)
theorem blocks_nil (w : World) : Calls Try.prog 23 #[.pointer none] w fun e w' => e = .returned (.int .i64 0) ∧ w = w' := by
  go_enter Try.func23, Try.ntmps23
  go_wp2
  go_ret
  exact ⟨rfl, rfl⟩

set_option maxRecDepth 100000 in
theorem within_any (p : Option Addr) (n F L : Int) (w : World) (hn0 : 0 ≤ n) (hn1 : n ≤ 1048576) (_hF0 : -9223372036854775808 ≤ F) (_hF1 : F ≤ 9223372036854775807) (_hL0 : -9223372036854775808 ≤ L) (_hL1 : L ≤ 9223372036854775807)
    (HB : ∀ W, Below w.heap.size w W → Calls Try.prog 23 #[.pointer p] W fun e w' => e = .returned (.int .i64 n) ∧ W = w') :
    Calls Try.prog 33 #[.pointer p, .agg #[.int .i64 F, .int .i64 L]] w fun e w' => e = .returned (.bool (inX n F L)) ∧ Below w.heap.size w w' := by
  have hB0 : Below w.heap.size w (w.alloc (.cells #[.int .i64 F, .int .i64 L] 45)) := (Below.refl _ w).alloc (Nat.le_refl _) _
  have HC := Lib.hid (fun (k : Nat) => Calls.quiet_of_same (((HB ((w.alloc (.cells #[.int .i64 F, .int .i64 L] 45)).drewN k) (below_drewN hB0 k))).mono fun e w' ⟨h1, h2⟩ => ⟨h1, h2.symm⟩))
  clear HB
  by_cases h1 : 0 ≤ F
  · have d1 : decide (0 ≤ F) = true := by simpa using h1
    by_cases h2 : 1 ≤ L
    · have d2 : decide (1 ≤ L) = true := by simpa using h2
      by_cases h3 : L ≤ n
      · have d3 : decide (L ≤ n) = true := by simpa using h3
        have s1 : IntKind.i64.wrap (n - L) = n - L := IntWalk.i64_in _ (by omega)
        have hx : Hid (inX n F L = decide (F ≤ n - L)) := by
          show _ = _
          unfold inX
          by_cases h4 : F ≤ n - L
          · rw [decide_eq_true h4, decide_eq_true ⟨h1, h2, h3, h4⟩]
          · rw [decide_eq_false h4, decide_eq_false (fun h => h4 h.2.2.2)]
        go_enter Try.func33, Try.ntmps33
        go_wp2_with fail
        go_quiet ((go_at_call 23; exact HC.out _))
        go_wp2
        go_ret
        exact ⟨by rw [hx.out]; rfl, below_drewN hB0 _⟩
      · have d3 : decide (L ≤ n) = false := by simpa using h3
        have hx : Hid (inX n F L = false) := decide_eq_false (fun h => h3 h.2.2.1)
        have h3' : n < L := by omega
        clear h3
        go_enter Try.func33, Try.ntmps33
        go_wp2_with fail
        go_quiet ((go_at_call 23; exact HC.out _))
        go_wp2
        go_ret
        exact ⟨by rw [hx.out]; rfl, below_drewN hB0 _⟩
    · have d2 : decide (1 ≤ L) = false := by simpa using h2
      have hx : Hid (inX n F L = false) := decide_eq_false (fun h => h2 h.2.1)
      have h2' : L < 1 := by omega
      clear h2
      go_enter Try.func33, Try.ntmps33
      go_wp2_with fail
      go_quiet ((go_at_call 23; exact HC.out _))
      go_wp2
      go_ret
      exact ⟨by rw [hx.out]; rfl, below_drewN hB0 _⟩
  · have d1 : decide (0 ≤ F) = false := by simpa using h1
    have hx : Hid (inX n F L = false) := decide_eq_false (fun h => h1 h.1)
    have h1' : F < 0 := by omega
    clear h1
    go_enter Try.func33, Try.ntmps33
    go_wp2_with fail
    go_quiet ((go_at_call 23; exact HC.out _))
    go_wp2
    go_ret
    exact ⟨by rw [hx.out]; rfl, below_drewN hB0 _⟩

set_option maxRecDepth 100000 in
theorem range_bad (p : Option Addr) (n F L t : Int) (w : World) (hn0 : 0 ≤ n) (hn1 : n ≤ 1048576) (hF0 : -9223372036854775808 ≤ F) (hF1 : F ≤ 9223372036854775807) (hL0 : -9223372036854775808 ≤ L) (hL1 : L ≤ 9223372036854775807)
    (HB : ∀ W, Below w.heap.size w W → Calls Try.prog 23 #[.pointer p] W fun e w' => e = .returned (.int .i64 n) ∧ W = w') (hx : inX n F L = false) :
    Calls Try.prog 15 #[.pointer p, .agg #[.int .i64 F, .int .i64 L], .int .i64 t] w fun e w' => e = .returned (.tuple #[.slice none 0 0, .int .i64 2]) ∧ Below w.heap.size w w' := by
  have hB0 : Below w.heap.size w (w.alloc (.cells #[.int .i64 F, .int .i64 L] 45)) := (Below.refl _ w).alloc (Nat.le_refl _) _
  have W0 := within_any p n F L (w.alloc (.cells #[.int .i64 F, .int .i64 L] 45)) hn0 hn1 hF0 hF1 hL0 hL1 (fun W hW => HB W (hB0.trans (hW.mono (by simp))))
  rw [hx] at W0
  have HW := Lib.hid W0
  clear W0 HB hx
  go_enter Try.func15, Try.ntmps15
  go_wp2_with fail
  refine HW.out.mono ?_
  rintro e w' ⟨rfl, hB1⟩
  go_wp2
  go_ret2
  exact ⟨rfl, hB0.trans (hB1.mono (by simp))⟩

/-! nothing -/
theorem gone_nil (w : World) : Calls Try.prog 26 #[.pointer none] w fun e w' => e = .returned (.bool true) ∧ w = w' := by
  go_enter Try.func26, Try.ntmps26
  go_wp2
  go_ret
  exact ⟨rfl, rfl⟩
theorem xblock_nil (k : Int) (w : World) : Calls Try.prog 28 #[.pointer none, .int .i64 k] w fun e w' => e = .returned (.bool false) ∧ w = w' := by
  by_cases h0 : 0 ≤ k
  · have d1 : decide (k < 0) = false := by simp; omega
    go_enter Try.func28, Try.ntmps28
    go_wp2_with (go_at_call 23; refine (blocks_nil _).mono ?_; rintro e w' ⟨rfl, rfl⟩)
    go_ret
    exact ⟨by first | (simp; done) | (simp; omega), rfl⟩
  · have d1 : decide (0 ≤ k) = false := by simpa using h0
    have h1 : k < 0 := by omega
    clear h0
    go_enter Try.func28, Try.ntmps28
    go_wp2
    go_ret
    exact ⟨by simp [d1], rfl⟩
theorem xget_nil (k t : Int) (w : World) : Calls Try.prog 13 #[.pointer none, .int .i64 k, .int .i64 t] w fun e w' => e = .returned (.tuple #[.slice none 0 0, .int .i64 0]) ∧ w = w' := by
  go_enter Try.func13, Try.ntmps13
  go_wp2_with (go_at_call 28; refine (xblock_nil _ _).mono ?_; rintro e w' ⟨rfl, rfl⟩)
  go_ret2
  exact ⟨rfl, rfl⟩
theorem last_nil (w : World) : Calls Try.prog 12 #[.pointer none] w fun e w' => e = .returned (.int .i64 0) ∧ w = w' := by
  go_enter Try.func12, Try.ntmps12
  go_wp2
  go_ret
  exact ⟨rfl, rfl⟩
theorem apply_nil (t : Int) (a : Option Addr) (n c : Nat) (w : World) : Calls Try.prog 11 #[.pointer none, .agg #[.int .i64 t, .slice a n c]] w fun e w' => e = .returned (.int .i64 1) ∧ Below w.heap.size w w' := by
  go_enter Try.func11, Try.ntmps11
  go_wp2_with (go_at_call 26; refine (gone_nil _).mono ?_; rintro e w' ⟨rfl, rfl⟩)
  go_ret
  exact ⟨rfl, (Below.refl _ w).alloc (Nat.le_refl _) _⟩
theorem prune_nil (t : Int) (w : World) : Calls Try.prog 18 #[.pointer none, .int .i64 t] w fun e w' => e = .returned (.int .i64 0) ∧ w = w' := by
  go_enter Try.func18, Try.ntmps18
  go_wp2_with (go_at_call 26; refine (gone_nil _).mono ?_; rintro e w' ⟨rfl, rfl⟩)
  go_ret
  exact ⟨rfl, rfl⟩
theorem dump_nil (w : World) : Calls Try.prog 21 #[.pointer none] w fun e w' => e = .returned (.slice none 0 0) ∧ w = w' := by
  go_enter Try.func21, Try.ntmps21
  go_wp2_with (go_at_call 26; refine (gone_nil _).mono ?_; rintro e w' ⟨rfl, rfl⟩)
  go_ret
  exact ⟨rfl, rfl⟩
theorem written_nil (F L t : Int) (w : World) : Calls Try.prog 16 #[.pointer none, .agg #[.int .i64 F, .int .i64 L], .int .i64 t] w fun e w' => e = .returned (.bool false) ∧ Below w.heap.size w w' := by
  go_enter Try.func16, Try.ntmps16
  go_wp2_with (go_at_call 26; refine (gone_nil _).mono ?_; rintro e w' ⟨rfl, rfl⟩)
  go_ret
  exact ⟨rfl, (Below.refl _ w).alloc (Nat.le_refl _) _⟩

/-- an extent -/
structure XV where
  first : Int
  len : Int
def XOk (x : XV) : Prop := (-9223372036854775808 ≤ x.first ∧ x.first ≤ 9223372036854775807) ∧ -9223372036854775808 ≤ x.len ∧ x.len ≤ 9223372036854775807

set_option maxRecDepth 100000 in
set_option maxHeartbeats 1000000 in
theorem nothing_any (k t : Int) (x : XV) (w : World) (_h0 : -9223372036854775808 ≤ k) (_h1 : k ≤ 9223372036854775807) (_h2 : -9223372036854775808 ≤ t) (_h3 : t ≤ 9223372036854775807) (hx : XOk x) :
    Calls Try.prog 7 #[.int .i64 k, .int .i64 t, .agg #[.int .i64 x.first, .int .i64 x.len]] w fun e w' => e = .returned (.bool true) ∧ Below w.heap.size w w' := by
  obtain ⟨F, L⟩ := x
  obtain ⟨⟨hF0, hF1⟩, hL0, hL1⟩ := hx
  simp only at hF0 hF1 hL0 hL1 ⊢
  have HAW := Lib.hid awake_any
  have hbox : Below w.heap.size w (w.alloc (.cells #[.int .i64 F, .int .i64 L] 45)) := (Below.refl _ w).alloc (Nat.le_refl _) _
  have c0 : ∀ W, Below (w.heap.size + 1) (w.alloc (.cells #[.int .i64 F, .int .i64 L] 45)) W → W.cell? ⟨w.heap.size, 0, none⟩ = some (.int .i64 F) ∧ W.cell? ⟨w.heap.size, 1, none⟩ = some (.int .i64 L) := by
    intro W hW
    have : W.heap[w.heap.size]? = some (.cells #[.int .i64 F, .int .i64 L] 45 (0, 0)) := (hW.block _ (by omega)).trans (alloc_new rfl)
    exact ⟨cell_heap (c := [.int .i64 F, .int .i64 L]) this rfl, cell_heap (c := [.int .i64 F, .int .i64 L]) this rfl⟩
  have HC0 := Lib.hid c0
  clear c0
  have RB := Lib.hid (fun W => range_bad none 0 F L t W (by omega) (by omega) hF0 hF1 hL0 hL1 (fun W _ => blocks_nil W) (decide_eq_false (by omega)))
  go_enter Try.func7, Try.ntmps7
  go_wp2_with fail
  refine (RB.out _).mono ?_
  rintro e w1 ⟨rfl, hB1⟩
  have hB1' : Below (w.heap.size + 1) (w.alloc (.cells #[.int .i64 F, .int .i64 L] 45)) w1 := hB1.mono (by simp)
  have hw1 : w.heap.size < w1.heap.size := by have := hB1.size; simp at this; omega
  generalize w.alloc (.cells #[.int .i64 F, .int .i64 L] 45) = W0 at *
  go_wp2_with fail
  refine (xget_nil _ _ _).mono ?_
  rintro e w' ⟨rfl, rfl⟩
  go_wp2_with fail
  refine (apply_nil _ _ _ _ _).mono ?_
  rintro e w2 ⟨rfl, hB2⟩
  have hB2' : Below (w.heap.size + 1) W0 w2 := hB1'.trans (hB2.mono (by omega))
  obtain ⟨c0, c1⟩ := HC0.out w2 hB2'
  go_wp2_with fail
  refine (last_nil _).mono ?_
  rintro e w' ⟨rfl, rfl⟩
  go_wp2_with fail
  refine (prune_nil _ _).mono ?_
  rintro e w' ⟨rfl, rfl⟩
  go_wp2_with fail
  refine (dump_nil _).mono ?_
  rintro e w' ⟨rfl, rfl⟩
  go_wp2_with fail
  refine (written_nil _ _ _ _).mono ?_
  rintro e w3 ⟨rfl, hB3⟩
  have hB3' : Below (w.heap.size + 1) W0 w3 := hB2'.trans (hB3.mono (by have := hB2.size; omega))
  go_wp2_with fail
  refine (blocks_nil _).mono ?_
  rintro e w' ⟨rfl, rfl⟩
  go_wp2_with fail
  refine (HAW.out _).mono ?_
  rintro e w4 ⟨rfl, hB4⟩
  go_wp2
  go_ret
  have hB4' : Below (w.heap.size + 1) W0 w4 := hB3'.trans (hB4.mono (by have := hB3.size; have := hB2.size; omega))
  exact ⟨rfl, hbox.trans (hB4'.mono (by omega))⟩
end Go.Proofs.Ytglkbkocdeimiaa
