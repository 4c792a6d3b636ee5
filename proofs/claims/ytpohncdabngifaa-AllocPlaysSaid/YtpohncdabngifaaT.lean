import Derived.Test.YtpohncdabngifaaC
namespace Go.Proofs.Ytpohncdabngifaa
open Go.RowKit
open BigFrame

theorem take_none (g b : Nat) (zs : List Z) (sp : Int) (r : Bool) (w : World) (hA : AllocAt w g b zs sp) (hbad : cnt zs = 0 ∨ r = false ∧ (cnt zs : Int) ≤ sp) :
    Calls Try.prog 10 #[.pointer (some ⟨g, 0, none⟩), .bool r] w fun e w' => e = .returned (.tuple #[.int .i64 0, .int .i64 9]) ∧ Below w.heap.size w w' := by
  have c1 : ∀ p : InC (Below w.heap.size w), p.w.cell? ⟨g, 1, none⟩ = some (.int .i64 sp) := fun p => cell_heap (hA.below' p.h).hg rfl
  have hcount : ∀ p : InC (Below w.heap.size w), Calls Try.prog 13 #[.pointer (some ⟨g, 0, none⟩)] p.w fun e w'' => e = .returned (.int .i64 (cnt zs : Nat)) ∧ ∃ q : InC (Below w.heap.size w), w'' = q.w :=
    fun p => Calls.inC ((count_any g b zs sp p.w (hA.below' p.h)).mono fun e w' ⟨h1, h2⟩ => ⟨h1, p.h.trans (h2.mono p.h.size)⟩)
  have HC := Lib.hid hcount; clear hcount
  have hne : Nonempty (InC (Below w.heap.size w)) := ⟨⟨w, Below.refl _ _⟩⟩
  have HA := Lib.hid hA; clear hA
  generalize cnt zs = n at *
  by_cases hn : n = 0
  · subst hn
    clear hbad
    go_enter Try.func10, Try.ntmps10
    go_wp2_with fail
    go_step3
    go_wp2_with fail
    refine wp_region_class (Below w.heap.size w) (by kernel_rfl) (by kernel_rfl) (Below.refl _ _).drew ?_
    repeat (go_big_quiet_step (exact HC.out _))
    refine wpQuiet_nil ?_
    intro p
    go_wp2
    rw [Exit.noGoto_ret]
    go_ret2
    exact ⟨rfl, p.h⟩
  · obtain ⟨rfl, hle⟩ : r = false ∧ (n : Int) ≤ sp := by rcases hbad with h | h; exact (hn h).elim; exact h
    have hn' : ((n : Int) == 0) = false := by simp [hn]
    have hle' : decide ((n : Int) ≤ sp) = true := by simp [hle]
    clear hbad hn
    go_enter Try.func10, Try.ntmps10
    go_wp2_with fail
    go_step3
    go_wp2_with fail
    refine wp_region_class (Below w.heap.size w) (by kernel_rfl) (by kernel_rfl) (Below.refl _ _).drew ?_
    repeat (go_big_quiet_step (exact HC.out _))
    refine wpQuiet_nil ?_
    intro p
    go_wp2
    rw [Exit.noGoto_ret]
    go_ret2
    exact ⟨rfl, p.h⟩

theorem bst_t (zs : List Z) (k : Nat) (h : tk zs k = true) : bst zs (k + 1) = bst zs k := by
  simp only [bst, h, true_or, if_true]; cases bst zs k <;> rfl
theorem bst_first (zs : List Z) (k : Nat) (h : tk zs k = false) (hb : bst zs k = none) : bst zs (k + 1) = some k := by simp [bst, h, hb]
theorem bst_keep (zs : List Z) (k c : Nat) (hb : bst zs k = some c) (hw : wear zs c ≤ wear zs k) : bst zs (k + 1) = some c := by simp [bst, hb, hw]
theorem bst_new (zs : List Z) (k c : Nat) (h : tk zs k = false) (hb : bst zs k = some c) (hw : ¬ wear zs c ≤ wear zs k) : bst zs (k + 1) = some k := by simp [bst, hb, h, hw]

set_option maxHeartbeats 1000000 in
theorem take_some (g b : Nat) (zs : List Z) (sp : Int) (r : Bool) (w : World) (m : Nat) (hA : AllocAt w g b zs sp) (hpos : 0 < cnt zs) (hok : r = true ∨ sp < (cnt zs : Int)) (hm : bst zs zs.length = some m) :
    Calls Try.prog 10 #[.pointer (some ⟨g, 0, none⟩), .bool r] w fun e w' => e = .returned (.tuple #[.int .i64 (m : Nat), .int .i64 0]) ∧ AllocAt w' g b (zs.set m (true, wear zs m)) sp ∧ Chg (· = b) w w' := by
  have c1 : ∀ p : InC (Below w.heap.size w), p.w.cell? ⟨g, 1, none⟩ = some (.int .i64 sp) := fun p => cell_heap (hA.below' p.h).hg rfl
  have hcount : ∀ p : InC (Below w.heap.size w), Calls Try.prog 13 #[.pointer (some ⟨g, 0, none⟩)] p.w fun e w'' => e = .returned (.int .i64 (cnt zs : Nat)) ∧ ∃ q : InC (Below w.heap.size w), w'' = q.w :=
    fun p => Calls.inC ((count_any g b zs sp p.w (hA.below' p.h)).mono fun e w' ⟨h1, h2⟩ => ⟨h1, p.h.trans (h2.mono p.h.size)⟩)
  have HC := Lib.hid hcount; clear hcount
  have hne : Nonempty (InC (Below w.heap.size w)) := ⟨⟨w, Below.refl _ _⟩⟩
  have HA := Lib.hid hA; clear hA
  have hn' : ((cnt zs : Int) == 0) = false := by simp; omega
  have HM := Lib.hid hm; clear hm
  generalize cnt zs = n at *
  have hok' : r = true ∨ r = false ∧ decide ((n : Int) ≤ sp) = false := by
    cases r with
    | true => exact Or.inl rfl
    | false => right; refine ⟨rfl, ?_⟩; rcases hok with h1 | h1; cases h1; simp; exact h1
  clear hok
  have hB := lt_heap HA.out.hb
  have h64 : zs.length ≤ 64 := HA.out.hn
  rcases hok' with rfl | ⟨rfl, hle⟩
  all_goals
    go_enter Try.func10, Try.ntmps10
    go_wp2_with fail
    go_step3
    go_wp2_with fail
    refine wp_region_class (Below w.heap.size w) (by kernel_rfl) (by kernel_rfl) (Below.refl _ _).drew ?_
    repeat (go_big_quiet_step (exact HC.out _))
    refine wpQuiet_nil ?_
    rintro ⟨W, hW⟩
    dsimp only
    clear c1 hne HC hn'
    have hA := HA.out.below' hW
    have hg0 : W.cell? ⟨g, 0, none⟩ = some (.slice (some ⟨b, 0, none⟩) zs.length zs.length) := cell_heap hA.hg rfl
    have HA1 := Lib.hid hA; clear hA
    go_wp2
    go_step3
    go_wp2_with fail
    go_loopw [6, 30] (fun bv iv wr => ∃ k : Nat, k ≤ zs.length ∧ iv = .int .i64 k ∧ bv = .int .i64 (opt (bst zs k)) ∧ Below w.heap.size w wr) (fun _ iv _ => zs.length - (intOf iv).toNat)
    case atStart => exact ⟨0, Nat.zero_le _, rfl, rfl, hW⟩
    case round =>
      clear hg0 HA1 hW W
      obtain ⟨k, hk, rfl, rfl, hW⟩ := hrel
      have hsz := hW.size
      have hgl : g < wr.heap.size := Nat.lt_of_lt_of_le (lt_heap HA.out.hg) hsz
      have hbl : b < wr.heap.size := Nat.lt_of_lt_of_le (lt_heap HA.out.hb) hsz
      have hg0 : wr.cell? ⟨g, 0, none⟩ = some (.slice (some ⟨b, 0, none⟩) zs.length zs.length) := cell_heap (HA.out.below' hW).hg rfl
      by_cases hlt : k < zs.length
      · have d0 := cell_heap (HA.out.below' hW).hb (tk_get zs k hlt)
        have d1 := cell_heap (HA.out.below' hW).hb (wear_get zs k hlt)
        cases ht : tk zs k with
        | true =>
          rw [ht] at d0
          have HT := Lib.hid ht; clear ht
          go_wp2_with fail
          go_quiet (fail)
          go_wp2
          go_roundw
          case rel => exact ⟨k + 1, by omega, by go_num, by rw [bst_t zs k HT.out], below_drewN (hW.alloc hsz _) _⟩
          case measure => simp [intOf]; omega
        | false =>
          rw [ht] at d0
          have HT := Lib.hid ht; clear ht
          cases hb : bst zs k with
          | none =>
            have HX := Lib.hid hb; clear hb
            simp only [opt]
            go_wp2_with fail
            go_quiet (fail)
            go_wp2
            go_roundw
            case rel => exact ⟨k + 1, by omega, by go_num, by rw [bst_first zs k HT.out HX.out] <;> rfl, below_drewN (hW.alloc hsz _) _⟩
            case measure => simp [intOf]; omega
          | some c =>
            have hck := bst_lt zs k c hb
            have d2 := cell_heap (HA.out.below' hW).hb (wear_get zs c (by omega))
            have HX := Lib.hid hb; clear hb
            simp only [opt]
            by_cases hw : wear zs c ≤ wear zs k
            · have hw' : decide (wear zs c ≤ wear zs k) = true := by simp [hw]
              go_wp2_with fail
              go_quiet (fail)
              go_wp2
              go_roundw
              case rel => exact ⟨k + 1, by omega, by go_num, by rw [bst_keep zs k c HX.out hw] <;> rfl, below_drewN (hW.alloc hsz _) _⟩
              case measure => simp [intOf]; omega
            · have hw' : decide (wear zs c ≤ wear zs k) = false := by simp; omega
              go_wp2_with fail
              go_quiet (fail)
              go_wp2
              go_roundw
              case rel => exact ⟨k + 1, by omega, by go_num, by rw [bst_new zs k c HT.out HX.out (Int.not_le.2 hw)] <;> rfl, below_drewN (hW.alloc hsz _) _⟩
              case measure => simp [intOf]; omega
      · have hkn : k = zs.length := by omega
        subst hkn
        rw [HM.out]
        simp only [opt]
        have hmk := bst_lt _ _ _ HM.out
        have d2 := cell_heap (HA.out.below' hW).hb (tk_get zs m hmk)
        have f2 : wr.frozen? ⟨b, m * 2, none⟩ = false := free_heap (HA.out.below' hW).hb
        go_wp2
        rw [Exit.noGoto_ret]
        go_ret2
        exact ⟨rfl, (HA.out.below' hW).set m _ _ _ (zset_tk zs m true hmk), (Chg.of_below (S := (· = b)) hW).setCell (p := ⟨b, _, none⟩) (Or.inl rfl) _⟩
end Go.Proofs.Ytpohncdabngifaa
