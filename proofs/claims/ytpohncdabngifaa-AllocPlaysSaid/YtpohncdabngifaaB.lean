import Derived.Test.YtpohncdabngifaaA
namespace Go.Proofs.Ytpohncdabngifaa
open Go.RowKit

/-! Free, Mark, Wear, New -/
theorem free_nil (i : Int) (w : World) : Calls Try.prog 12 #[.pointer none, .int .i64 i] w fun e w' => e = .returned (.int .i64 1) ∧ w = w' := by
  go_enter Try.func12, Try.ntmps12
  go_wp2_with (go_at_call 24; refine (at_nil _ _).mono ?_; rintro e w' ⟨rfl, rfl⟩)
  go_ret
  exact ⟨rfl, rfl⟩
theorem mark_nil (i : Int) (w : World) : Calls Try.prog 18 #[.pointer none, .int .i64 i] w fun e w' => e = .returned (.int .i64 1) ∧ w = w' := by
  go_enter Try.func18, Try.ntmps18
  go_wp2_with (go_at_call 24; refine (at_nil _ _).mono ?_; rintro e w' ⟨rfl, rfl⟩)
  go_ret
  exact ⟨rfl, rfl⟩
theorem wear_nil (i : Int) (w : World) : Calls Try.prog 14 #[.pointer none, .int .i64 i] w fun e w' => e = .returned (.int .i64 0) ∧ w = w' := by
  go_enter Try.func14, Try.ntmps14
  go_wp2_with (go_at_call 24; refine (at_nil _ _).mono ?_; rintro e w' ⟨rfl, rfl⟩)
  go_ret
  exact ⟨rfl, rfl⟩
theorem free_out (g b : Nat) (zs : List Z) (sp : Int) (i : Int) (w : World) (hA : AllocAt w g b zs sp) (h : i < 0 ∨ (zs.length : Int) ≤ i) : Calls Try.prog 12 #[.pointer (some ⟨g, 0, none⟩), .int .i64 i] w fun e w' => e = .returned (.int .i64 1) ∧ w = w' := by
  have hc := Lib.hid (at_out g b zs sp i w hA h); clear hA h
  go_enter Try.func12, Try.ntmps12
  go_wp2_with (go_at_call 24; refine hc.out.mono ?_; rintro e w' ⟨rfl, rfl⟩)
  go_ret
  exact ⟨rfl, rfl⟩
theorem mark_out (g b : Nat) (zs : List Z) (sp : Int) (i : Int) (w : World) (hA : AllocAt w g b zs sp) (h : i < 0 ∨ (zs.length : Int) ≤ i) : Calls Try.prog 18 #[.pointer (some ⟨g, 0, none⟩), .int .i64 i] w fun e w' => e = .returned (.int .i64 1) ∧ w = w' := by
  have hc := Lib.hid (at_out g b zs sp i w hA h); clear hA h
  go_enter Try.func18, Try.ntmps18
  go_wp2_with (go_at_call 24; refine hc.out.mono ?_; rintro e w' ⟨rfl, rfl⟩)
  go_ret
  exact ⟨rfl, rfl⟩
theorem wear_out (g b : Nat) (zs : List Z) (sp : Int) (i : Int) (w : World) (hA : AllocAt w g b zs sp) (h : i < 0 ∨ (zs.length : Int) ≤ i) : Calls Try.prog 14 #[.pointer (some ⟨g, 0, none⟩), .int .i64 i] w fun e w' => e = .returned (.int .i64 0) ∧ w = w' := by
  have hc := Lib.hid (at_out g b zs sp i w hA h); clear hA h
  go_enter Try.func14, Try.ntmps14
  go_wp2_with (go_at_call 24; refine hc.out.mono ?_; rintro e w' ⟨rfl, rfl⟩)
  go_ret
  exact ⟨rfl, rfl⟩

theorem wear_in (g b : Nat) (zs : List Z) (sp : Int) (i : Nat) (w : World) (hA : AllocAt w g b zs sp) (h : i < zs.length) : Calls Try.prog 14 #[.pointer (some ⟨g, 0, none⟩), .int .i64 i] w fun e w' => e = .returned (.int .i64 (wear zs i)) ∧ w = w' := by
  have d1 := cell_heap hA.hb (wear_get zs i h)
  have hc := Lib.hid (at_in g b zs sp i w hA h); clear hA h
  go_enter Try.func14, Try.ntmps14
  go_wp2_with (go_at_call 24; refine hc.out.mono ?_; rintro e w' ⟨rfl, rfl⟩)
  go_ret
  exact ⟨rfl, rfl⟩

/-- the i-th zone turned -/
theorem AllocAt.set {w : World} {g b : Nat} {zs : List Z} {sp : Int} (hA : AllocAt w g b zs sp) (i o : Nat) (u : Value) (z : Z) (h : (zcells zs).set o u = zcells (zs.set i z)) : AllocAt (w.setCell ⟨b, o, none⟩ u) g b (zs.set i z) sp :=
  ⟨by rw [set_heap_ne hA.hne.symm, hA.hg]; simp, by rw [set_heap hA.hb, h], hA.hne, by simpa using hA.hn⟩

theorem mark_in (g b : Nat) (zs : List Z) (sp : Int) (i : Nat) (w : World) (hA : AllocAt w g b zs sp) (hl : i < zs.length) : Calls Try.prog 18 #[.pointer (some ⟨g, 0, none⟩), .int .i64 i] w fun e w' =>
    e = .returned (.int .i64 (if tk zs i = true then 14 else 0)) ∧ AllocAt w' g b (if tk zs i = true then zs else zs.set i (true, wear zs i)) sp ∧ Chg (· = b) w w' := by
  have d0 := cell_heap hA.hb (tk_get zs i hl)
  have f0 : w.frozen? ⟨b, i * 2, none⟩ = false := free_heap hA.hb
  have hc := Lib.hid (at_in g b zs sp i w hA hl)
  have HA := Lib.hid hA; clear hA
  cases ht : tk zs i with
  | true =>
    rw [ht] at d0; clear ht
    go_enter Try.func18, Try.ntmps18
    go_wp2_with (go_at_call 24; refine hc.out.mono ?_; rintro e w' ⟨rfl, rfl⟩)
    go_ret
    exact ⟨rfl, HA.out, Chg.refl _ _⟩
  | false =>
    rw [ht] at d0; clear ht
    go_enter Try.func18, Try.ntmps18
    go_wp2_with (go_at_call 24; refine hc.out.mono ?_; rintro e w' ⟨rfl, rfl⟩)
    go_ret
    exact ⟨rfl, HA.out.set i _ _ _ (zset_tk zs i true hl), (Chg.refl (· = b) _).setCell (p := ⟨b, _, none⟩) (Or.inl rfl) _⟩

theorem free_in (g b : Nat) (zs : List Z) (sp : Int) (i : Nat) (w : World) (hA : AllocAt w g b zs sp) (hl : i < zs.length) (h0 : 0 ≤ wear zs i) (h1 : wear zs i ≤ 1000000) : Calls Try.prog 12 #[.pointer (some ⟨g, 0, none⟩), .int .i64 i] w fun e w' =>
    e = .returned (.int .i64 (if tk zs i = true then 0 else 14)) ∧ AllocAt w' g b (if tk zs i = true then zs.set i (false, wear zs i + 1) else zs) sp ∧ Chg (· = b) w w' := by
  have d0 := cell_heap hA.hb (tk_get zs i hl)
  have d1 := cell_heap hA.hb (wear_get zs i hl)
  have f0 : w.frozen? ⟨b, i * 2, none⟩ = false := free_heap hA.hb
  have f1 : w.frozen? ⟨b, i * 2 + 1, none⟩ = false := free_heap hA.hb
  have hc := Lib.hid (at_in g b zs sp i w hA hl)
  have HA := Lib.hid hA; clear hA
  cases ht : tk zs i with
  | false =>
    rw [ht] at d0; clear ht
    go_enter Try.func12, Try.ntmps12
    go_wp2_with (go_at_call 24; refine hc.out.mono ?_; rintro e w' ⟨rfl, rfl⟩)
    go_ret
    exact ⟨rfl, HA.out, Chg.refl _ _⟩
  | true =>
    rw [ht] at d0; clear ht
    go_enter Try.func12, Try.ntmps12
    go_wp2_with (go_at_call 24; refine hc.out.mono ?_; rintro e w' ⟨rfl, rfl⟩)
    go_ret
    refine ⟨rfl, ?_, ((Chg.refl (· = b) _).setCell (p := ⟨b, _, none⟩) (Or.inl rfl) _).setCell (p := ⟨b, _, none⟩) (Or.inl rfl) _⟩
    have h2 := HA.out.set i _ _ _ (zset_tk zs i false hl)
    have h3 := zset_wear (zs.set i (false, wear zs i)) i (wear zs i + 1) (by simpa using hl)
    rw [tk_set, if_pos ⟨rfl, hl⟩] at h3
    have h4 := h2.set i _ _ _ h3
    simpa using h4
end Go.Proofs.Ytpohncdabngifaa
