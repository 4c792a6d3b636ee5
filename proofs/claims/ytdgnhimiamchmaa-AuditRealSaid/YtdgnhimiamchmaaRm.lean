import Derived.Test.YtdgnhimiamchmaaRl
namespace Go.Proofs.Ytdgnhimiamchmaa
open Go.RowKit
open BigFrame Lib

set_option maxRecDepth 100000 in
set_option maxHeartbeats 4000000 in
/-- AuditReal: law 28.2 -/
theorem real_law (f t b o : Int) (w : World) (f1 : -9223372036854775808 ≤ f) (f2 : f ≤ 9223372036854775807) (g1 : -9223372036854775808 ≤ t) (g2 : t ≤ 9223372036854775807)
    (k1 : -9223372036854775808 ≤ b) (k2 : b ≤ 9223372036854775807) (m1 : -9223372036854775808 ≤ o) (m2 : o ≤ 9223372036854775807) :
    Calls Try.prog 8 #[.int .i64 f, .int .i64 t, .int .i64 b, .int .i64 o] w fun e w' => e = .returned (.bool true) ∧ Below w.heap.size w w' := by
  have HAW := Lib.hid awake28_any
  by_cases h0 : f < 1
  · have t0 : decide (f < 1) = true := decide_eq_true h0
    clear h0
    go_enter Try.func8, Try.ntmps8
    go_wp2_with fail
    refine (HAW.out _).mono ?_
    rintro e w1 ⟨rfl, hB1⟩
    go_wp2
    go_ret
    exact ⟨rfl, hB1⟩
  have t0 : decide (f < 1) = false := decide_eq_false h0
  by_cases h1 : t < f
  · have t1 : decide (t < f) = true := decide_eq_true h1
    clear h1
    go_enter Try.func8, Try.ntmps8
    go_wp2_with fail
    refine (HAW.out _).mono ?_
    rintro e w1 ⟨rfl, hB1⟩
    go_wp2
    go_ret
    exact ⟨rfl, hB1⟩
  have t1 : decide (t < f) = false := decide_eq_false h1
  by_cases h2 : 1000 < t
  · have t2 : decide (1000 < t) = true := decide_eq_true h2
    clear h2
    go_enter Try.func8, Try.ntmps8
    go_wp2_with fail
    refine (HAW.out _).mono ?_
    rintro e w1 ⟨rfl, hB1⟩
    go_wp2
    go_ret
    exact ⟨rfl, hB1⟩
  have t2 : decide (1000 < t) = false := decide_eq_false h2
  by_cases h3 : b < 0
  · have t3 : decide (b < 0) = true := decide_eq_true h3
    clear h3
    go_enter Try.func8, Try.ntmps8
    go_wp2_with fail
    refine (HAW.out _).mono ?_
    rintro e w1 ⟨rfl, hB1⟩
    go_wp2
    go_ret
    exact ⟨rfl, hB1⟩
  have t3 : decide (b < 0) = false := decide_eq_false h3
  by_cases h4 : 20 < b
  · have t4 : decide (20 < b) = true := decide_eq_true h4
    clear h4
    go_enter Try.func8, Try.ntmps8
    go_wp2_with fail
    refine (HAW.out _).mono ?_
    rintro e w1 ⟨rfl, hB1⟩
    go_wp2
    go_ret
    exact ⟨rfl, hB1⟩
  have t4 : decide (20 < b) = false := decide_eq_false h4
  by_cases h5 : o < 1
  · have t5 : decide (o < 1) = true := decide_eq_true h5
    clear h5
    go_enter Try.func8, Try.ntmps8
    go_wp2_with fail
    refine (HAW.out _).mono ?_
    rintro e w1 ⟨rfl, hB1⟩
    go_wp2
    go_ret
    exact ⟨rfl, hB1⟩
  have t5 : decide (o < 1) = false := decide_eq_false h5
  by_cases h6 : 1000 < o
  · have t6 : decide (1000 < o) = true := decide_eq_true h6
    clear h6
    go_enter Try.func8, Try.ntmps8
    go_wp2_with fail
    refine (HAW.out _).mono ?_
    rintro e w1 ⟨rfl, hB1⟩
    go_wp2
    go_ret
    exact ⟨rfl, hB1⟩
  have t6 : decide (1000 < o) = false := decide_eq_false h6
  have z1 : 1 ≤ f := by omega
  have z2 : f ≤ t := by omega
  have z3 : t ≤ 1000 := by omega
  have z4 : 0 ≤ b := by omega
  have z5 : b ≤ 20 := by omega
  have z6 : 1 ≤ o := by omega
  have z7 : o ≤ 1000 := by omega
  have HZ := Lib.hid (And.intro z1 (And.intro z2 (And.intro z3 (And.intro z4 (And.intro z5 (And.intro z6 z7))))))
  clear h0 h1 h2 h3 h4 h5 h6 z1 z2 z3 z4 z5 z6 z7 f1 f2 g1 g2 k1 k2 m1 m2
  have HD := Lib.hid (fun W => data_any 1 W (by omega) (by omega))
  go_enter Try.func8, Try.ntmps8
  go_wp2_with fail
  refine (HD.out _).mono ?_
  rintro e w2 ⟨a, c, rfl, hB2, hown⟩
  have HO := Lib.hid hown; clear hown
  go_wp2_with fail
  have hs2 := hB2.size
  have hal : ∀ (W : World) (u : Obj), Below W.heap.size W (W.alloc u) := fun W u => (Below.refl _ W).alloc (Nat.le_refl _) _
  have hP := puts_one (k := 1) (d := dat 1) (by omega) (by omega) (dat_len 1) (own_cap HO.out) (alloc_new (w := w2) (o := .cells #[.int .i64 1, .slice a 40 c] 39) rfl) ((Rd.of_own HO.out).2.below (hal _ _))
  have hB3 : Below w.heap.size w (w2.alloc (.cells #[.int .i64 1, .slice a 40 c] 39)) := hB2.alloc hs2 _
  generalize hpb : w2.heap.size = pb at *
  have hs3 : (w2.alloc (.cells #[.int .i64 1, .slice a 40 c] 39)).heap.size = pb + 1 := by simp [hpb]
  generalize w2.alloc (.cells #[.int .i64 1, .slice a 40 c] 39) = w3 at *
  have hP4 := hP.below (hal w3 (.cells #[.int .i64 3, .int .i64 0, .int .i64 5, .int .i64 f, .int .i64 t, .slice none 0 0, .slice (some ⟨pb, 0, none⟩) 1 1] 53))
  have hB4 := hB3.alloc (by omega) (.cells #[.int .i64 3, .int .i64 0, .int .i64 5, .int .i64 f, .int .i64 t, .slice none 0 0, .slice (some ⟨pb, 0, none⟩) 1 1] 53)
  have hs4 : (w3.alloc (.cells #[.int .i64 3, .int .i64 0, .int .i64 5, .int .i64 f, .int .i64 t, .slice none 0 0, .slice (some ⟨pb, 0, none⟩) 1 1] 53)).heap.size = pb + 1 + 1 := by simp [hs3]
  generalize w3.alloc (.cells #[.int .i64 3, .int .i64 0, .int .i64 5, .int .i64 f, .int .i64 t, .slice none 0 0, .slice (some ⟨pb, 0, none⟩) 1 1] 53) = w4 at *
  have hP5 := hP4.below (hal w4 (.cells #[.int .i64 4, .int .i64 b, .int .i64 0, .int .i64 o, .int .i64 0, .slice none 0 0, .slice none 0 0] 53))
  have hB5 := hB4.alloc (by omega) (.cells #[.int .i64 4, .int .i64 b, .int .i64 0, .int .i64 o, .int .i64 0, .slice none 0 0, .slice none 0 0] 53)
  have hs5 : (w4.alloc (.cells #[.int .i64 4, .int .i64 b, .int .i64 0, .int .i64 o, .int .i64 0, .slice none 0 0, .slice none 0 0] 53)).heap.size = pb + 1 + 1 + 1 := by simp [hs4]
  generalize w4.alloc (.cells #[.int .i64 4, .int .i64 b, .int .i64 0, .int .i64 o, .int .i64 0, .slice none 0 0, .slice none 0 0] 53) = w5 at *
  obtain ⟨y1, y2, y3, y4, y5, y6, y7⟩ := HZ.out
  have okA : HistOk w5 (realA f t (some ⟨pb, 0, none⟩) a c) :=
    ⟨(⟨by decide, by decide⟩ : Z64 3), (⟨by decide, by decide⟩ : Z64 0), (⟨by decide, by decide⟩ : Z64 5), (⟨by omega, by omega⟩ : Z64 f), (⟨by omega, by omega⟩ : Z64 t), Nat.zero_le _, by show 1 ≤ maxLen; unfold maxLen; omega, reads_nil _ _, hP5⟩
  have okB : HistOk w5 (realB b o) :=
    ⟨(⟨by decide, by decide⟩ : Z64 4), (⟨by omega, by omega⟩ : Z64 b), (⟨by decide, by decide⟩ : Z64 0), (⟨by omega, by omega⟩ : Z64 o), (⟨by decide, by decide⟩ : Z64 0), Nat.zero_le _, Nat.zero_le _, reads_nil _ _, puts_nil _ _⟩
  have h2 := hists_two (w := w5.alloc (.cells (encH (realA f t (some ⟨pb, 0, none⟩) a c) ++ encH (realB b o)).toArray 53)) (pb := w5.heap.size) (alloc_new rfl) (okA.below (hal _ _)) (okB.below (hal _ _))
  have bA : HB8 (realA f t (some ⟨pb, 0, none⟩) a c) := ⟨fun r hr => by simp [realA, histV] at hr, fun p hp => by simp [realA, histV] at hp; subst hp; exact dat_b8⟩
  have bB : HB8 (realB b o) := ⟨fun r hr => by simp [realB, histV] at hr, fun p hp => by simp [realB, histV] at hp⟩
  have CK := check_any 5 _ 2 _ _ (by simp) h2 (by intro x hx; simp at hx; rcases hx with rfl | rfl <;> simp [realA, realB, histV]) (by intro x hx; simp at hx; rcases hx with rfl | rfl <;> assumption)
  rw [real_check f t b o _ a c y1 y2 y4 y5, hs5] at CK
  have CKH := Lib.hid CK
  have hBz := hB5.alloc (by omega) (.cells (encH (realA f t (some ⟨pb, 0, none⟩) a c) ++ encH (realB b o)).toArray 53)
  have HBZ := Lib.hid hBz
  clear hP hP4 hP5 h2 bA bB CK hBz hal okA okB hB2 hB3 hB4 hB5 hs2 hs3 hs4 hs5 y1 y2 y3 y4 y5 y6 y7 HD
  by_cases hc1 : t < o
  · have u1 : decide (t < o) = true := decide_eq_true hc1
    by_cases hc2 : b < 5
    · have u2 : decide (b < 5) = true := decide_eq_true hc2
      rw [if_pos ⟨hc1, hc2⟩] at CKH
      clear hc1 hc2
      refine CKH.out.mono ?_
      rintro e w6 ⟨rfl, hB6⟩
      have HB6 := Lib.hid (HBZ.out.trans (hB6.mono HBZ.out.size))
      clear hB6 HBZ CKH
      go_wp2_with fail
      refine (HAW.out _).mono ?_
      rintro e w7 ⟨rfl, hB7⟩
      go_wp2
      go_ret
      exact ⟨rfl, HB6.out.trans (hB7.mono HB6.out.size)⟩
    · have u2 : decide (b < 5) = false := decide_eq_false hc2
      rw [if_neg (fun h => hc2 h.2)] at CKH
      clear hc1 hc2
      refine CKH.out.mono ?_
      rintro e w6 ⟨rfl, hB6⟩
      have HB6 := Lib.hid (HBZ.out.trans (hB6.mono HBZ.out.size))
      clear hB6 HBZ CKH
      go_wp2_with fail
      refine (HAW.out _).mono ?_
      rintro e w7 ⟨rfl, hB7⟩
      go_wp2
      go_ret
      exact ⟨rfl, HB6.out.trans (hB7.mono HB6.out.size)⟩
  · have u1 : decide (t < o) = false := decide_eq_false hc1
    rw [if_neg (fun h => hc1 h.1)] at CKH
    clear hc1
    refine CKH.out.mono ?_
    rintro e w6 ⟨rfl, hB6⟩
    have HB6 := Lib.hid (HBZ.out.trans (hB6.mono HBZ.out.size))
    clear hB6 HBZ CKH
    go_wp2_with fail
    refine (HAW.out _).mono ?_
    rintro e w7 ⟨rfl, hB7⟩
    go_wp2
    go_ret
    exact ⟨rfl, HB6.out.trans (hB7.mono HB6.out.size)⟩
end Go.Proofs.Ytdgnhimiamchmaa
