import Derived.Test.YtfmjkpobphjgkaaH3
namespace Go.Proofs.Ytfmjkpobphjgkaa
open Go.RowKit
open BigFrame Lib
open Go.ChangeMaps (setBlock)

/-- k opened, at the times 0, 1, .. -/
def dd (k : Nat) : BD := (List.range k).map fun j : Nat => ((j : Int) + 1, (j : Int))
theorem dd_len (k : Nat) : (dd k).length = k := by simp [dd]
theorem dd_succ (k : Nat) : dd (k + 1) = dd k ++ [((k : Int) + 1, (k : Int))] := by simp [dd, List.range_succ]
theorem dd_low (k : Nat) (h : 0 < k) : low (dd k) 1000 = 0 := by
  refine (low_of (by omega) (.inr ⟨(1, 0), ?_, rfl⟩) (fun p hp => ?_)).symm
  · exact List.mem_map.2 ⟨0, by simp; exact h, rfl⟩
  · obtain ⟨j, _, rfl⟩ := List.mem_map.1 hp
    show (0 : Int) ≤ (j : Int); omega
theorem tm_some_iff (D : BD) (h : Int) : (tm D h).isSome = true ↔ h ∈ hs D := by
  unfold tm hs
  rw [Option.isSome_map, List.find?_isSome, List.mem_map]
  constructor
  · rintro ⟨p, hp, h1⟩; exact ⟨p, hp, by simpa using h1⟩
  · rintro ⟨p, hp, h1⟩; exact ⟨p, hp, by simpa using h1⟩
theorem dd_mem (k : Nat) (h : Int) : h ∈ hs (dd k) ↔ 1 ≤ h ∧ h ≤ k := by
  simp only [hs, dd, List.map_map, List.mem_map, List.mem_range, Function.comp]
  constructor
  · rintro ⟨j, h1, rfl⟩; omega
  · rintro ⟨h1, h2⟩; exact ⟨(h - 1).toNat, by omega, by omega⟩
theorem cl_len {D : BD} (hn : (hs D).Nodup) {h : Int} (hm : h ∈ hs D) : (cl D h).length + 1 = D.length := by
  induction D with
  | nil => simp [hs] at hm
  | cons p D ih =>
    simp only [hs, List.map_cons, List.nodup_cons] at hn
    simp only [hs, List.map_cons, List.mem_cons] at hm
    by_cases e : p.1 = h
    · subst e
      have hd : D.filter (fun q => q.1 != p.1) = D := by
        rw [List.filter_eq_self]
        intro q hq
        simp
        intro e
        exact hn.1 (List.mem_map.2 ⟨q, hq, e⟩)
      simp [cl, hd]
    · have := ih hn.2 (by rcases hm with h1 | h1; exact (e h1.symm).elim; exact h1)
      have e1 : (p.1 != h) = true := by simpa using e
      simp only [cl, List.filter_cons, e1, if_true, List.length_cons] at this ⊢
      omega
theorem ocode_room (most : Int) (i : Nat) (hi : i ≤ 80) : ocode most (min i most.toNat) i = if (i : Int) < most then 0 else 6 := by
  unfold ocode
  rw [if_neg (by omega)]
  by_cases h : (i : Int) < most
  · rw [if_pos h, if_neg (by omega)]
  · rw [if_neg h, if_pos (by omega)]

set_option maxRecDepth 100000 in
set_option maxHeartbeats 1000000 in
theorem room_law (most n c : Int) (w : World) (_a0 : -9223372036854775808 ≤ most) (_a1 : most ≤ 9223372036854775807) (_b0 : -9223372036854775808 ≤ n) (_b1 : n ≤ 9223372036854775807) (_c0 : -9223372036854775808 ≤ c) (_c1 : c ≤ 9223372036854775807) :
    Calls Try.prog 7 #[.int .i64 most, .int .i64 n, .int .i64 c] w fun e w' => e = .returned (.bool true) ∧ Below w.heap.size w w' := by
  have HAW := Lib.hid awake_any
  by_cases hg : most < -5 ∨ 60 < most ∨ n < 0 ∨ 80 < n
  · go_enter Try.func7, Try.ntmps7
    have hx : Hid (most < -5 ∨ 60 < most ∨ n < 0 ∨ 80 < n) := hg
    clear hg
    by_cases h1 : most < -5
    · go_wp2_with fail
      refine (HAW.out _).mono ?_
      rintro e w5 ⟨rfl, hB5⟩
      go_wp2
      go_ret
      exact ⟨rfl, hB5⟩
    · by_cases h2 : 60 < most
      · go_wp2_with fail
        refine (HAW.out _).mono ?_
        rintro e w5 ⟨rfl, hB5⟩
        go_wp2
        go_ret
        exact ⟨rfl, hB5⟩
      · by_cases h3 : n < 0
        · go_wp2_with fail
          refine (HAW.out _).mono ?_
          rintro e w5 ⟨rfl, hB5⟩
          go_wp2
          go_ret
          exact ⟨rfl, hB5⟩
        · have h4 : 80 < n := by have := hx.out; omega
          go_wp2_with fail
          refine (HAW.out _).mono ?_
          rintro e w5 ⟨rfl, hB5⟩
          go_wp2
          go_ret
          exact ⟨rfl, hB5⟩
  · have g1 : -5 ≤ most := by omega
    have g2 : most ≤ 60 := by omega
    have g3 : 0 ≤ n := by omega
    have g4 : n ≤ 80 := by omega
    clear hg _a0 _a1 _b0 _b1
    obtain ⟨m, rfl⟩ : ∃ m : Nat, n = m := ⟨n.toNat, by omega⟩
    go_enter Try.func7, Try.ntmps7
    go_wp2_with fail
    refine (new_any most w).mono ?_
    rintro e w1 ⟨rfl, hB1, hM1⟩
    have hs1 := hB1.size
    have HM1 := Lib.hid hM1; clear hM1
    have hr1 : w.heap.size < w1.heap.size := HM1.out.map.lt
    generalize hr : w.heap.size = r at *
    go_wp2_with fail
    go_loopw [8] (fun iv wr => ∃ i : Nat, i ≤ m ∧ iv = .int .i64 i ∧ Below r w wr ∧ r < wr.heap.size ∧ BookAt wr (r + 1) r most (min i most.toNat : Nat) (dd (min i most.toNat))) (fun iv _ => m - (intOf iv).toNat)
    case atStart => exact ⟨0, Nat.zero_le _, rfl, hB1, hr1, by simpa [dd] using HM1.out⟩
    case round =>
      obtain ⟨i, hi, rfl, hB, hrr, hM⟩ := hrel
      have HM := Lib.hid hM; clear hM
      by_cases hlt : i < m
      · have O1 := open_any i wr HM.out (by omega)
        rw [dd_len, ocode_room most i (by omega)] at O1
        by_cases hm : (i : Int) < most
        · rw [if_pos hm, if_pos rfl] at O1
          unfold olast omore at O1
          rw [dd_len, ocode_room most i (by omega), if_pos hm, if_pos rfl, if_pos rfl] at O1
          have ek : min i most.toNat = i := by omega
          have O2 := Lib.hid O1
          rw [ek] at O2
          have EK := Lib.hid ek
          clear O1 ek
          go_wp2_with fail
          refine O2.out.mono ?_
          rintro e w2 ⟨rfl, hC2, hM2⟩
          have hB2 : Below r w w2 := hB.trans (hC2.below (by omega) (fun k hk e => by omega))
          have hz := hC2.size
          have HM2 := Lib.hid hM2; clear hM2
          go_wp2
          go_roundw
          case rel =>
            refine ⟨i + 1, by omega, by go_num, hB2, by omega, ?_⟩
            rw [show min (i + 1) most.toNat = i + 1 by omega, dd_succ]
            exact HM2.out
          case measure => simp [intOf]; omega
        · rw [if_neg hm] at O1
          unfold olast omore at O1
          rw [dd_len, ocode_room most i (by omega), if_neg hm] at O1
          have O2 := Lib.hid O1
          clear O1
          have hm1 : decide ((i : Int) < most) = false := by simpa using hm
          have hm2 : most ≤ (i : Int) := by omega
          clear hm
          go_wp2_with fail
          refine O2.out.mono ?_
          rintro e w2 ⟨rfl, hC2, hM2⟩
          have hB2 : Below r w w2 := hB.trans (hC2.below (by omega) (fun k hk e => by omega))
          have hz := hC2.size
          have HM2 := Lib.hid hM2; clear hM2
          go_wp2
          go_roundw
          case rel =>
            refine ⟨i + 1, by omega, by go_num, hB2, by omega, ?_⟩
            rw [show min (i + 1) most.toNat = min i most.toNat by omega]
            exact HM2.out
          case measure => simp [intOf]; omega
      · obtain rfl : i = m := by omega
        have hk : min (i : Int) (max most 0) = ((min i most.toNat : Nat) : Int) := by omega
        have hk1 : min i most.toNat ≤ 60 := by omega
        have hk2 : Hid (1 ≤ min i most.toNat → ((min i most.toNat : Nat) : Int) ≤ most) := fun h => by omega
        have hk0 : Hid (most ≤ 0 → min i most.toNat = 0) := fun h => by omega
        generalize min i most.toNat = k at *
        have CO := Lib.hid (dd_len k ▸ count_any wr HM.out)
        have LO := Lib.hid (fun W (hW : Below wr.heap.size wr W) => low_any 1000 W (HM.out.below hW))
        -- what follows is one for k = 0 and for others
        have TAIL : Hid (∀ W, Below wr.heap.size wr W → Calls Try.prog 12 #[.pointer (some ⟨r + 1, 0, none⟩), .int .i64 c] W fun e w' => e = .returned (.int .i64 (if 1 ≤ c ∧ c ≤ k then 0 else 14)) ∧ Chg (· = r) W w' ∧ ∃ D, BookAt w' (r + 1) r most k D ∧ (D.length : Int) = if 1 ≤ c ∧ c ≤ k then (k : Int) - 1 else k) := by
          intro W hW
          refine (close_any c W (HM.out.below hW)).mono ?_
          rintro e w' ⟨rfl, hC, hM⟩
          have hn := HM.out.pure.nodup
          by_cases hin : 1 ≤ c ∧ c ≤ k
          · have h1 : (tm (dd k) c).isSome = true := (tm_some_iff _ _).2 ((dd_mem k c).2 hin)
            rw [h1, if_pos rfl, if_pos hin, if_pos hin]
            refine ⟨rfl, hC, _, hM, ?_⟩
            have := cl_len hn ((dd_mem k c).2 hin)
            rw [dd_len] at this
            omega
          · have h1 : tm (dd k) c = none := by
              cases ht : tm (dd k) c with
              | none => rfl
              | some t => exact (hin ((dd_mem k c).1 ((tm_some_iff _ _).1 (by rw [ht]; rfl)))).elim
            rw [cl_none h1] at hM
            rw [h1, if_neg hin, if_neg hin]
            exact ⟨rfl, hC, _, hM, by rw [dd_len]⟩
        by_cases hk3 : k = 0
        · have t1 : decide ((0 : Int) < (k : Int)) = false := by simp; omega
          have t1' : decide (0 < k) = false := by simp; omega
          have K1 : k ≤ 0 := by omega
          clear hk3
          go_wp2_with fail
          refine CO.out.mono ?_
          rintro e w2 ⟨rfl, hB2⟩
          have T2 := Lib.hid (TAIL.out _ hB2)
          have HB : Hid (Below r w w2) := hB.trans (hB2.mono (by omega))
          by_cases hin : 1 ≤ c ∧ c ≤ k
          · have i1 := hin.1
            have i2 := hin.2
            rw [if_pos hin, if_pos hin] at T2
            have J : (k : Int) ≤ most := hk2.out (by omega)
            have t5 : decide ((k : Int) - 1 < most) = true := by simp; omega
            clear hin
            go_wp2_with fail
            refine T2.out.mono ?_
            rintro e w4 ⟨rfl, hC4, D, hM4, hl4⟩
            have hB4 : Below r w w4 := HB.out.trans (hC4.below (by have := HB.out.size; omega) (fun k hk e => by omega))
            have O := open_any 5 w4 hM4 (by omega)
            rw [show ocode most D.length 5 = 0 by unfold ocode; rw [if_neg (by omega), if_neg (by omega)]] at O
            have O2 := Lib.hid O
            clear O hM4 hl4
            go_wp2_with fail
            refine O2.out.mono ?_
            rintro e w5 ⟨rfl, hC5, hM5⟩
            have hB5 : Below r w w5 := hB4.trans (hC5.below (by have := hB4.size; omega) (fun k hk e => by omega))
            clear hM5
            go_wp2_with fail
            refine (HAW.out _).mono ?_
            rintro e w6 ⟨rfl, hB6⟩
            go_wp2
            go_ret
            exact ⟨rfl, by rw [hr]; exact hB5.trans (hB6.mono (by have := hB5.size; omega))⟩
          · rw [if_neg hin, if_neg hin] at T2
            have t6 : (decide (1 ≤ c) && decide (c ≤ (k : Int))) = false := by simp; omega
            by_cases i1 : 1 ≤ c
            all_goals
              first
              | have i2 : decide (c ≤ (k : Int)) = false := by simp; omega
              | have i2 : decide (1 ≤ c) = false := by simpa using i1
              by_cases hkm : (k : Int) < most
              all_goals
                first
                | have t5 : decide ((k : Int) < most) = true := by simpa using hkm
                | have t5 : decide ((k : Int) < most) = false := by simpa using hkm
                clear hin
                go_wp2_with fail
                refine T2.out.mono ?_
                rintro e w4 ⟨rfl, hC4, D, hM4, hl4⟩
                have hB4 : Below r w w4 := HB.out.trans (hC4.below (by have := HB.out.size; omega) (fun k hk e => by omega))
                have O := open_any 5 w4 hM4 (by omega)
                first
                | rw [show ocode most D.length 5 = 0 by unfold ocode; rw [if_neg (by omega), if_neg (by omega)]] at O
                | rw [show ocode most D.length 5 = 6 by unfold ocode; rw [if_neg (by omega), if_pos (by omega)]] at O
                have O2 := Lib.hid O
                clear O hM4 hl4
                go_wp2_with fail
                refine O2.out.mono ?_
                rintro e w5 ⟨rfl, hC5, hM5⟩
                have hB5 : Below r w w5 := hB4.trans (hC5.below (by have := hB4.size; omega) (fun k hk e => by omega))
                clear hM5
                go_wp2_with fail
                refine (HAW.out _).mono ?_
                rintro e w6 ⟨rfl, hB6⟩
                go_wp2
                go_ret
                exact ⟨rfl, by rw [hr]; exact hB5.trans (hB6.mono (by have := hB5.size; omega))⟩
        · have t1 : decide ((0 : Int) < (k : Int)) = true := by simp; omega
          have t0 : (0 : Int) < (k : Int) := by omega
          have L0 := LO.out
          rw [dd_low k (by omega)] at L0
          have L0 := Lib.hid L0
          go_wp2_with fail
          refine CO.out.mono ?_
          rintro e w2 ⟨rfl, hB2⟩
          go_wp2_with fail
          refine (L0.out _ hB2).mono ?_
          rintro e w3 ⟨rfl, hB3⟩
          have T2 := Lib.hid (TAIL.out _ (hB2.trans (hB3.mono hB2.size)))
          have HB : Hid (Below r w w3) := (hB.trans (hB2.mono (by omega))).trans (hB3.mono (by have := hB2.size; omega))
          by_cases hin : 1 ≤ c ∧ c ≤ k
          · have i1 := hin.1
            have i2 := hin.2
            rw [if_pos hin, if_pos hin] at T2
            have J : (k : Int) ≤ most := hk2.out (by omega)
            have t5 : decide ((k : Int) - 1 < most) = true := by simp; omega
            clear hin
            go_wp2_with fail
            refine T2.out.mono ?_
            rintro e w4 ⟨rfl, hC4, D, hM4, hl4⟩
            have hB4 : Below r w w4 := HB.out.trans (hC4.below (by have := HB.out.size; omega) (fun k hk e => by omega))
            have O := open_any 5 w4 hM4 (by omega)
            rw [show ocode most D.length 5 = 0 by unfold ocode; rw [if_neg (by omega), if_neg (by omega)]] at O
            have O2 := Lib.hid O
            clear O hM4 hl4
            go_wp2_with fail
            refine O2.out.mono ?_
            rintro e w5 ⟨rfl, hC5, hM5⟩
            have hB5 : Below r w w5 := hB4.trans (hC5.below (by have := hB4.size; omega) (fun k hk e => by omega))
            clear hM5
            go_wp2_with fail
            refine (HAW.out _).mono ?_
            rintro e w6 ⟨rfl, hB6⟩
            go_wp2
            go_ret
            exact ⟨rfl, by rw [hr]; exact hB5.trans (hB6.mono (by have := hB5.size; omega))⟩
          · rw [if_neg hin, if_neg hin] at T2
            have t6 : (decide (1 ≤ c) && decide (c ≤ (k : Int))) = false := by simp; omega
            by_cases i1 : 1 ≤ c
            all_goals
              first
              | have i2 : decide (c ≤ (k : Int)) = false := by simp; omega
              | have i2 : decide (1 ≤ c) = false := by simpa using i1
              by_cases hkm : (k : Int) < most
              all_goals
                first
                | have t5 : decide ((k : Int) < most) = true := by simpa using hkm
                | have t5 : decide ((k : Int) < most) = false := by simpa using hkm
                clear hin
                go_wp2_with fail
                refine T2.out.mono ?_
                rintro e w4 ⟨rfl, hC4, D, hM4, hl4⟩
                have hB4 : Below r w w4 := HB.out.trans (hC4.below (by have := HB.out.size; omega) (fun k hk e => by omega))
                have O := open_any 5 w4 hM4 (by omega)
                first
                | rw [show ocode most D.length 5 = 0 by unfold ocode; rw [if_neg (by omega), if_neg (by omega)]] at O
                | rw [show ocode most D.length 5 = 6 by unfold ocode; rw [if_neg (by omega), if_pos (by omega)]] at O
                have O2 := Lib.hid O
                clear O hM4 hl4
                go_wp2_with fail
                refine O2.out.mono ?_
                rintro e w5 ⟨rfl, hC5, hM5⟩
                have hB5 : Below r w w5 := hB4.trans (hC5.below (by have := hB4.size; omega) (fun k hk e => by omega))
                clear hM5
                go_wp2_with fail
                refine (HAW.out _).mono ?_
                rintro e w6 ⟨rfl, hB6⟩
                go_wp2
                go_ret
                exact ⟨rfl, by rw [hr]; exact hB5.trans (hB6.mono (by have := hB5.size; omega))⟩
end Go.Proofs.Ytfmjkpobphjgkaa
