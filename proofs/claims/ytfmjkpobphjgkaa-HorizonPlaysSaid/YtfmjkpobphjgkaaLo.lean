import Derived.Test.YtfmjkpobphjgkaaR
namespace Go.Proofs.Ytfmjkpobphjgkaa
open Go.RowKit
open BigFrame Lib
open Go.ChangeMaps (setBlock)

/-- what is opened one behind the other -/
def ll : Nat → List Int → BD
  | _, [] => []
  | k, x :: l => ((k : Int) + 1, x) :: ll (k + 1) l
theorem ll_len : ∀ (l : List Int) (k : Nat), (ll k l).length = l.length
  | [], _ => rfl
  | x :: l, k => by simp [ll, ll_len l]
theorem ll_snoc : ∀ (l : List Int) (k : Nat) (x : Int), ll k (l ++ [x]) = ll k l ++ [(((k + l.length : Nat) : Int) + 1, x)]
  | [], k, x => by simp [ll]
  | y :: l, k, x => by simp [ll, ll_snoc l]; omega
theorem ll_mem : ∀ (l : List Int) (k : Nat) (p : Int × Int), p ∈ ll k l → ∃ j : Nat, l[j]? = some p.2 ∧ p.1 = (k : Int) + j + 1
  | [], _, p, h => by simp [ll] at h
  | x :: l, k, p, h => by
    simp only [ll, List.mem_cons] at h
    rcases h with rfl | h
    · exact ⟨0, rfl, by simp⟩
    · obtain ⟨j, h1, h2⟩ := ll_mem l (k + 1) p h
      exact ⟨j + 1, h1, by rw [h2]; simp; omega⟩
theorem low_mono {D D' : BD} (h : ∀ p ∈ D', p ∈ D) (now : Int) : low D now ≤ low D' now := by
  obtain ⟨a, _, c⟩ := low_le D now
  obtain ⟨_, b', _⟩ := low_le D' now
  rcases b' with e | ⟨p, hp, e⟩
  · omega
  · have := c p (h p hp); omega
theorem tm_mem {D : BD} (hn : (hs D).Nodup) {p : Int × Int} (hp : p ∈ D) : tm D p.1 = some p.2 := by
  induction D with
  | nil => simp at hp
  | cons q D ih =>
    simp only [hs, List.map_cons, List.nodup_cons] at hn
    rcases List.mem_cons.1 hp with rfl | hp
    · simp [tm]
    · have e : (q.1 == p.1) = false := by
        simp; intro e; exact hn.1 (e ▸ List.mem_map.2 ⟨p, hp, rfl⟩)
      have := ih hn.2 hp
      simp only [tm, List.find?_cons, e] at this ⊢
      exact this

set_option maxRecDepth 100000 in
set_option maxHeartbeats 1000000 in
theorem low_law (la : Option Addr) (lc : Nat) (l : List Int) (ca : Option Addr) (cc : Nat) (cs : List Int) (now : Int) (w : World) (hl : l.length ≤ 9223372036854775807) (hcl : cs.length ≤ 9223372036854775807) (h1 : Rd zi w la l) (h1c : Rd zi w ca cs) (_n0 : -9223372036854775808 ≤ now) (_n1 : now ≤ 9223372036854775807) :
    Calls Try.prog 4 #[.slice la l.length lc, .slice ca cs.length cc, .int .i64 now] w fun e w' => e = .returned (.bool true) ∧ Below w.heap.size w w' := by
  have HAW := Lib.hid awake_any
  have H1 := Lib.hid h1; have H1c := Lib.hid h1c; clear h1 h1c
  generalize hq : l.length = n at *
  have HN := Lib.hid hq; clear hq
  generalize hq : cs.length = m at *
  have HM := Lib.hid hq; clear hq
  by_cases hg : 100 < n ∨ 200 < m ∨ now < 0 ∨ 1099511627776 < now
  · have hx := Lib.hid hg
    clear hg
    go_enter Try.func4, Try.ntmps4
    by_cases g1 : 100 < n
    · go_wp2_with fail
      refine (HAW.out _).mono ?_
      rintro e w5 ⟨rfl, hB5⟩
      go_wp2
      go_ret
      exact ⟨rfl, hB5⟩
    · have g1' : n ≤ 100 := by omega
      by_cases g2 : 200 < m
      · go_wp2_with fail
        refine (HAW.out _).mono ?_
        rintro e w5 ⟨rfl, hB5⟩
        go_wp2
        go_ret
        exact ⟨rfl, hB5⟩
      · have g2' : m ≤ 200 := by omega
        by_cases g3 : now < 0
        · go_wp2_with fail
          refine (HAW.out _).mono ?_
          rintro e w5 ⟨rfl, hB5⟩
          go_wp2
          go_ret
          exact ⟨rfl, hB5⟩
        · have g3' : 0 ≤ now := by omega
          have g4 : 1099511627776 < now := by have := hx.out; omega
          go_wp2_with fail
          refine (HAW.out _).mono ?_
          rintro e w5 ⟨rfl, hB5⟩
          go_wp2
          go_ret
          exact ⟨rfl, hB5⟩
  · have g1 : n ≤ 100 := by omega
    have g2 : m ≤ 200 := by omega
    have g3 : 0 ≤ now := by omega
    have g4 : now ≤ 1099511627776 := by omega
    clear hg _n0 _n1 hl hcl
    go_enter Try.func4, Try.ntmps4
    go_wp2_with fail
    refine (new_any 1000 w).mono ?_
    rintro e w1 ⟨rfl, hB1, hM1⟩
    have hs1 := hB1.size
    have HM1 := Lib.hid hM1; clear hM1
    have hr1 : w.heap.size < w1.heap.size := HM1.out.map.lt
    generalize hr : w.heap.size = r at *
    go_wp2_with fail
    go_loopw [8] (fun iv wr => ∃ i : Nat, i ≤ n ∧ iv = .int .i64 i ∧ Below r w wr ∧ r < wr.heap.size ∧ BookAt wr (r + 1) r 1000 i (ll 0 (l.take i))) (fun iv _ => n - (intOf iv).toNat)
    case atStart => exact ⟨0, Nat.zero_le _, rfl, hB1, hr1, HM1.out⟩
    case round =>
      obtain ⟨i, hi, rfl, hB, hrr, hM⟩ := hrel
      have HMi := Lib.hid hM; clear hM
      by_cases hlt : i < n
      · have hx : l[i]? = some (l[i]'(by rw [HN.out]; exact hlt)) := List.getElem?_eq_getElem _
        generalize l[i]'(by rw [HN.out]; exact hlt) = x at hx
        obtain ⟨b1, o1, ea, e1, d1⟩ := H1.out.below (by rw [hr]; exact hB) i x hx
        simp only [zi] at d1
        subst ea
        have HX := Lib.hid hx; clear hx
        have hlen : (l.take i).length = i := by rw [List.length_take, HN.out]; omega
        by_cases hok : x < 0 ∨ 1099511627776 < x
        · have O := Lib.hid (open_arg (some ⟨r + 1, 0, none⟩) x wr hok)
          by_cases hx0 : x < 0
          · have t1 : decide (x < 0) = true := by simpa using hx0
            clear hok
            go_wp2_with fail
            refine O.out.mono ?_
            rintro e w' ⟨rfl, rfl⟩
            go_wp2_with fail
            refine (HAW.out _).mono ?_
            rintro e w5 ⟨rfl, hB5⟩
            go_wp2
            go_ret
            exact ⟨rfl, by rw [hr]; exact hB.trans (hB5.mono (by omega))⟩
          · have hx1 : 1099511627776 < x := by omega
            have t1 : decide (x < 0) = false := by simpa using hx0
            have t2 : decide (1099511627776 < x) = true := by simpa using hx1
            clear hok
            go_wp2_with fail
            refine O.out.mono ?_
            rintro e w' ⟨rfl, rfl⟩
            go_wp2_with fail
            refine (HAW.out _).mono ?_
            rintro e w5 ⟨rfl, hB5⟩
            go_wp2
            go_ret
            exact ⟨rfl, by rw [hr]; exact hB.trans (hB5.mono (by omega))⟩
        · have hc : ocode 1000 (ll 0 (l.take i)).length x = 0 := by
            unfold ocode
            rw [if_neg hok, ll_len, hlen, if_neg (by omega)]
          have O := Lib.hid (open_ok x wr HMi.out (by omega) hc)
          have HLEN := Lib.hid hlen
          clear hc hlen hok
          go_wp2_with fail
          refine O.out.mono ?_
          rintro e w2 ⟨rfl, hC2, hM2⟩
          have hB2 : Below r w w2 := hB.trans (hC2.below (by omega) (fun k hk e => by omega))
          have hz := hC2.size
          have HM2 := Lib.hid hM2; clear hM2
          go_wp2
          go_roundw
          case rel =>
            refine ⟨i + 1, by omega, by go_num, hB2, by omega, ?_⟩
            rw [List.take_add_one, HX.out]
            have e := ll_snoc (l.take i) 0 x
            rw [HLEN.out, Nat.zero_add] at e
            rw [show l.take i ++ (some x).toList = l.take i ++ [x] from rfl, e]
            exact HM2.out
          case measure => simp [intOf]; omega
      · obtain rfl : i = n := by omega
        have htk : l.take i = l := List.take_of_length_le (by rw [HN.out]; omega)
        rw [htk] at HMi
        have L0 := Lib.hid (low_any now wr HMi.out)
        have hlo := low_le (ll 0 l) now
        have HSUB : Hid (∀ p ∈ ll 0 l, ∃ j : Nat, l[j]? = some p.2 ∧ p.1 = (j : Int) + 1) := fun p hp => by
          obtain ⟨j, h1, h2⟩ := ll_mem l 0 p hp
          exact ⟨j, h1, by rw [h2]; simp⟩
        clear htk
        generalize ll 0 l = D0 at *
        go_wp2_with fail
        refine L0.out.mono ?_
        rintro e w2 ⟨rfl, hB2⟩
        have hB2' : Below r w w2 := hB.trans (hB2.mono (by omega))
        have HM2 := Lib.hid (HMi.out.below hB2)
        have hr2 := HM2.out.map.lt
        have HLO := Lib.hid hlo; clear hlo
        generalize hv : low D0 now = v0
        have HV : Hid (v0 ≤ now ∧ v0 = low D0 now) := ⟨by rw [← hv]; exact HLO.out.1, hv.symm⟩
        clear hv
        go_wp2_with fail
        go_loopw [11, 12, 13, 14, 15, 16, 17, 18] (fun lv iv _ _ _ _ _ _ wr => ∃ (k : Nat) (D : BD) (v : Int), k ≤ m ∧ iv = .int .i64 k ∧ lv = .int .i64 v ∧ v = low D now ∧ v ≤ now ∧ Below r w wr ∧ r < wr.heap.size ∧ BookAt wr (r + 1) r 1000 i D ∧ (∀ p ∈ D, p ∈ D0)) (fun _ iv _ _ _ _ _ _ _ => m - (intOf iv).toNat)
        case atStart => exact ⟨0, D0, v0, Nat.zero_le _, rfl, rfl, HV.out.2, HV.out.1, hB2', hr2, HM2.out, fun p hp => hp⟩
        case round =>
          obtain ⟨k, D, v, hk, rfl, rfl, hvd, hvn, hBk, hrrk, hMk, hsub⟩ := hrel
          have HVD := Lib.hid hvd; have HMk := Lib.hid hMk; have HSB := Lib.hid hsub
          clear hvd hMk hsub
          by_cases hlt : k < m
          · have hx : cs[k]? = some (cs[k]'(by rw [HM.out]; exact hlt)) := List.getElem?_eq_getElem _
            generalize cs[k]'(by rw [HM.out]; exact hlt) = x at hx
            obtain ⟨b1, o1, ea, e1, d1⟩ := H1c.out.below (by rw [hr]; exact hBk) k x hx
            simp only [zi] at d1
            subst ea
            clear hx
            have C0 := close_any x wr HMk.out
            generalize (if (tm D x).isSome = true then (0 : Int) else 14) = cd at C0
            have C := Lib.hid C0
            clear C0
            go_wp2_with fail
            refine C.out.mono ?_
            rintro e w3 ⟨rfl, hC3, hM3⟩
            have hB3 : Below r w w3 := hBk.trans (hC3.below (by omega) (fun k hk e => by omega))
            have hr3 : r < w3.heap.size := hM3.map.lt
            have HS3 : Hid (∀ p ∈ cl D x, p ∈ D0) := fun p hp => HSB.out p (List.mem_filter.1 hp).1
            have hmono := low_mono (D := D) (D' := cl D x) (fun p hp => (List.mem_filter.1 hp).1) now
            rw [← HVD.out] at hmono
            have L3 := Lib.hid (low_any now w3 hM3)
            have HLO3 := Lib.hid (low_le (cl D x) now)
            have HMo3 := Lib.hid hmono
            have HM3 := Lib.hid hM3
            clear hM3 hmono
            generalize cl D x = D1 at *
            go_wp2_with fail
            refine L3.out.mono ?_
            rintro e w4 ⟨rfl, hB4⟩
            have hB4' : Below r w w4 := hB3.trans (hB4.mono (by omega))
            have HM4 := Lib.hid (HM3.out.below hB4)
            have LI := Lib.hid (list_any w4 HM4.out)
            generalize hv1 : low D1 now = v1 at *
            have HV1 := Lib.hid hv1; clear hv1
            have hvv : v ≤ v1 := HMo3.out
            have hvn1 : v1 ≤ now := HLO3.out.1
            have hD1n : D1.length ≤ 100 := by have := HM4.out.pure.len; omega
            generalize hmet : (v1 == now) = met
            have HMET : Hid (met = true ↔ v1 = now) := by show _ ↔ _; rw [← hmet]; simp
            go_wp2_with fail
            clear hmet
            refine LI.out.mono ?_
            rintro e w5 ⟨a5, c5, rfl, hB5, hown⟩
            have hB5' : Below r w w5 := hB4'.trans (hB5.mono (by have := hB4.size; omega))
            have HR5 := Lib.hid (Rd.of_own hown).2
            have HM5 := Lib.hid (HM4.out.below hB5)
            clear hown
            generalize hd1 : D1.length = dl at *
            have HDL := Lib.hid hd1; clear hd1
            have hr5 : r < w5.heap.size := HM5.out.map.lt
            go_wp2_with fail
            go_loopw [14, 16, 17, 18] (fun mv jv _ _ wr2 => ∃ (j : Nat) (b : Bool), j ≤ dl ∧ jv = .int .i64 j ∧ mv = .bool b ∧ Below w5.heap.size w5 wr2 ∧ (b = true ↔ v1 = now ∨ ∃ p ∈ D1.take j, p.2 = v1)) (fun _ jv _ _ _ => dl - (intOf jv).toNat)
            case atStart => exact ⟨0, met, Nat.zero_le _, rfl, rfl, Below.refl _ _, by rw [HMET.out]; simp⟩
            case round =>
              obtain ⟨j, b, hj, rfl, rfl, hB6, hb⟩ := hrel
              have HBI := Lib.hid hb; clear hb
              have hB6' : Below r w wr := hB5'.trans (hB6.mono (by omega))
              by_cases hjl : j < dl
              · have hp : D1[j]? = some (D1[j]'(by rw [HDL.out]; exact hjl)) := List.getElem?_eq_getElem _
                generalize D1[j]'(by rw [HDL.out]; exact hjl) = p at hp
                have hpm := List.mem_of_getElem? hp
                obtain ⟨q, hq1, hq2⟩ := HSUB.out p (HS3.out p hpm)
                obtain ⟨ph, pt⟩ := p
                simp only at hq1 hq2
                subst hq2
                have hvp : v1 ≤ pt := HLO3.out.2.2 _ hpm
                have HM6 := HM5.out.below hB6
                have A := at_any ((q : Int) + 1) wr HM6
                rw [show tm D1 ((q : Int) + 1) = some pt from tm_mem HM6.pure.nodup hpm] at A
                have HA := Lib.hid A
                have hph : (hs D1)[j]? = some ((q : Int) + 1) := by simp [hs, hp]
                obtain ⟨b5, o5, ea5, e5, d5⟩ := HR5.out.below hB6 j _ hph
                obtain ⟨b6, o6, ea6, e6, d6⟩ := H1.out.below (by rw [hr]; exact hB6') q _ hq1
                simp only [zi] at d5 d6
                subst ea5 ea6
                have HP := Lib.hid hp
                have hqn : q < i := by have := (List.getElem?_eq_some_iff.1 hq1).1; rw [HN.out] at this; exact this
                have t1 : decide (pt < v1) = false := by simp; omega
                clear A HM6 hph hp hpm hq1
                go_wp2_with fail
                refine HA.out.mono ?_
                rintro e w' ⟨rfl, rfl⟩
                cases b with
                | true =>
                  go_wp2
                  go_roundw
                  case rel =>
                    refine ⟨j + 1, true, by omega, by go_num, rfl, hB6, ?_⟩
                    simp only [true_iff]
                    rcases HBI.out.1 (by first | rfl | trivial) with h1 | ⟨p, h1, h2⟩
                    · exact .inl h1
                    · exact .inr ⟨p, by rw [List.take_add_one]; exact List.mem_append.2 (.inl h1), h2⟩
                  case measure => simp [intOf]; omega
                | false =>
                  by_cases hpv : pt = v1
                  · have t2 : (pt == v1) = true := by simpa using hpv
                    have HPV := Lib.hid hpv
                    clear hpv
                    go_wp2
                    go_roundw
                    case rel =>
                      refine ⟨j + 1, true, by omega, by go_num, rfl, hB6, ?_⟩
                      simp only [true_iff]
                      exact .inr ⟨((q : Int) + 1, pt), by rw [List.take_add_one, HP.out]; exact List.mem_append.2 (.inr (by simp)), HPV.out⟩
                    case measure => simp [intOf]; omega
                  · have t2 : (pt == v1) = false := by simpa using hpv
                    have HPV := Lib.hid hpv
                    clear hpv
                    go_wp2
                    go_roundw
                    case rel =>
                      refine ⟨j + 1, false, by omega, by go_num, rfl, hB6, ?_⟩
                      simp only [Bool.false_eq_true, false_iff]
                      rintro (h1 | ⟨p, h1, h2⟩)
                      · have := HBI.out.2 (.inl h1); cases this
                      · rw [List.take_add_one, HP.out] at h1
                        rcases List.mem_append.1 h1 with h1 | h1
                        · have := HBI.out.2 (.inr ⟨p, h1, h2⟩); cases this
                        · simp at h1; subst h1; exact HPV.out h2
                    case measure => simp [intOf]; omega
              · have hbt : b = true := by
                  rw [HBI.out]
                  rcases HLO3.out.2.1 with h1 | ⟨p, h1, h2⟩
                  · exact .inl h1
                  · exact .inr ⟨p, by rw [List.take_of_length_le (by rw [HDL.out]; omega)]; exact h1, h2.symm⟩
                subst hbt
                have HM6 := Lib.hid (HM5.out.below hB6)
                have hr6 := HM6.out.map.lt
                have t1 : decide (v1 < v) = false := by simp; omega
                have t2 : decide (now < v1) = false := by simp; omega
                go_wp2
                go_roundw
                case rel => exact ⟨k + 1, D1, v1, by omega, by go_num, rfl, HV1.out.symm, hvn1, hB6', hr6, HM6.out, HS3.out⟩
                case measure => simp [intOf]; omega
          · go_wp2_with fail
            refine (HAW.out _).mono ?_
            rintro e w5 ⟨rfl, hB5⟩
            go_wp2
            go_ret
            exact ⟨rfl, by rw [hr]; exact hBk.trans (hB5.mono (by omega))⟩

theorem low_row (la : Option Addr) (lc : Nat) (l : List Int) (ca : Option Addr) (cc : Nat) (cs : List Int) (now : Int) (w : World) (hl : l.length ≤ maxLen) (h1 : Rd zi w la l ∧ zok l) (hcl : cs.length ≤ maxLen) (h1c : Rd zi w ca cs ∧ zok cs) (n0 : -9223372036854775808 ≤ now) (n1 : now ≤ 9223372036854775807) :
    Calls Try.prog 4 #[.slice la l.length lc, .slice ca cs.length cc, .int .i64 now] w fun e w' => e = .returned (.bool true) ∧ Below w.heap.size w w' :=
  low_law la lc l ca cc cs now w (by unfold maxLen at hl; omega) (by unfold maxLen at hcl; omega) h1.1 h1c.1 n0 n1
end Go.Proofs.Ytfmjkpobphjgkaa
