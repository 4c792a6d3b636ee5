import Derived.Deep.RegionHeld3
import Derived.Test.YtfmjkpobphjgkaaPr2
import Derived.Test.YtfmjkpobphjgkaaPr3
namespace Go.Proofs.Ytfmjkpobphjgkaa
open Go.RowKit
open BigFrame Lib

theorem olast_le (most last : Int) (n : Nat) (t : Int) : olast most last n t ≤ last + 1 := by
  unfold olast; split <;> omega

set_option maxRecDepth 100000 in
set_option maxHeartbeats 800000 in
theorem plays_main (most : Int) (a : Option Addr) (c : Nat) (l : List IStep) (now : Int) (w : World) (hm : most ≤ 1000) (hn : l.length ≤ 300) (h1 : IStepsAt w a l) :
    Calls Try.prog 3 #[.int .i64 most, .slice a l.length c, .int .i64 now] w fun e w' => e = .returned (.bool true) ∧ Below w.heap.size w w' := by
  have HAW := Lib.hid awake_any
  have H1 := Lib.hid h1
  clear h1
  generalize hq : l.length = m at *
  have HM := Lib.hid hq; clear hq
  have t2 : decide (1000 < most) = false := by simpa using hm
  have t3 : decide (300 < (m : Int)) = false := by simp; omega
  go_enter Try.func3, Try.ntmps3
  go_wp2_with fail
  refine (new_any most w).mono ?_
  rintro e w1 ⟨rfl, hB1, hM1⟩
  have hg1 := lt_heap hM1.cell
  have hr1 := hM1.map.lt
  have hs1 := hB1.size
  go_wp2_with fail
  have hBa : Below w1.heap.size w1 (w1.alloc (.cells #[.int .i64 most, .slice none 0 0, .slice none 0 0, .int .i64 0] 29)) := (Below.refl _ w1).alloc (Nat.le_refl _) _
  have HBK := Lib.hid (hM1.below hBa)
  have HRF : Hid (RefB w1.heap.size (w1.alloc (.cells #[.int .i64 most, .slice none 0 0, .slice none 0 0, .int .i64 0] 29)) w1.heap.size most 0 [] (.slice none 0 0) (.slice none 0 0)) :=
    ⟨alloc_new rfl, World.ownsRow_nil _ _ _ _, World.ownsRow_nil _ _ _ _, Nat.le_refl _, hM1.pure⟩
  have hB2 : Below w.heap.size w (w1.alloc (.cells #[.int .i64 most, .slice none 0 0, .slice none 0 0, .int .i64 0] 29)) := hB1.trans (hBa.mono hs1)
  have hs2 : w1.heap.size < (w1.alloc (.cells #[.int .i64 most, .slice none 0 0, .slice none 0 0, .int .i64 0] 29)).heap.size := by simp
  clear hM1 hBa
  generalize w1.alloc (.cells #[.int .i64 most, .slice none 0 0, .slice none 0 0, .int .i64 0] 29) = w2 at *
  clear hB1
  generalize w1.heap.size = B at *
  go_wp2_with fail
  go_loopw [9] (fun iv wr => ∃ (i : Nat) (last : Int) (D : BD) (ov tv : Value), i ≤ m ∧ iv = .int .i64 i ∧ last ≤ i ∧ Below w.heap.size w wr ∧ B < wr.heap.size ∧ BookAt wr (w.heap.size + 1) w.heap.size most last D ∧ RefB B wr B most last D ov tv) (fun iv _ => m - (intOf iv).toNat)
  case atStart => exact ⟨0, 0, [], _, _, Nat.zero_le _, rfl, by omega, hB2, hs2, HBK.out, HRF.out⟩
  case round =>
    obtain ⟨i, last, D, ov, tv, hi, rfl, hli, hB, hBs, hBk, hRf⟩ := hrel
    have HBk := Lib.hid hBk; have HRf := Lib.hid hRf
    clear hBk hRf
    by_cases hlt : i < m
    · have hx : l[i]? = some (l[i]'(by rw [HM.out]; exact hlt)) := List.getElem?_eq_getElem _
      generalize l[i]'(by rw [HM.out]; exact hlt) = x at hx
      obtain ⟨b, o, rfl, e1, d0, d1, d2, d3⟩ := H1.out.below hB i x hx
      obtain ⟨b', o', eb, e0, _, _, _, _⟩ := H1.out i x hx
      cases eb
      obtain ⟨kd, N⟩ := x
      simp only at d0 d1
      have HST : Hid (∀ W, Below w.heap.size w W → W.cell? ⟨b, o + i * 2 + 1, none⟩ = some (.int .i64 N)) := by
        intro W hW
        obtain ⟨b'', o'', eb, _, _, q, _⟩ := H1.out.below hW i _ hx
        cases eb
        exact q
      clear hx d2 d3
      go_upto_if 42 with (fail)
      go_cut [10, 11, 12, 13] (fun _ _ _ _ wx => ∃ (last' : Int) (D' : BD) (ov' tv' : Value), last' ≤ i + 1 ∧ Below w.heap.size w wx ∧ B < wx.heap.size ∧ BookAt wx (w.heap.size + 1) w.heap.size most last' D' ∧ RefB B wx B most last' D' ov' tv')
      case first =>
        by_cases hk1 : kd = 1
        · subst hk1
          have HOP := Lib.hid (open_any N wr HBk.out (by omega))
          go_wp2_with fail
          refine HOP.out.mono ?_
          rintro e w3 ⟨rfl, hC3, hM3⟩
          have hs3 := hC3.size
          have HR3 := HRf.out.chg hC3 (fun k hk => by rcases hk with e | e <;> omega)
          have hB3 : Below w.heap.size w w3 := hB.trans (below_chg' hC3 hB.size (fun k hk => by omega))
          have d1' := HST.out w3 hB3
          have ROP := ropen_any N w3 HR3 (by omega) (by omega)
          unfold ROut at ROP
          have hol := olast_le most last D.length N
          generalize olast most last D.length N = last' at *
          generalize omore most last D N = D' at *
          generalize (if ocode most D.length N = 0 then last + 1 else 0) = xv at *
          generalize ocode most D.length N = cv at *
          have HROP := Lib.hid ROP; have HM3 := Lib.hid hM3
          have t5 : (xv != xv) = false := by simp
          have t6 : (cv != cv) = false := by simp
          clear ROP hM3 hC3 HR3 HOP
          go_wp2_with fail
          refine HROP.out.mono ?_
          rintro e w4 ⟨rfl, hC4, ov4, tv4, hR4⟩
          have HM4 := Lib.hid (HM3.out.chg hC4 (by omega) (by omega))
          have HR4 := Lib.hid hR4
          have hs4 := hC4.size
          have hB4 : Below w.heap.size w w4 := hB3.trans (below_chg' hC4 hB3.size (fun k hk => by omega))
          clear hC4 hR4
          go_wp2
          go_meet
          exact ⟨last', D', ov4, tv4, by omega, hB4, by omega, HM4.out, HR4.out⟩
        · have t5 : (kd == 1) = false := by simpa using hk1
          have CLO := Lib.hid (close_any N wr.drew (HBk.out.below ((Below.refl _ _).drew)))
          have t6 : ((if (tm D N).isSome = true then (0 : Int) else 14) != (if (tm D N).isSome = true then (0 : Int) else 14)) = false := by simp
          have RCL := Lib.hid (fun W (hR : RefB B W B most last D ov tv) (hW : B ≤ W.heap.size) => rclose_any N W hR hW)
          generalize (if (tm D N).isSome = true then (0 : Int) else 14) = rv at *
          have HTM := Lib.hid (rfl : cl D N = cl D N)
          clear hk1
          go_wp2_with fail
          go_region_held3 (fun W => W.cell? ⟨b, o + i * 2 + 1, none⟩ = some (.int .i64 N))
            (go_keep)
            (first
             | (go_at_call 12
                refine CLO.out.mono ?_
                rintro e w3 ⟨rfl, hC3, hM3⟩
                have hC3' : Chg (· = w.heap.size) wr w3 := ((Chg.refl _ wr).drew).trans hC3
                have hs3 := hC3'.size
                have HR3 := Lib.hid (HRf.out.chg hC3' (fun k hk => by omega))
                have hB3 : Below w.heap.size w w3 := hB.trans (below_chg' hC3' hB.size (fun k hk => by omega))
                have p1 := HST.out w3 hB3
                have HM3 := Lib.hid hM3
                clear hC3 hC3' hM3)
             | (go_at_call 13
                refine (RCL.out w3 HR3.out (by omega)).mono ?_
                rintro e w4 ⟨rfl, hC4, ov4, tv4, hR4⟩
                have HM4 := Lib.hid (HM3.out.chg hC4 (by omega) (by omega))
                have HR4 := Lib.hid hR4
                have hs4 := hC4.size
                have hB4 : Below w.heap.size w w4 := hB3.trans (below_chg' hC4 hB3.size (fun k hk => by omega))
                have p2 := HST.out w4 hB4
                clear hC4 hR4))
          all_goals
            (go_wp2
             go_meet
             exact ⟨last, _, ov4, tv4, by omega, hB4, by omega, HM4.out, HR4.out⟩)
      case rest =>
        obtain ⟨last', D', ov', tv', hll, hB5, hBs5, hBk5, hRf5⟩ := hcut
        obtain ⟨oa, oc, rfl⟩ := own_form hRf5.ho
        have hlen5 := hRf5.pure.len
        have hlast5 := hRf5.pure.l1
        have AT := Lib.hid (at_any N wc hBk5)
        have RAT := Lib.hid (rat_any N wc hRf5)
        have LOW := Lib.hid (fun W (hW : Below wc.heap.size wc W) => low_any now W (hBk5.below hW))
        have RLO := Lib.hid (fun W (hW : Below wc.heap.size wc W) => rlow_any now W (hRf5.below hW))
        have CNT := Lib.hid (fun W (hW : Below wc.heap.size wc W) => count_any W (hBk5.below hW))
        have LST := Lib.hid (fun W (hW : Below wc.heap.size wc W) => list_any W (hBk5.below hW))
        have HBk5 := Lib.hid hBk5; have HRf5 := Lib.hid hRf5
        have HC1 : Hid (∀ W, Below wc.heap.size wc W → W.cell? ⟨B, 1, none⟩ = some (.slice oa D'.length oc)) := fun W hW => (hW.cell (p := ⟨B, 1, none⟩) hBs5).trans hRf5.c1
        have k1 := HC1.out wc (Below.refl _ _)
        have d1' := HST.out wc hB5
        have hlD : (D'.length : Int) ≤ 1000000 := by omega
        clear hBk5 hRf5
        generalize hdl : D'.length = dl at *
        have HDL := Lib.hid hdl; clear hdl
        generalize low D' now = lw at *
        have u1 : (lw != lw) = false := by simp
        have u2 : ((dl : Int) != (dl : Int)) = false := by simp
        have TAIL : Hid (∃ (xv cv : Int), (Calls Try.prog 14 #[.pointer (some ⟨w.heap.size + 1, 0, none⟩), .int .i64 N] wc fun e w' => e = .returned (.tuple #[.int .i64 xv, .int .i64 cv]) ∧ wc = w') ∧ (Calls Try.prog 15 #[.pointer (some ⟨B, 0, none⟩), .int .i64 N] wc fun e w' => e = .returned (.tuple #[.int .i64 xv, .int .i64 cv]) ∧ wc = w')) := by
          have h1 := AT.out
          have h2 := RAT.out
          cases ht : tm D' N with
          | none => rw [ht] at h1 h2; exact ⟨0, 14, h1, h2⟩
          | some t => rw [ht] at h1 h2; exact ⟨t, 0, h1, h2⟩
        obtain ⟨xv, cv, hA1, hA2⟩ := TAIL.out
        have HA1 := Lib.hid hA1; have HA2 := Lib.hid hA2
        have u3 : (xv != xv) = false := by simp
        have u4' : (cv != cv) = false := by simp
        clear hA1 hA2 AT RAT TAIL
        go_wp2_with fail
        refine HA1.out.mono ?_
        rintro e w6 ⟨rfl, rfl⟩
        go_wp2_with fail
        refine HA2.out.mono ?_
        rintro e w6 ⟨rfl, rfl⟩
        go_wp2_with fail
        go_region_held3 (fun W => W.cell? ⟨B, 1, none⟩ = some (.slice oa dl oc))
          (go_keep)
          (first
           | (go_at_call 16
              refine (LOW.out _ ((Below.refl _ _).drew)).mono ?_
              rintro e w7 ⟨rfl, hB7⟩
              have hB7' : Below wc.heap.size wc w7 := (Below.refl _ _).drew.trans hB7
              have p7 := HC1.out w7 hB7')
           | (go_at_call 17
              refine (RLO.out w7 hB7').mono ?_
              rintro e w8 ⟨rfl, rfl⟩)
           | (go_at_call 18
              refine (CNT.out w7 hB7').mono ?_
              rintro e w8 ⟨rfl, hB8⟩
              have hB8' : Below wc.heap.size wc w8 := hB7'.trans (hB8.mono hB7'.size)
              have p8 := HC1.out w8 hB8')
           | (go_at_call 20
              refine (LST.out w8 hB8').mono ?_
              rintro e w9 ⟨a9, c9, rfl, hB9, hown9⟩
              have hB9' : Below wc.heap.size wc w9 := hB8'.trans (hB9.mono hB8'.size)
              have p9 := HC1.out w9 hB9'
              have hho := (HRf5.out.below hB9').ho
              rw [HDL.out] at hho
              have IE := ints_any a9 oa c9 oc (hs D') (hs D') w9 (by rw [hs_len, HDL.out]; omega) (by rw [hs_len, HDL.out]; omega) (Rd.of_own hown9).2 (Rd.of_own hho).2
              rw [hs_len, HDL.out, decide_eq_true rfl] at IE
              have HIE := Lib.hid IE
              clear IE hho hown9)
           | (go_at_call 19
              refine HIE.out.mono ?_
              rintro e w10 ⟨rfl, hB10⟩
              have hB10' : Below wc.heap.size wc w10 := hB9'.trans (hB10.mono hB9'.size)
              have p10 := HC1.out w10 hB10'))
        all_goals
          (go_wp2
           go_roundw
           case rel => exact ⟨i + 1, last', D', _, _, by omega, by go_num, by omega, hB5.trans (hB10'.mono hB5.size), by have := hB10'.size; omega, HBk5.out.below hB10', HRf5.out.below hB10'⟩
           case measure => simp [intOf]; omega)
    · go_wp2_with fail
      refine (HAW.out _).mono ?_
      rintro e w5 ⟨rfl, hB5⟩
      go_wp2
      go_ret
      exact ⟨rfl, hB.trans (hB5.mono hB.size)⟩
end Go.Proofs.Ytfmjkpobphjgkaa
