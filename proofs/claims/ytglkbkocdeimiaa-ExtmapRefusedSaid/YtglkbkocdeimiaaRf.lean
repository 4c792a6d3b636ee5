import Derived.Deep.RegionHeld3
import Derived.Test.YtglkbkocdeimiaaSp
namespace Go.Proofs.Ytglkbkocdeimiaa
open Go.RowKit
open BigFrame Lib
open Go.ChangeMaps (setBlock)

attribute [local irreducible] vers
set_option maxRecDepth 100000 in
set_option maxHeartbeats 600000 in
theorem xrefused_any (a : Option Addr) (c : Nat) (l : List StV) (x : TxV) (s : Int) (w : World) (hn : l.length ≤ 9223372036854775807) (h1 : StepsAt w a l) (hx : TxOk w x) (hs0 : -9223372036854775808 ≤ s) (hs1 : s ≤ 9223372036854775807) :
    Calls Try.prog 6 #[.slice a l.length c, .agg #[.int .i64 x.time, .slice x.a x.l.length x.c], .int .i64 s] w fun e w' => e = .returned (.bool true) ∧ Below w.heap.size w w' := by
  obtain ⟨T, pa, pc, pl⟩ := x
  obtain ⟨hT, hpm, hP⟩ := hx
  simp only at hT hpm hP ⊢
  have HAW := Lib.hid awake_any
  have hB0 : Below w.heap.size w (w.alloc (.cells #[.int .i64 T, .slice pa pl.length pc] 32)) := (Below.refl _ w).alloc (Nat.le_refl _) _
  have hbx : Hid ((w.alloc (.cells #[.int .i64 T, .slice pa pl.length pc] 32)).heap[w.heap.size]? = some (.cells #[.int .i64 T, .slice pa pl.length pc] 32 (0, 0))) := alloc_new rfl
  have hsz : (w.alloc (.cells #[.int .i64 T, .slice pa pl.length pc] 32)).heap.size = w.heap.size + 1 := by simp
  have H1 := Lib.hid h1; have HPP := Lib.hid hP; have HTT := Lib.hid hT
  have SM := Lib.hid (small_any a c l (w.alloc (.cells #[.int .i64 T, .slice pa pl.length pc] 32)) hn (h1.below hB0))
  have PU := Lib.hid (fun W (hW : Below w.heap.size w W) => puts_any pa pc pl 5000 W (by unfold maxLen at hpm; omega) (by omega) (by omega) (hP.below hW))
  clear h1 hP hpm hT
  generalize hq : l.length = m at *
  have HM := Lib.hid hq; clear hq
  generalize hq : pl.length = pm at *
  have HPM := Lib.hid hq; clear hq
  go_enter Try.func6, Try.ntmps6
  go_wp2_with fail
  generalize w.alloc (.cells #[.int .i64 T, .slice pa pm pc] 32) = w0 at *
  refine SM.out.mono ?_
  rintro e w1 ⟨⟨b, rfl, hb⟩, hB1⟩
  have hB1' : Below (w.heap.size + 1) w0 w1 := by rw [← hsz]; exact hB1
  have hw1 := hB1.size
  have c01 : w1.heap[w.heap.size]? = some (.cells #[.int .i64 T, .slice pa pm pc] 32 (0, 0)) := (hB1.block _ (by omega)).trans hbx.out
  have x0 : w1.cell? ⟨w.heap.size, 0, none⟩ = some (.int .i64 T) := cell_heap (c := [.int .i64 T, .slice pa pm pc]) c01 rfl
  have x1 : w1.cell? ⟨w.heap.size, 1, none⟩ = some (.slice pa pm pc) := cell_heap (c := [.int .i64 T, .slice pa pm pc]) c01 rfl
  have hsz1 : w.heap.size + 1 ≤ w0.heap.size := by omega
  have hsz2 : w0.heap.size ≤ w.heap.size + 1 := by omega
  have BK : Hid (∀ W, Below (w.heap.size + 1) w0 W → Below w.heap.size w W) := fun W hW => hB0.trans (hW.mono (by omega))
  have BX : Hid (∀ W, Below (w.heap.size + 1) w0 W → W.cell? ⟨w.heap.size, 0, none⟩ = some (.int .i64 T) ∧ W.cell? ⟨w.heap.size, 1, none⟩ = some (.slice pa pm pc)) := by
    intro W hW
    have : W.heap[w.heap.size]? = some (.cells #[.int .i64 T, .slice pa pm pc] 32 (0, 0)) := (hW.block _ (by omega)).trans hbx.out
    exact ⟨cell_heap (c := [.int .i64 T, .slice pa pm pc]) this rfl, cell_heap (c := [.int .i64 T, .slice pa pm pc]) this rfl⟩
  clear hsz c01
  cases b with
  | false =>
    clear hb
    go_wp2_with fail
    refine (HAW.out _).mono ?_
    rintro e w6 ⟨rfl, hB6⟩
    go_wp2
    go_ret
    exact ⟨rfl, BK.out _ (hB1'.trans (hB6.mono (by omega)))⟩
  | true =>
    have HSM := Lib.hid (hb rfl)
    have hm100 : m ≤ 100 := (hb rfl).1
    clear hb
    go_wp2_with fail
    refine (PU.out _ (BK.out _ hB1')).mono ?_
    rintro e w2 ⟨⟨pv, rfl, hp0, hp1, hp2⟩, hB2⟩
    have hB2' : Below (w.heap.size + 1) w0 w2 := hB1'.trans (hB2.mono (by omega))
    have hw2 := hB2.size
    by_cases hpv : 5000 < pv
    · clear hp2
      go_wp2_with fail
      refine (HAW.out _).mono ?_
      rintro e w6 ⟨rfl, hB6⟩
      go_wp2
      go_ret
      exact ⟨rfl, BK.out _ (hB2'.trans (hB6.mono (by omega)))⟩
    · have hpm5 : (pm : Int) ≤ 5000 := hp2 (by omega)
      have t0 : decide (5000 < pv) = false := by simpa using hpv
      clear hp2
      go_wp2_with fail
      refine (xnew_good (w.heap.size + 1) 20 _ (by omega) (by omega) (by omega)).mono ?_
      rintro e w3 ⟨rfl, hB3, hX3⟩
      have HX3 := Lib.hid hX3; clear hX3
      have hB3' : Below (w.heap.size + 1) w0 w3 := hB2'.trans (hB3.mono (by omega))
      have hw3 := hB3.size
      have hr1 : w.heap.size + 1 ≤ w2.heap.size := by omega
      generalize w2.heap.size = r at *
      clear x0 x1 t0 hpv hp1 hp0
      go_wp2_with fail
      go_loopw [9] (fun iv wr => ∃ i : Nat, i ≤ m ∧ iv = .int .i64 i ∧ Below (w.heap.size + 1) w0 wr ∧ ∃ last A, ExAt (w.heap.size + 1) wr (r + 1) r 20 last A) (fun iv _ => m - (intOf iv).toNat)
      case atStart => exact ⟨0, Nat.zero_le _, rfl, hB3', 0, _, HX3.out⟩
      case round =>
        obtain ⟨i, hi, rfl, hB, last, A, hX⟩ := hrel
        have HX := Lib.hid hX
        clear hX
        have hwr := hB.size
        by_cases hlt : i < m
        · have hx : l[i]? = some (l[i]'(by rw [HM.out]; exact hlt)) := List.getElem?_eq_getElem _
          generalize l[i]'(by rw [HM.out]; exact hlt) = x at hx
          obtain ⟨b, o, rfl, e1, d0, d1, d2, _, d4⟩ := H1.out.below (BK.out _ hB) i x hx
          have hxl := HSM.out.2 x (List.mem_of_getElem? hx)
          have HX1 := Lib.hid hx
          have D4 := Lib.hid d4
          clear hx d4
          by_cases hk1 : x.kind = 1
          · have AP := Lib.hid (apply_any (l := x.l) x.time x.a x.c wr (by omega) D4.out.2.1.1 D4.out.2.1.2 (fun W _ hBW => by
              obtain ⟨b', o', _, _, _, _, _, _, q⟩ := H1.out.below (BK.out _ (hB.trans hBW)) i x HX1.out
              exact q.2.2.2.1) HX.out (by omega))
            rw [hk1] at d0
            clear hk1
            go_wp2_with fail
            refine AP.out.mono ?_
            rintro e w5 ⟨rfl, hC5, hB5, hX5⟩
            have HX5 := Lib.hid hX5
            clear hX5 hC5
            go_wp2
            go_roundw
            case rel => exact ⟨i + 1, by omega, by go_num, hB.trans hB5, _, _, HX5.out⟩
            case measure => simp [intOf]; omega
          · have t5 : (x.kind == 1) = false := by simpa using hk1
            clear hk1
            go_wp2
            go_roundw
            case rel => exact ⟨i + 1, by omega, by go_num, hB, last, A, HX.out⟩
            case measure => simp [intOf]; omega
        · obtain ⟨x0, x1⟩ := BX.out _ hB
          have hBe := hB
          have HP := Lib.hid HX.out.pure
          have hvl := vers_le HX.out.pure
          have HVL := Lib.hid hvl
          have DU := Lib.hid (dump_any wr HX.out)
          have VE := Lib.hid (fun W (hW : Below wr.heap.size wr W) => versions_any (n := 20) W (HX.out.below hW) (by omega))
          have LA := Lib.hid (fun W (hW : Below wr.heap.size wr W) => last_any W (HX.out.below hW))
          have RA := Lib.hid (fun W (hW : Below wr.heap.size wr W) => range20 s W (HX.out.below hW))
          clear hvl
          generalize hUU : vers A 20 = U at *
          have HU := Lib.hid hUU; clear hUU
          go_wp2_with fail
          refine DU.out.mono ?_
          rintro e w4 ⟨a4, c4, ps, rfl, hB4, hO4, hps⟩
          have HO4 := Lib.hid hO4; have HPS := Lib.hid hps
          have hs4 := hB4.size
          clear hO4 hps
          generalize hpsl : ps.length = psl at *
          have HPSL := Lib.hid hpsl; clear hpsl
          go_wp2_with fail
          refine (VE.out _ hB4).mono ?_
          rintro e w5 ⟨rfl, hB5⟩
          have hB5' : Below wr.heap.size wr w5 := hB4.trans (hB5.mono hs4)
          have hs5 := hB5.size
          go_wp2_with fail
          refine (LA.out _ hB5').mono ?_
          rintro e w5' ⟨rfl, rfl⟩
          go_wp2_with fail
          refine (RA.out _ hB5').mono ?_
          rintro e w6 ⟨a6, c6, rfl, hB6, hO6, hl6⟩
          have HO6 := Lib.hid hO6; have HL6 := Lib.hid hl6
          have hs6 := hB6.size
          have hB6' : Below wr.heap.size wr w6 := hB5'.trans (hB6.mono (by omega))
          have hB06 : Below (w.heap.size + 1) w0 w6 := hBe.trans (hB6'.mono (by omega))
          obtain ⟨y0, y1⟩ := BX.out _ hB06
          have HX6 := Lib.hid (HX.out.below hB6')
          clear hO6 hl6 x0 x1
          generalize hrw : rdFrom A 0 s 20 = row at *
          have HRW := Lib.hid hrw; clear hrw
          have AP := Lib.hid (apply_any (l := pl) T pa pc w6 (by rw [HPM.out]; omega) HTT.out.1 HTT.out.2 (fun W _ hBW => HPP.out.below (BK.out _ (hB06.trans hBW))) HX6.out (by omega))
          rw [HPM.out] at AP
          have HNO : Hid (∀ e, e ≠ 62 → e ≠ 70 → ∀ k, (k = r + 1 ∨ S70 r w6 k) → NoRow w6 e k) := by
            rintro e he1 he2 k (rfl | rfl | ⟨cur, hc⟩)
            · exact noRow_type HX6.out.cell (fun h => he1 h.symm)
            · obtain ⟨mm, EE, hE, _⟩ := HX6.out.ex
              exact noRow_map hE.map
            · exact noRow_type hc (fun h => he2 h.symm)
          go_wp2_with fail
          refine AP.out.mono ?_
          rintro e w7 ⟨rfl, hC7, hB7, hX7⟩
          have hs7 := hB7.size
          have hC7s := hC7.size
          have hB07 : Below (w.heap.size + 1) w0 w7 := hB06.trans hB7
          obtain ⟨z0, z1⟩ := BX.out _ hB07
          have e2 : ((U : Int) == (U : Int)) = true := by simp
          by_cases hc : acode 20 last T pl = 0
          · rw [hc] at hX7 ⊢
            rw [if_pos rfl, if_pos rfl] at hX7
            have hf := acode_facts hc hX7.pure
            have hva := vers_addA T 20 pl A (fun p hp => by have := hf.2.2.1 p hp; omega)
            rw [HU.out, HPM.out] at hva
            have LA7 := Lib.hid (fun W (hW : Below w7.heap.size w7 W) => last_any W (hX7.below hW))
            have VE7 := Lib.hid (fun W (hW : Below w7.heap.size w7 W) => versions_any (n := 20) W (hX7.below hW) (by omega))
            rw [hva] at VE7
            have e1 : IntKind.i64.wrap ((U : Int) + (pm : Int)) = ((U + pm : Nat) : Int) := by
              have := HVL.out
              rw [IntKind.wrap_i64]; omega
            have e3 : (T == T) = true := by simp
            clear hX7 hC7 hva hf hc
            generalize U + pm = V at *
            have e4 : ((V : Int) == (V : Int)) = true := by simp
            go_wp2_with fail
            go_region_held3 (fun W => W.cell? ⟨w.heap.size, 0, none⟩ = some (.int .i64 T) ∧ W.cell? ⟨w.heap.size, 1, none⟩ = some (.slice pa pm pc))
              (go_keep)
              (first
               | (go_at_call 12
                  refine (LA7.out _ ((Below.refl _ _).drew)).mono ?_
                  rintro e w8 ⟨rfl, rfl⟩)
               | (go_at_call 17
                  refine (VE7.out _ ((Below.refl _ _).drew)).mono ?_
                  rintro e w8 ⟨rfl, hB8⟩
                  have hB78 : Below w7.heap.size w7 w8 := (Below.refl _ _).drew.trans hB8
                  have hs8 := hB78.size
                  have hB08 : Below (w.heap.size + 1) w0 w8 := hB07.trans (hB78.mono (by omega))
                  obtain ⟨q0, q1⟩ := BX.out _ hB08)
               | (go_at_call 9
                  refine (HAW.out _).mono ?_
                  rintro e w9 ⟨rfl, hB9⟩
                  have hB09 : Below (w.heap.size + 1) w0 w9 := hB08.trans (hB9.mono (by omega))
                  obtain ⟨q2, q3⟩ := BX.out _ hB09))
            go_wp2
            go_ret
            exact ⟨rfl, BK.out _ hB09⟩
          · rw [if_neg hc, if_neg hc] at hX7
            have HX7 := Lib.hid hX7
            have HO7 := Lib.hid (own_chg HO6.out hC7 (fun b hb sb => own_no HO6.out (HNO.out 5 (by decide) (by decide) b sb) hb))
            have hB46 : Below w4.heap.size w4 w6 := hB5.trans (hB6.mono (by omega))
            have HPS7 := Lib.hid ((HO4.out.below hB46).chg hC7 (fun k sk => HNO.out 5 (by decide) (by decide) k sk) (fun k sk => HNO.out 38 (by decide) (by decide) k sk))
            have RA7 := Lib.hid (range20 s w7 hX7)
            have VE7 := Lib.hid (fun W (hW : Below w7.heap.size w7 W) => versions_any (n := 20) W (hX7.below hW) (by omega))
            have LA7 := Lib.hid (fun W (hW : Below w7.heap.size w7 W) => last_any W (hX7.below hW))
            have DU7 := Lib.hid (fun W (hW : Below w7.heap.size w7 W) => dump_any W (hX7.below hW))
            rw [HU.out] at VE7
            rw [HRW.out] at RA7
            have e3 : (last == last) = true := by simp
            have t1 : (acode 20 last T pl == 0) = false := by simpa using hc
            clear hX7 hC7 hc
            generalize acode 20 last T pl = cc at *
            go_wp2_with fail
            refine RA7.out.mono ?_
            rintro e w8 ⟨a8, c8, rfl, hB8, hO8, hl8⟩
            have hs8 := hB8.size
            have hB08 : Below (w.heap.size + 1) w0 w8 := hB07.trans (hB8.mono (by omega))
            have BYE := bytes_any a6 a8 c6 c8 row row w8 (by rw [hl8]; omega) ((Rd.of_own HO7.out).2.below hB8) (Rd.of_own hO8).2
            rw [hl8, decide_eq_true rfl] at BYE
            have HBY := Lib.hid BYE
            clear BYE hO8 hl8
            go_wp2_with fail
            refine HBY.out.mono ?_
            rintro e w9 ⟨rfl, hB9⟩
            have hB79 : Below w7.heap.size w7 w9 := hB8.trans (hB9.mono hs8)
            have hs9 := hB79.size
            go_wp2_with fail
            refine (VE7.out _ hB79).mono ?_
            rintro e w10 ⟨rfl, hB10⟩
            have hB710 : Below w7.heap.size w7 w10 := hB79.trans (hB10.mono hs9)
            have hs10 := hB710.size
            go_wp2_with fail
            refine (LA7.out _ hB710).mono ?_
            rintro e w10' ⟨rfl, rfl⟩
            go_wp2_with fail
            refine (DU7.out _ hB710).mono ?_
            rintro e w11 ⟨a11, c11, ps2, rfl, hB11, hO11, hps2⟩
            have hs11 := hB11.size
            have hB711 : Below w7.heap.size w7 w11 := hB710.trans (hB11.mono hs10)
            have hin : ∀ (q : List PutV), q.map lv = (xfull A 20).map (fun k => (k, newest (A k))) → ∀ p ∈ q, -9223372036854775808 ≤ p.lba ∧ p.lba ≤ 9223372036854775807 := by
              intro q hq p hp
              have h1 : lv p ∈ (xfull A 20).map (fun k => (k, newest (A k))) := hq ▸ List.mem_map.2 ⟨p, hp, rfl⟩
              obtain ⟨k, hk, he⟩ := List.mem_map.1 h1
              have h2 := ((xfull_mem A 20 k).1 hk).1
              have h3 : k = p.lba := congrArg Prod.fst he
              omega
            have hA2 : PutsAt w11 a11 ps2 := hO11.at (hin ps2 hps2)
            have hO12 := HPS7.out.below hB711
            rw [← HPSL.out] at hO12
            have hA1 : PutsAt w11 a4 ps := hO12.at (hin ps HPS.out)
            have hleq : ps2.length ≤ 20 := by
              have h1 := congrArg List.length hps2
              simp only [List.length_map] at h1
              have : (xfull A 20).length ≤ 20 := Nat.le_trans (List.length_filter_le _ _) (by simp)
              omega
            have SPE := samePuts_any a11 a4 c11 c4 ps2 ps w11 (by omega) hA2 hA1 (hps2.trans HPS.out.symm) (fun p hp => (Rd.of_own (hO11.data p hp)).1.symm)
            rw [HPSL.out] at SPE
            have HSP := Lib.hid SPE
            clear SPE hA1 hA2 hO11 hO12 hps2 hin
            go_wp2_with fail
            refine HSP.out.mono ?_
            rintro e w12 ⟨rfl, hB12⟩
            have hB712 : Below w7.heap.size w7 w12 := hB711.trans (hB12.mono (by omega))
            have hs12 := hB712.size
            go_wp2_with fail
            refine (HAW.out _).mono ?_
            rintro e w13 ⟨rfl, hB13⟩
            go_wp2
            go_ret
            have hB713 : Below w7.heap.size w7 w13 := hB712.trans (hB13.mono hs12)
            exact ⟨rfl, BK.out _ (hB07.trans (hB713.mono (by omega)))⟩

theorem xrefused_row (a : Option Addr) (c : Nat) (l : List StV) (x : TxV) (s : Int) (w : World) (hn : l.length ≤ maxLen) (h1 : StepsAt w a l) (hx : TxOk w x) (hs0 : -9223372036854775808 ≤ s) (hs1 : s ≤ 9223372036854775807) :
    Calls Try.prog 6 #[.slice a l.length c, .agg #[.int .i64 x.time, .slice x.a x.l.length x.c], .int .i64 s] w fun e w' => e = .returned (.bool true) ∧ Below w.heap.size w w' :=
  xrefused_any a c l x s w (by unfold maxLen at hn; omega) h1 hx hs0 hs1
end Go.Proofs.Ytglkbkocdeimiaa
