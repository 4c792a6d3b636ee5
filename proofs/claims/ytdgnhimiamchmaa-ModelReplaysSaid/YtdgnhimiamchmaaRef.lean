import Derived.Test.YtdgnhimiamchmaaAw
namespace Go.Proofs.Ytdgnhimiamchmaa
open Go.RowKit
open BigFrame Lib

def runs (n : Int) (l : List TxV) (d : Int → List Int) : Int → List Int := l.foldl (fun d x => after n x.l d) d
theorem runs_step (n : Int) (l : List TxV) (d : Int → List Int) (i : Nat) (x : TxV) (h : l[i]? = some x) : runs n (l.take (i + 1)) d = after n x.l (runs n (l.take i) d) := by
  unfold runs; rw [List.take_add_one, h, List.foldl_append]; rfl

theorem upd_other : ∀ (l : List PutV) (D : Int → List Int) (k : Int), k ∉ l.map (·.lba) → upd D l k = D k
  | [], D, k, _ => rfl
  | p :: l, D, k, h => by
    simp only [List.map_cons, List.mem_cons, not_or] at h
    show upd (put1 D p) l k = _
    rw [upd_other l _ k h.2]
    unfold put1; rw [if_neg h.1]
theorem argBad_not : ∀ (l : List PutV) (seen : List Int), argBad seen l = false → ∀ k ∈ seen, k ∉ l.map (·.lba)
  | [], _, _, k, _ => by simp
  | p :: l, seen, h, k, hk => by
    rw [argBad, Bool.or_eq_false_iff, Bool.or_eq_false_iff] at h
    simp only [List.map_cons, List.mem_cons, not_or]
    refine ⟨?_, argBad_not l _ h.2.2 k (by simp [hk])⟩
    rintro rfl
    have := h.1
    simp at this
    exact this hk
theorem upd_get : ∀ (l : List PutV) (D : Int → List Int) (seen : List Int), argBad seen l = false → ∀ x ∈ l, upd D l x.lba = x.d
  | [], _, _, _, x, hx => by simp at hx
  | p :: l, D, seen, h, x, hx => by
    rw [argBad, Bool.or_eq_false_iff, Bool.or_eq_false_iff] at h
    show upd (put1 D p) l x.lba = _
    rcases List.mem_cons.1 hx with rfl | hx
    · rw [upd_other l _ _ (argBad_not l _ h.2.2 x.lba (by simp))]
      unfold put1; rw [if_pos rfl]
    · exact upd_get l _ _ h.2.2 x hx
theorem code_arg {n : Int} {l : List PutV} (h : code n l = 0) : argBad [] l = false ∧ anyBad n l = false := by
  unfold code at h
  split at h
  · cases h
  · split at h
    · cases h
    · rename_i h1 h2; exact ⟨by simpa using h2, by simpa using h1⟩
theorem code_in {n : Int} {l : List PutV} (h : code n l = 0) : ∀ x ∈ l, 0 ≤ x.lba ∧ x.lba < n := by
  intro x hx
  have := (code_arg h).2
  unfold anyBad at this
  rw [List.any_eq_false] at this
  simpa [lbaOk] using this x hx
theorem after_get {n : Int} {l : List PutV} (h : code n l = 0) (D : Int → List Int) : ∀ x ∈ l, after n l D x.lba = x.d := by
  intro x hx
  unfold after; rw [if_pos h]
  exact upd_get l D [] (code_arg h).1 x hx

set_option maxRecDepth 100000 in
set_option maxHeartbeats 1000000 in
theorem refused_any (a : Option Addr) (c : Nat) (l : List TxV) (t : TxV) (w : World) (hn : l.length ≤ 9223372036854775807) (h1 : TxsAt w a l) (ht : TxOk w t) :
    Calls Try.prog 3 #[.slice a l.length c, .agg #[.int .i64 t.time, .slice t.a t.l.length t.c]] w fun e w' => e = .returned (.bool true) ∧ Below w.heap.size w w' := by
  have HAW := Lib.hid awake_any
  have H1 := Lib.hid h1; clear h1
  have hBa : Below w.heap.size w (w.alloc (.cells #[.int .i64 t.time, .slice t.a t.l.length t.c] 25)) := (Below.refl _ w).alloc (Nat.le_refl _) _
  have HT := Lib.hid ht; clear ht
  have htl : t.l.length ≤ 9223372036854775807 := by have := HT.out.1; unfold maxLen at this; omega
  have hTL : Hid (∀ W, Below w.heap.size w W → PutsAt W t.a t.l) := fun W hW => HT.out.2.below hW
  have SM := Lib.hid (fun W (hW : Below w.heap.size w W) => smallT_any a c l W hn (H1.out.below hW))
  have PU := Lib.hid (fun W (hW : Below w.heap.size w W) => puts_any t.a t.c t.l 5000 W htl (by omega) (by omega) (hTL.out W hW))
  generalize hq : l.length = m at *
  have HM := Lib.hid hq; clear hq
  generalize hq : t.l.length = mt at *
  have HMT := Lib.hid hq; clear hq
  generalize t.time = tt at *
  generalize hq : t.a = ta at *
  have HTA := Lib.hid hq; clear hq
  generalize t.c = tc at *
  go_enter Try.func3, Try.ntmps3
  go_wp2_with fail
  have hbx : (w.alloc (.cells #[.int .i64 tt, .slice ta mt tc] 25)).heap[w.heap.size]? = some (.cells #[.int .i64 tt, .slice ta mt tc] 25 (0, 0)) := alloc_new rfl
  generalize w.alloc (.cells #[.int .i64 tt, .slice ta mt tc] 25) = w1 at *
  refine (SM.out _ hBa).mono ?_
  rintro e w2 ⟨⟨b, rfl, hb⟩, hB2⟩
  have hB2' : Below w.heap.size w w2 := hBa.trans (hB2.mono hBa.size)
  have hbx2 : w2.heap[w.heap.size]? = some (.cells #[.int .i64 tt, .slice ta mt tc] 25 (0, 0)) := (hB2.block _ (lt_heap hbx)).trans hbx
  clear hbx
  cases b with
  | false =>
    clear hb
    go_wp2_with fail
    refine (HAW.out _).mono ?_
    rintro e w3 ⟨rfl, hB3⟩
    go_wp2
    go_ret
    exact ⟨rfl, hB2'.trans (hB3.mono hB2'.size)⟩
  | true =>
    have HB := Lib.hid (hb rfl)
    clear hb
    have x1 : w2.cell? ⟨w.heap.size, 1, none⟩ = some (.slice ta mt tc) := cell_heap (c := [.int .i64 tt, .slice ta mt tc]) hbx2 rfl
    go_wp2_with fail
    refine (PU.out _ hB2').mono ?_
    rintro e w3 ⟨⟨v, rfl, hv0, hv1, hv⟩, hB3⟩
    have hB3' : Below w.heap.size w w3 := hB2'.trans (hB3.mono hB2'.size)
    by_cases hv5 : 5000 < v
    · clear hv
      go_wp2_with fail
      refine (HAW.out _).mono ?_
      rintro e w4 ⟨rfl, hB4⟩
      go_wp2
      go_ret
      exact ⟨rfl, hB3'.trans (hB4.mono hB3'.size)⟩
    · have hmt : mt ≤ 5000 := by have := hv (by omega); omega
      have hv6 : v ≤ 5000 := by omega
      have t1 : decide (5000 < v) = false := by simp; omega
      clear hv hv5
      have hbx3 : w3.heap[w.heap.size]? = some (.cells #[.int .i64 tt, .slice ta mt tc] 25 (0, 0)) := (hB3.block _ (lt_heap hbx2)).trans hbx2
      clear hbx2 x1
      go_wp2_with fail
      refine (new_good 8 _ (by omega) (by omega)).mono ?_
      rintro e w4 ⟨rfl, hB4, hM4⟩
      have HM4 := Lib.hid hM4; clear hM4
      go_wp2_with fail
      refine (new_good 8 _ (by omega) (by omega)).mono ?_
      rintro e w5 ⟨rfl, hB5, hM5⟩
      have hs3 := hB3'.size
      have hs4 := hB4.size
      have hs5 := hB5.size
      have hA5 : Hid (MAt w5 (w3.heap.size + 1) w3.heap.size 8 (fun _ => zeros)) := HM4.out.below hB5
      have hb5 := Lib.hid hM5; clear hM5
      have hB5' : Below w.heap.size w w5 := (hB3'.trans (hB4.mono hs3)).trans (hB5.mono (by omega))
      have hbx5 : Hid (w5.heap[w.heap.size]? = some (.cells #[.int .i64 tt, .slice ta mt tc] 25 (0, 0))) := (hB5.block _ (by have := lt_heap hbx3; omega)).trans ((hB4.block _ (lt_heap hbx3)).trans hbx3)
      have hxw : w.heap.size < w3.heap.size := lt_heap hbx3
      have hr12 : w3.heap.size < w4.heap.size := HM4.out.lt_r
      have hr5 : w4.heap.size < w5.heap.size := hb5.out.lt_r
      clear hbx3
      generalize w3.heap.size = r1 at *
      generalize w4.heap.size = r2 at *
      have hfin : ∀ W, Chg (fun k => k = r1 ∨ k = r2) w5 W → Below w.heap.size w W := fun W hW => below_chg hB5' hW (Nat.le_refl _) (fun k hk => by omega)
      have hbox : ∀ W, Chg (fun k => k = r1 ∨ k = r2) w5 W → W.heap[w.heap.size]? = some (.cells #[.int .i64 tt, .slice ta mt tc] 25 (0, 0)) := fun W hW => (hW.block _ (by omega) (by omega)).trans hbx5.out
      have HFIN := Lib.hid hfin; have HBOX := Lib.hid hbox; clear hfin hbox
      go_wp2_with fail
      go_loopw [9] (fun iv wr => ∃ i : Nat, i ≤ m ∧ iv = .int .i64 i ∧ Chg (fun k => k = r1 ∨ k = r2) w5 wr ∧ MAt wr (r1 + 1) r1 8 (runs 8 (l.take i) (fun _ => zeros)) ∧ MAt wr (r2 + 1) r2 8 (runs 8 (l.take i) (fun _ => zeros))) (fun iv _ => m - (intOf iv).toNat)
      case atStart => exact ⟨0, Nat.zero_le _, rfl, Chg.refl _ _, hA5.out, hb5.out⟩
      case round =>
        obtain ⟨i, hi, rfl, hC, hMa, hMb⟩ := hrel
        by_cases hlt : i < m
        · have hx : l[i]? = some (l[i]'(by rw [HM.out]; exact hlt)) := List.getElem?_eq_getElem _
          generalize l[i]'(by rw [HM.out]; exact hlt) = x at hx
          have hTx := H1.out.below (HFIN.out _ hC)
          obtain ⟨b, o, rfl, e1, d1, d2, d3, d4⟩ := hTx i x hx
          have hxl : x.l.length ≤ 10000 := HB.out.2 x (List.mem_of_getElem? hx)
          have hR1 := Lib.hid (run_any x.time x.a x.c x.l wr (by omega) d4 hMa)
          have hMB := Lib.hid hMb
          have hA0 := hMa.map
          have D4 := Lib.hid d4; have HX := Lib.hid hx; have HTX := Lib.hid hTx
          clear d4 hx hMa hMb hTx d3
          have hMm : Hid (∃ m, MapIs wr r1 m) := hA0
          clear hA0
          go_wp2_with fail
          refine hR1.out.mono ?_
          rintro e w6 ⟨rfl, hC6, hM6⟩
          have hS6 : ∀ k, k = r1 → ∃ m, MapIs wr k m := by rintro k rfl; exact hMm.out
          have hP6 := D4.out.chg hC6 hS6
          have hMb6 := hMB.out.chg hC6 hS6 (by omega)
          obtain ⟨b', o', eb, e16, d16, d26, _⟩ := HTX.out.chg hC6 hS6 i x HX.out
          cases eb
          have hR2 := Lib.hid (run_any x.time x.a x.c x.l w6 (by omega) hP6 hMb6)
          have HM6 := Lib.hid hM6
          have hMm2 : Hid (∃ m, MapIs w6 r2 m) := hMb6.map
          clear hM6 hMb6 hP6
          go_wp2_with fail
          refine hR2.out.mono ?_
          rintro e w7 ⟨rfl, hC7, hM7⟩
          have t2 : (code 8 x.l != code 8 x.l) = false := by simp
          have hM67 := Lib.hid (HM6.out.chg hC7 (by rintro k rfl; exact hMm2.out) (by omega))
          have HM7 := Lib.hid hM7; clear hM7
          generalize hcx : code 8 x.l = cx at *
          go_wp2
          go_roundw
          case rel => exact ⟨i + 1, by omega, by go_num, (hC.trans (hC6.mono (fun k _ hk => .inl hk))).trans (hC7.mono (fun k _ hk => .inr hk)), by rw [runs_step _ _ _ _ _ HX.out]; exact hM67.out, by rw [runs_step _ _ _ _ _ HX.out]; exact HM7.out⟩
          case measure => simp [intOf]; omega
        · have e : l.take i = l := List.take_of_length_le (by rw [HM.out]; omega)
          rw [e] at hMa hMb
          clear e
          generalize runs 8 l (fun _ => zeros) = D at *
          have HC := Lib.hid hC; have HMa := Lib.hid hMa; have HMb := Lib.hid hMb
          clear hC hMa hMb
          have SAB := Lib.hid (same_self D ▸ same_any wr HMa.out HMb.out)
          go_wp2_with fail
          refine SAB.out.mono ?_
          rintro e w6 ⟨rfl, hB6⟩
          have SBA := Lib.hid (same_self D ▸ same_any w6 (HMb.out.below hB6) (HMa.out.below hB6))
          go_wp2_with fail
          refine SBA.out.mono ?_
          rintro e w7 ⟨rfl, hB7⟩
          have hB67 : Below wr.heap.size wr w7 := hB6.trans (hB7.mono hB6.size)
          have HC7 : Hid (Chg (fun k => k = r1 ∨ k = r2) w5 w7) := HC.out.trans (Chg.of_below hB67)
          have hPT : Hid (PutsAt w7 ta t.l) := HTA.out ▸ hTL.out w7 (HFIN.out _ HC7.out)
          have HA7 := Lib.hid (HMa.out.below hB67)
          have HB7 := Lib.hid (HMb.out.below hB67)
          have hR1 := Lib.hid (HMT.out ▸ run_any tt ta tc t.l w7 (by rw [HMT.out]; omega) hPT.out HA7.out)
          have hx7 := HBOX.out _ HC7.out
          have x0 : w7.cell? ⟨w.heap.size, 0, none⟩ = some (.int .i64 tt) := cell_heap (c := [.int .i64 tt, .slice ta mt tc]) hx7 rfl
          have x1 : w7.cell? ⟨w.heap.size, 1, none⟩ = some (.slice ta mt tc) := cell_heap (c := [.int .i64 tt, .slice ta mt tc]) hx7 rfl
          go_wp2_with fail
          refine hR1.out.mono ?_
          rintro e w8 ⟨rfl, hC8, hM8⟩
          have HM8 := Lib.hid hM8; clear hM8
          have HMm : Hid (∃ m, MapIs w7 r1 m) := HA7.out.map
          have HB8 := Lib.hid (HB7.out.chg hC8 (by rintro k rfl; exact HMm.out) (by omega))
          have HC8 : Hid (Chg (fun k => k = r1 ∨ k = r2) w5 w8) := HC7.out.trans (hC8.mono (fun k _ hk => .inl hk))
          have hPT8 : Hid (PutsAt w8 ta t.l) := HTA.out ▸ hTL.out w8 (HFIN.out _ HC8.out)
          clear x0 x1 hx7 hC8
          by_cases hc0 : code 8 t.l = 0
          · have HC0 := Lib.hid hc0
            rw [hc0]
            clear hc0
            have hBw8 : Hid (Below w.heap.size w w8) := HFIN.out _ HC8.out
            have hx8 := Lib.hid (HBOX.out _ HC8.out)
            go_wp2_with fail
            go_loopw [11] (fun iv wr => ∃ i : Nat, i ≤ mt ∧ iv = .int .i64 i ∧ Below w8.heap.size w8 wr) (fun iv _ => mt - (intOf iv).toNat)
            case atStart => exact ⟨0, Nat.zero_le _, rfl, Below.refl _ _⟩
            case round =>
              obtain ⟨i, hi, rfl, hB9⟩ := hrel
              have hxr := (hB9.block _ (lt_heap hx8.out)).trans hx8.out
              have x0 : wr.cell? ⟨w.heap.size, 0, none⟩ = some (.int .i64 tt) := cell_heap (c := [.int .i64 tt, .slice ta mt tc]) hxr rfl
              have x1 : wr.cell? ⟨w.heap.size, 1, none⟩ = some (.slice ta mt tc) := cell_heap (c := [.int .i64 tt, .slice ta mt tc]) hxr rfl
              have hMr := Lib.hid (HM8.out.below hB9)
              have hPr := hPT8.out.below hB9
              have HPr := Lib.hid hPr
              by_cases hlt : i < mt
              · have hx : t.l[i]? = some (t.l[i]'(by rw [HMT.out]; exact hlt)) := List.getElem?_eq_getElem _
                generalize t.l[i]'(by rw [HMT.out]; exact hlt) = x at hx
                obtain ⟨b, o, eta, e1, d1, d2, d3⟩ := hPr i x hx
                have hmem := List.mem_of_getElem? hx
                have hin := code_in HC0.out x hmem
                have hlen := code_len HC0.out x hmem
                have hag := after_get HC0.out D x hmem
                have HXD := Lib.hid d3.2.2.2.2
                have G := get_any x.lba wr hMr.out hin
                rw [hag] at G
                have HG := Lib.hid G
                have HX := Lib.hid hx
                have HLEN := Lib.hid hlen
                rw [hlen] at d2
                have hi1 := hin.1
                have hi2 := hin.2
                clear hx hPr hmem hin hag G d3 hlen
                subst eta
                go_wp2_with fail
                refine HG.out.mono ?_
                rintro e w9 ⟨a9, c9, rfl, hB10, hown9, hlen9⟩
                have BY := bytes_any a9 x.a c9 x.c x.d x.d w9 (by rw [HLEN.out]; omega) (Rd.of_own hown9).2 (HXD.out.below hB10)
                rw [HLEN.out, decide_eq_true rfl] at BY
                have HBY := Lib.hid BY
                have y1 : w9.cell? ⟨w.heap.size, 1, none⟩ = some (.slice (some ⟨b, o, none⟩) mt tc) := cell_heap (c := [.int .i64 tt, .slice (some ⟨b, o, none⟩) mt tc]) ((hB10.block _ (World.block_lt_of_cell? wr _ x1)).trans hxr) rfl
                have y2 : w9.cell? ⟨b, o + i * 2 + 1, none⟩ = some (.slice x.a 40 x.c) := (hB10.cell (p := ⟨b, o + i * 2 + 1, none⟩) e1).trans d2
                clear BY hown9 hlen9 x0 x1 d1 d2 hxr
                go_wp2_with fail
                refine HBY.out.mono ?_
                rintro e w10 ⟨rfl, hB11⟩
                go_wp2
                go_roundw
                case rel => exact ⟨i + 1, by omega, by go_num, (hB9.trans (hB10.mono hB9.size)).trans (hB11.mono (Nat.le_trans hB9.size hB10.size))⟩
                case measure => simp [intOf]; omega
              · have HR := Lib.hid (HMT.out ▸ run_any tt ta tc t.l wr (by rw [HMT.out]; omega) hPr (HB8.out.below hB9))
                have hMm : Hid (∃ m, MapIs wr r2 m) := (HB8.out.below hB9).map
                clear hPr hxr
                rw [HC0.out] at HR
                go_wp2_with fail
                refine HR.out.mono ?_
                rintro e w9 ⟨rfl, hC9, hM9⟩
                have SX := same_any w9 (hMr.out.chg hC9 (by rintro k rfl; exact hMm.out) (by omega)) hM9
                rw [same_self] at SX
                have HSX := Lib.hid SX
                have hBn : Below w.heap.size w w9 := below_chg (hBw8.out.trans (hB9.mono hBw8.out.size)) hC9 (Nat.le_refl _) (fun k hk => by omega)
                clear SX hM9 hC9
                go_wp2_with fail
                refine HSX.out.mono ?_
                rintro e w10 ⟨rfl, hB10⟩
                go_wp2_with fail
                refine (HAW.out _).mono ?_
                rintro e w11 ⟨rfl, hB11⟩
                go_wp2
                go_ret
                exact ⟨rfl, (hBn.trans (hB10.mono hBn.size)).trans (hB11.mono (Nat.le_trans hBn.size hB10.size))⟩
          · have ha : Hid (after 8 t.l D = D) := by
              show _ = _
              unfold after; rw [if_neg hc0]
            have t3 : (code 8 t.l != 0) = true := by simpa using hc0
            clear hc0
            generalize code 8 t.l = cx at *
            have SX := same_any w8 HM8.out HB8.out
            rw [ha.out, same_self] at SX
            have HSX := Lib.hid SX
            clear SX
            go_wp2_with fail
            refine HSX.out.mono ?_
            rintro e w9 ⟨rfl, hB9⟩
            go_wp2_with fail
            refine (HAW.out _).mono ?_
            rintro e w10 ⟨rfl, hB10⟩
            go_wp2
            go_ret
            have hBw8 := HFIN.out _ HC8.out
            exact ⟨rfl, (hBw8.trans (hB9.mono hBw8.size)).trans (hB10.mono (Nat.le_trans hBw8.size hB9.size))⟩
end Go.Proofs.Ytdgnhimiamchmaa
