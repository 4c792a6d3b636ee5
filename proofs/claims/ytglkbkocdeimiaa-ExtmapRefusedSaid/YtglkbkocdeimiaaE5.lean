import Derived.Test.YtglkbkocdeimiaaE4
import Derived.Deep.RegionHeld3
namespace Go.Proofs.Ytglkbkocdeimiaa
open Go.RowKit
open BigFrame Lib
open Go.ChangeMaps (setBlock)

open Classical in
theorem acode_time {n last t : Int} {l : List PutV} (h : t ≤ last ∨ 1099511627776 < t) : acode n last t l = 11 := by unfold acode; rw [if_pos h]
theorem acode_rise {n last t : Int} {l : List PutV} (h : ¬ (t ≤ last ∨ 1099511627776 < t)) (h2 : ¬ Rises l) : acode n last t l = 1 := by unfold acode; rw [if_neg h, if_pos h2]
theorem acode_range {n last t : Int} {l : List PutV} (h : ¬ (t ≤ last ∨ 1099511627776 < t)) (h2 : Rises l) (h3 : ¬ (∀ x ∈ l.head?, 0 ≤ x.lba ∧ x.lba < n) ∨ ¬ (∀ x ∈ l.getLast?, 0 ≤ x.lba ∧ x.lba < n)) : acode n last t l = 2 := by
  unfold acode; rw [if_neg h, if_neg (fun h5 => h5 h2), if_pos h3]
theorem acode_len {n last t : Int} {l : List PutV} (h : ¬ (t ≤ last ∨ 1099511627776 < t)) (h2 : Rises l) (h3 : ¬ (¬ (∀ x ∈ l.head?, 0 ≤ x.lba ∧ x.lba < n) ∨ ¬ (∀ x ∈ l.getLast?, 0 ≤ x.lba ∧ x.lba < n))) (h4 : lenBad l = true) : acode n last t l = 3 := by
  unfold acode; rw [if_neg h, if_neg (fun h5 => h5 h2), if_neg h3, if_pos h4]
theorem acode_ok {n last t : Int} {l : List PutV} (h : ¬ (t ≤ last ∨ 1099511627776 < t)) (h2 : Rises l) (h3 : ¬ (¬ (∀ x ∈ l.head?, 0 ≤ x.lba ∧ x.lba < n) ∨ ¬ (∀ x ∈ l.getLast?, 0 ≤ x.lba ∧ x.lba < n))) (h4 : lenBad l = false) : acode n last t l = 0 := by
  unfold acode; rw [if_neg h, if_neg (fun h5 => h5 h2), if_neg h3, if_neg (by rw [h4]; decide)]

theorem chg_70 {r : Nat} {w w3 wr : World} (hB : Below w.heap.size w w3) (hC : Chg (S70 r w3) w3 wr) : Chg (S70 r w) w wr :=
  ⟨hC.os.trans hB.os, hC.tape.trans hB.tape, hC.output.trans hB.output, Nat.le_trans hB.size hC.size, fun k hk hn => by
    have e := hB.block k hk
    refine (hC.block k (Nat.lt_of_lt_of_le hk hB.size) ?_).trans e
    rintro (rfl | ⟨cur, hc⟩)
    · exact hn (.inl rfl)
    · exact hn (.inr ⟨cur, e ▸ hc⟩)⟩
/-- what a step changes is of the same kind as what was changed up to it -/
theorem chg_70' {r : Nat} {w3 wr w' : World} (hC : Chg (S70 r w3) w3 wr) (hC2 : Chg (S70 r wr) wr w') : Chg (S70 r w3) w3 w' :=
  ⟨hC2.os.trans hC.os, hC2.tape.trans hC.tape, hC2.output.trans hC.output, Nat.le_trans hC.size hC2.size, fun k hk hn => by
    have e := hC.block k hk hn
    refine (hC2.block k (Nat.lt_of_lt_of_le hk hC.size) ?_).trans e
    rintro (rfl | ⟨cur, hc⟩)
    · exact hn (.inl rfl)
    · exact hn (.inr ⟨cur, e ▸ hc⟩)⟩

def APost (B g r : Nat) (n last t : Int) (A : Int → List AV) (l : List PutV) (w : World) (c : Int) (w' : World) : Prop :=
  Chg (fun k => k = g ∨ S70 r w k) w w' ∧ Below B w w' ∧ ExAt B w' g r n (if c = 0 then t else last) (if c = 0 then addA t A l else A)
theorem apost_no {B g r : Nat} {n last t : Int} {A : Int → List AV} {l : List PutV} {w w' : World} {c : Int} (hX : ExAt B w g r n last A) (hB : Below w.heap.size w w') (hBw : B ≤ w.heap.size) (hc : c ≠ 0) : APost B g r n last t A l w c w' := by
  refine ⟨Chg.of_below hB, hB.mono hBw, ?_⟩
  rw [if_neg hc, if_neg hc]
  exact hX.below hB

set_option maxRecDepth 100000 in
set_option maxHeartbeats 1000000 in
theorem apply_any {B g r : Nat} {n last : Int} {A : Int → List AV} (t : Int) (ta : Option Addr) (tc : Nat) (l : List PutV) (w : World) (hn : l.length ≤ 1000000) (ht0 : -9223372036854775808 ≤ t) (ht1 : t ≤ 9223372036854775807)
    (h1 : ∀ W, Chg (S70 r w) w W → Below B w W → PutsAt W ta l) (hX : ExAt B w g r n last A) (hBw : B ≤ w.heap.size) :
    Calls Try.prog 11 #[.pointer (some ⟨g, 0, none⟩), .agg #[.int .i64 t, .slice ta l.length tc]] w fun e w' => e = .returned (.int .i64 (acode n last t l)) ∧ APost B g r n last t A l w (acode n last t l) w' := by
  have hPS := Lib.hid h1
  have h1 : PutsAt w ta l := h1 w (Chg.refl _ _) (Below.refl _ _)
  have HX := Lib.hid hX
  have GO := Lib.hid (fun W (hW : Below w.heap.size w W) => gone_any W (hX.below hW))
  have RI := Lib.hid (fun W (hW : Below w.heap.size w W) => rise_any ta tc l W (by omega) (h1.below hW))
  have CO := Lib.hid (fun W (hW : Below w.heap.size w W) => contP_any ta tc l W (by omega) (h1.below hW))
  have BK := Lib.hid (fun W (hW : Below w.heap.size w W) k => xblock_any k W (hX.below hW))
  have c2 := hX.c2
  have hg := lt_heap hX.cell
  have H1 := Lib.hid h1
  have l0 := hX.pure.l0
  have l1 := hX.pure.l1
  clear h1 hX
  generalize hq : l.length = m at *
  have HM := Lib.hid hq; clear hq
  have hB0 : Below w.heap.size w (w.alloc (.cells #[.int .i64 t, .slice ta m tc] 32)) := (Below.refl _ w).alloc (Nat.le_refl _) _
  have hb0 : Hid ((w.alloc (.cells #[.int .i64 t, .slice ta m tc] 32)).heap[w.heap.size]? = some (.cells #[.int .i64 t, .slice ta m tc] 32 (0, 0))) := alloc_new rfl
  by_cases htime : t ≤ last ∨ 1099511627776 < t
  · have hc : Hid (acode n last t l = 11) := acode_time htime
    by_cases ht : t ≤ last
    · have t1 : decide (t ≤ last) = true := by simpa using ht
      clear htime
      go_enter Try.func11, Try.ntmps11
      go_wp2_with fail
      refine (GO.out _ hB0).mono ?_
      rintro e w' ⟨rfl, rfl⟩
      go_wp2_with fail
      go_quiet (fail)
      go_wp2
      go_ret
      rw [hc.out]
      exact ⟨rfl, apost_no HX.out (below_drewN hB0 _) hBw (by decide)⟩
    · have ht2 : 1099511627776 < t := by omega
      have t1 : decide (t ≤ last) = false := by simpa using ht
      have t2 : decide (1099511627776 < t) = true := by simpa using ht2
      clear htime
      go_enter Try.func11, Try.ntmps11
      go_wp2_with fail
      refine (GO.out _ hB0).mono ?_
      rintro e w' ⟨rfl, rfl⟩
      go_wp2_with fail
      go_quiet (fail)
      go_wp2
      go_ret
      rw [hc.out]
      exact ⟨rfl, apost_no HX.out (below_drewN hB0 _) hBw (by decide)⟩
  · have t1 : decide (t ≤ last) = false := by simp; omega
    have t2 : decide (1099511627776 < t) = false := by simp; omega
    have ht3 : last < t := by omega
    have ht4 : t ≤ 1099511627776 := by omega
    have HT := Lib.hid htime
    clear htime
    go_enter Try.func11, Try.ntmps11
    go_wp2_with fail
    refine (GO.out _ hB0).mono ?_
    rintro e w' ⟨rfl, rfl⟩
    go_wp2_with fail
    go_quiet (fail)
    have hB1 : Below w.heap.size w ((w.alloc (.cells #[.int .i64 t, .slice ta m tc] 32)).drewN nq) := below_drewN hB0 nq
    have hb1 : ((w.alloc (.cells #[.int .i64 t, .slice ta m tc] 32)).drewN nq).heap[w.heap.size]? = some (.cells #[.int .i64 t, .slice ta m tc] 32 (0, 0)) := hb0.out
    generalize (w.alloc (.cells #[.int .i64 t, .slice ta m tc] 32)).drewN nq = w1 at *
    clear hB0 hb0
    have x0 : w1.cell? ⟨w.heap.size, 0, none⟩ = some (.int .i64 t) := cell_heap (c := [.int .i64 t, .slice ta m tc]) hb1 rfl
    have x1 : w1.cell? ⟨w.heap.size, 1, none⟩ = some (.slice ta m tc) := cell_heap (c := [.int .i64 t, .slice ta m tc]) hb1 rfl
    go_wp2_with fail
    refine (RI.out _ hB1).mono ?_
    rintro e w2 ⟨⟨b, rfl, hb⟩, hB2⟩
    have hB2' : Below w.heap.size w w2 := hB1.trans (hB2.mono hB1.size)
    have hb2 := (hB2.block _ (lt_heap hb1)).trans hb1
    have y0 : w2.cell? ⟨w.heap.size, 0, none⟩ = some (.int .i64 t) := cell_heap (c := [.int .i64 t, .slice ta m tc]) hb2 rfl
    have y1 : w2.cell? ⟨w.heap.size, 1, none⟩ = some (.slice ta m tc) := cell_heap (c := [.int .i64 t, .slice ta m tc]) hb2 rfl
    clear x0 x1 hb1 hB1
    cases b with
    | false =>
      have hr : ¬ Rises l := fun h => by have := hb.2 h; cases this
      have hc : Hid (acode n last t l = 1) := acode_rise HT.out hr
      clear hb hr
      go_wp2
      go_ret
      rw [hc.out]
      exact ⟨rfl, apost_no HX.out hB2' hBw (by decide)⟩
    | true =>
      have hr := Lib.hid (hb.1 rfl)
      clear hb
      have hm0 : 0 < m := by have := hr.out.1; rw [HM.out] at this; exact this
      have hx0 : l[0]? = some (l[0]'(by rw [HM.out]; exact hm0)) := List.getElem?_eq_getElem _
      generalize l[0]'(by rw [HM.out]; exact hm0) = p0 at hx0
      have hxl : l[m - 1]? = some (l[m - 1]'(by rw [HM.out]; omega)) := List.getElem?_eq_getElem _
      generalize l[m - 1]'(by rw [HM.out]; omega) = pl at hxl
      have hhd : l.head? = some p0 := by rw [List.head?_eq_getElem?]; exact hx0
      have htl : l.getLast? = some pl := by rw [List.getLast?_eq_getElem?, HM.out]; exact hxl
      obtain ⟨bb, oo, rfl, e1, d1, _, d3⟩ := H1.out.below hB2' 0 p0 hx0
      obtain ⟨bb', oo', eb, _, d1', _, d3'⟩ := H1.out.below hB2' (m - 1) pl hxl
      cases eb
      rw [Nat.zero_mul, Nat.add_zero] at d1
      have s2 : (m : Int) - 1 = ((m - 1 : Nat) : Int) := by omega
      have D3 := Lib.hid d3; have D3' := Lib.hid d3'
      have HX0 := Lib.hid hx0; have HXL := Lib.hid hxl; have HHD := Lib.hid hhd; have HTL := Lib.hid htl
      clear d3 d3' hx0 hxl hhd htl
      by_cases hin0 : 0 ≤ p0.lba ∧ p0.lba < n
      · have k0 := Lib.hid (decide_eq_true hin0 ▸ BK.out w2 hB2' p0.lba)
        by_cases hinl : 0 ≤ pl.lba ∧ pl.lba < n
        · have kl := Lib.hid (decide_eq_true hinl ▸ BK.out w2 hB2' pl.lba)
          go_wp2_with fail
          refine k0.out.mono ?_
          rintro e w' ⟨rfl, rfl⟩
          go_wp2_with fail
          refine kl.out.mono ?_
          rintro e w' ⟨rfl, rfl⟩
          have hrg : Hid (¬ (¬ (∀ x ∈ l.head?, 0 ≤ x.lba ∧ x.lba < n) ∨ ¬ (∀ x ∈ l.getLast?, 0 ≤ x.lba ∧ x.lba < n))) := by
            rintro (h5 | h5)
            · exact h5 (fun x hx => by rw [HHD.out] at hx; cases hx; exact hin0)
            · exact h5 (fun x hx => by rw [HTL.out] at hx; cases hx; exact hinl)
          cases hlb : lenBad l with
          | true =>
            have hc : Hid (acode n last t l = 3) := acode_len HT.out hr.out hrg.out hlb
            have C2 := Lib.hid (hlb ▸ CO.out w2 hB2')
            clear hlb
            go_wp2_with fail
            refine C2.out.mono ?_
            rintro e w3 ⟨rfl, hB3⟩
            go_wp2
            go_ret
            rw [hc.out]
            exact ⟨rfl, apost_no HX.out (hB2'.trans (hB3.mono hB2'.size)) hBw (by decide)⟩
          | false =>
            have hc : Hid (acode n last t l = 0) := acode_ok HT.out hr.out hrg.out hlb
            have C2 := Lib.hid (hlb ▸ CO.out w2 hB2')
            have HLB := Lib.hid hlb
            clear hlb
            go_wp2_with fail
            refine C2.out.mono ?_
            rintro e w3 ⟨rfl, hB3⟩
            have hB3' : Below w.heap.size w w3 := hB2'.trans (hB3.mono hB2'.size)
            have hb3 := (hB3.block _ (lt_heap hb2)).trans hb2
            have z0 : w3.cell? ⟨w.heap.size, 0, none⟩ = some (.int .i64 t) := cell_heap (c := [.int .i64 t, .slice (some ⟨bb, oo, none⟩) m tc]) hb3 rfl
            have z1 : w3.cell? ⟨w.heap.size, 1, none⟩ = some (.slice (some ⟨bb, oo, none⟩) m tc) := cell_heap (c := [.int .i64 t, .slice (some ⟨bb, oo, none⟩) m tc]) hb3 rfl
            have HX3 := Lib.hid (HX.out.below hB3')
            have HP3 := Lib.hid (H1.out.below hB3')
            have HB3 := Lib.hid hb3
            clear y0 y1 d1 d1' k0 kl hb2 hb3
            go_wp2_with fail
            have i70 := info_parts Try.info70
            obtain ⟨i0, hi0, hz0, hz1, hz2⟩ := i70
            have HI := Lib.hid hi0; have HZ0 := Lib.hid hz0; have HZ1 := Lib.hid hz1; have HZ2 := Lib.hid hz2
            clear hi0 hz0 hz1 hz2
            have hbx3 : w.heap.size < w3.heap.size := lt_heap HB3.out
            go_loopw [58] (fun iv wr => ∃ i : Nat, i ≤ m ∧ iv = .int .i64 i ∧ Chg (S70 r w3) w3 wr ∧ Below B w3 wr ∧ ∃ mm E, ExMap B wr r mm E ∧ ∀ k, absV (E k) = addA t A (l.take i) k) (fun iv _ => m - (intOf iv).toNat)
            case atStart =>
              obtain ⟨mm, E, hE, hA⟩ := HX3.out.ex
              exact ⟨0, Nat.zero_le _, rfl, Chg.refl _ _, Below.refl _ _, mm, E, hE, fun k => (hA k).symm⟩
            case round =>
              obtain ⟨i, hi, rfl, hC, hBr, mm, E, hE, hA⟩ := hrel
              have HC := Lib.hid hC; have HBr := Lib.hid hBr; have HE := Lib.hid hE; have HA := Lib.hid hA
              have hnx : ¬ S70 r w3 w.heap.size := by
                rintro (e | ⟨cur, hc⟩)
                · obtain ⟨mm3, E3, hE3, _⟩ := HX3.out.ex
                  obtain ⟨es, cl, hb, _⟩ := hE3.map
                  rw [← e, HB3.out] at hb; cases hb
                · rw [HB3.out] at hc; cases hc
              have hng : ¬ S70 r w3 g := by
                rintro (e | ⟨cur, hc⟩)
                · obtain ⟨mm3, E3, hE3, _⟩ := HX3.out.ex
                  obtain ⟨es, cl, hb, _⟩ := hE3.map
                  rw [← e, HX3.out.cell] at hb; cases hb
                · rw [HX3.out.cell] at hc; cases hc
              have hbr : wr.heap[w.heap.size]? = some (.cells #[.int .i64 t, .slice (some ⟨bb, oo, none⟩) m tc] 32 (0, 0)) := (hC.block _ hbx3 hnx).trans HB3.out
              have hgr : wr.heap[g]? = some (.cells ([.int .i64 n, .map (some r), .int .i64 last] : List Value).toArray 62 (0, 0)) := (hC.block _ (lt_heap HX3.out.cell) hng).trans HX3.out.cell
              have u0 : wr.cell? ⟨w.heap.size, 0, none⟩ = some (.int .i64 t) := cell_heap (c := [.int .i64 t, .slice (some ⟨bb, oo, none⟩) m tc]) hbr rfl
              have u1 : wr.cell? ⟨g, 1, none⟩ = some (.map (some r)) := cell_heap hgr rfl
              have HBX := Lib.hid hbr; have HGR := Lib.hid hgr
              have hbxr := lt_heap hbr
              have hgr' := lt_heap hgr
              clear hC hBr hE hA hnx hng hbr hgr
              by_cases hlt : i < m
              · have hPr := hPS.out wr (chg_70 hB3' HC.out) ((hB3'.mono hBw).trans HBr.out)
                have hx : l[i]? = some (l[i]'(by rw [HM.out]; exact hlt)) := List.getElem?_eq_getElem _
                generalize l[i]'(by rw [HM.out]; exact hlt) = x at hx
                obtain ⟨b, o, eb, e1, d1, d2, d3⟩ := hPr i x hx
                cases eb
                have hfresh := rises_fresh hr.out i x hx
                have hAx := HA.out x.lba
                rw [addA_other t _ _ _ hfresh] at hAx
                have hlen : x.d.length = 40 := by
                  have := HLB.out
                  unfold lenBad at this
                  rw [List.any_eq_false] at this
                  simpa using this x (List.mem_of_getElem? hx)
                have hshort := HX3.out.pure.short x.lba
                rw [← hAx] at hshort
                simp only [absV, List.length_map] at hshort
                have hX := Lib.hid hx
                have HF := Lib.hid hfresh; have HAX := Lib.hid hAx
                clear hx hfresh hAx hPr
                obtain ⟨b5, o5, hxa, hb5, _⟩ := d3.2.2.2.2.head (by omega)
                obtain ⟨xl, xa, xc, xd⟩ := x
                simp only at hlen hxa d1 d2
                subst hxa
                have hxd : Rd u8 wr (some ⟨b5, o5, none⟩) xd := d3.2.2.2.2
                have hxl1 : -9223372036854775808 ≤ xl := d3.1
                have hxl2 : xl ≤ 9223372036854775807 := d3.2.1
                rw [hlen] at d2
                have D40 : Hid (xd.length = 40) := hlen
                have HXD := Lib.hid hxd
                have hrr : r < wr.heap.size := HE.out.map.lt
                clear d3 hlen hxd
                go_wp2_with fail
                have hBW : Below wr.heap.size wr (wr.alloc (.cells #[.int .i64 xl, .slice (some ⟨b5, o5, none⟩) 40 xc] 38)) := (Below.refl _ wr).alloc (Nat.le_refl _) _
                have k1 := (hBW.cell (p := ⟨w.heap.size, 0, none⟩) hbxr).trans u0
                have k2 := (hBW.cell (p := ⟨g, 1, none⟩) hgr').trans u1
                have k3 : (wr.alloc (.cells #[.int .i64 xl, .slice (some ⟨b5, o5, none⟩) 40 xc] 38)).cell? ⟨wr.heap.size, 0, none⟩ = some (.int .i64 xl) := by first | omega | (simp; done) | (simp; omega) | (go_num; done)
                have k4 : (wr.alloc (.cells #[.int .i64 xl, .slice (some ⟨b5, o5, none⟩) 40 xc] 38)).cell? ⟨wr.heap.size, 1, none⟩ = some (.slice (some ⟨b5, o5, none⟩) 40 xc) := by first | omega | (simp; done) | (simp; omega) | (go_num; done)
                have hb38 : Hid ((wr.alloc (.cells #[.int .i64 xl, .slice (some ⟨b5, o5, none⟩) 40 xc] 38)).heap[wr.heap.size]? = some (.cells #[.int .i64 xl, .slice (some ⟨b5, o5, none⟩) 40 xc] 38 (0, 0))) := alloc_new rfl
                have hsW : (wr.alloc (.cells #[.int .i64 xl, .slice (some ⟨b5, o5, none⟩) 40 xc] 38)).heap.size = wr.heap.size + 1 := by simp
                have HBWr := Lib.hid hBW
                have HEW : Hid (ExMap B (wr.alloc (.cells #[.int .i64 xl, .slice (some ⟨b5, o5, none⟩) 40 xc] 38)) r mm E) := HE.out.chg (S := fun _ => False) (Chg.of_below hBW) (fun _ h => h.elim) (fun _ h => h.elim) id
                have HXW := Lib.hid (HXD.out.below hBW)
                have HBO : Hid ((wr.alloc (.cells #[.int .i64 xl, .slice (some ⟨b5, o5, none⟩) 40 xc] 38)).heap[w.heap.size]? = some (.cells #[.int .i64 t, .slice (some ⟨bb, oo, none⟩) m tc] 32 (0, 0))) := (hBW.block _ hbxr).trans HBX.out
                have HGO : Hid ((wr.alloc (.cells #[.int .i64 xl, .slice (some ⟨b5, o5, none⟩) 40 xc] 38)).heap[g]? = some (.cells ([.int .i64 n, .map (some r), .int .i64 last] : List Value).toArray 62 (0, 0))) := (hBW.block _ hgr').trans HGR.out
                clear hBW
                generalize wr.alloc (.cells #[.int .i64 xl, .slice (some ⟨b5, o5, none⟩) 40 xc] 38) = W at *
                generalize hbp : wr.heap.size = bp at *
                obtain ⟨v, hv⟩ : ∃ v, v = (mget mm xl).getD (.slice none 0 0) := ⟨_, rfl⟩
                have hrow : Hid (W.ownsRow B 70 2 v (E xl).length ((E xl).flatMap encV)) := by
                  have hk := HEW.out.ent xl
                  cases hg9 : mget mm xl with
                  | none =>
                    rw [hg9] at hv hk
                    have hk' : E xl = [] := hk
                    rw [hv, hk']
                    exact ⟨rfl, .inl ⟨rfl, rfl⟩⟩
                  | some u =>
                    rw [hg9] at hv hk
                    have hk' : VRow B W u (E xl) := hk
                    have hv' : v = u := hv
                    rw [hv']
                    exact hk'.1
                have CL := Lib.hid (fun W' (hW' : Below W.heap.size W W') => D40.out ▸ clone_some ⟨b5, o5, none⟩ xc xd W' (by rw [D40.out]; omega) (HXW.out.below hW'))
                have LK : Hid (∀ W', Below W.heap.size W W' → (Instr.lookup 60 (.map (some r)) (.int .i64 xl) false).run Try.prog W' = .ok v W') := fun W' hW' => by
                  rw [hv]; exact map_lookup (P := Try.prog) (k := xl) (HEW.out.map.of_eq (hW'.block r HEW.out.map.lt)) Try.underlying60 Try.underlying3 (Try.zeroValue67 _)
                have HV := Lib.hid hv
                clear hv
                have L0 : (Instr.lookup 60 (.map (some r)) (.int .i64 xl) false).run Try.prog W.drew = .ok v W.drew := LK.out _ (below_drewN (Below.refl _ W) 1)
                go_region_held3 (fun w' => w'.cell? ⟨w.heap.size, 0, none⟩ = some (.int .i64 t) ∧ w'.cell? ⟨g, 1, none⟩ = some (.map (some r)) ∧ w'.cell? ⟨bp, 0, none⟩ = some (.int .i64 xl) ∧ w'.cell? ⟨bp, 1, none⟩ = some (.slice (some ⟨b5, o5, none⟩) 40 xc))
                  (go_keep)
                  (first
                   | (go_at_call 31
                      refine (CL.out _ (below_drewN (Below.refl _ W) 1)).mono ?_
                      rintro e w5 ⟨a', c', rfl, hBc, hown⟩
                      have hBd : Below W.heap.size W w5 := (below_drewN (Below.refl _ W) 1).trans hBc
                      have HOW := Lib.hid hown
                      have hB6 : Below W.heap.size W (w5.alloc (.cells #[.int .i64 t, .slice a' 40 c'] 70)) := hBd.alloc hBd.size _
                      have L1 := LK.out _ hBd
                      have L2 := LK.out _ hB6
                      have hs5 := hBd.size
                      have hnb : Hid (∀ j u, ([.int .i64 t, .slice a' 40 c'] : List Value)[j]? = some u → (w5.alloc (.cells #[.int .i64 t, .slice a' 40 c'] 70)).cell? ((⟨w5.heap.size, 0, none⟩ : Addr).add j) = some u) := World.news_of_block (cs := #[.int .i64 t, .slice a' 40 c']) (t := 70) (fr := (0, 0)) (heap_alloc_new w5 _)
                      have hB67 : Below w5.heap.size w5 (w5.alloc (.cells #[.int .i64 t, .slice a' 40 c'] 70)) := (Below.refl _ w5).alloc (Nat.le_refl _) _
                      have hs6 : (w5.alloc (.cells #[.int .i64 t, .slice a' 40 c'] 70)).heap.size = w5.heap.size + 1 := by simp
                      have ck : ∀ p : Addr, p.block < W.heap.size → ∀ u, W.cell? p = some u → w5.cell? p = some u ∧ (w5.alloc (.cells #[.int .i64 t, .slice a' 40 c'] 70)).cell? p = some u := by
                        intro p hp u hu
                        have a1 := (hBd.cell (p := p) hp).trans hu
                        exact ⟨a1, (hB67.cell (p := p) (by omega)).trans a1⟩
                      obtain ⟨q11, q12⟩ := ck ⟨w.heap.size, 0, none⟩ (by show w.heap.size < _; omega) _ k1
                      obtain ⟨q21, q22⟩ := ck ⟨g, 1, none⟩ (by show g < _; omega) _ k2
                      obtain ⟨q31, q32⟩ := ck ⟨bp, 0, none⟩ (by show bp < _; omega) _ k3
                      obtain ⟨q41, q42⟩ := ck ⟨bp, 1, none⟩ (by show bp < _; omega) _ k4
                      clear ck hown)
                   | (refine step_append_lies _ (by rfl) _ _ _ (by rfl) B 70 i0 _ 2 32 Try.underlying67 HI.out HZ0.out HZ1.out HZ2.out rfl (by omega) v (E xl).length _ (by rfl) (own_below hrow.out hB6)
                        ⟨w5.heap.size, 0, none⟩ 1 1 [.int .i64 t, .slice a' 40 c'] (by rfl) rfl hnb.out (by intro u hu; simp at hu; rcases hu with rfl | rfl <;> rfl) (by omega) (by unfold maxLen; omega) (by omega) (by rw [hs6]; have := HX3.out.bg; omega) _ rfl ?_
                      intro gg cap w7 hown7 hgrow7 hlies7 hlt7
                      have hmr7 : MapIs w7 r mm := (HEW.out.map.of_eq (hB6.block r HEW.out.map.lt)).of_eq (hgrow7.block r (by omega) (fun e => own_no hrow.out (noRow_map HEW.out.map) e.symm))
                      obtain ⟨o3, ho3, hm8⟩ := map_update (P := Try.prog) (k := xl) (v := .slice (some ⟨gg, 0, none⟩) ((E xl).length + 1) cap) hmr7 Try.underlying60 Try.underlying3
                      have ck : ∀ p : Addr, p.block < W.heap.size → v.ownBlock ≠ some p.block → p.block ≠ r → ∀ u, (w5.alloc (.cells #[.int .i64 t, .slice a' 40 c'] 70)).cell? p = some u → w7.cell? p = some u ∧ (setBlock w7 r o3).cell? p = some u := by
                        intro p hp hpv hpr u hu
                        have a3 := (hgrow7.cell_far p (by omega) (fun e => hpv e.symm)).trans hu
                        exact ⟨a3, (World.cell?_of_block (setBlock_other hpr)).trans a3⟩
                      have nr : ∀ k cur e, W.heap[k]? = some (.cells cur e (0, 0)) → k ≠ r := by
                        rintro k cur e hk rfl
                        obtain ⟨es, cl, hb9, _⟩ := HEW.out.map
                        rw [hk] at hb9; cases hb9
                      obtain ⟨q13, q14⟩ := ck ⟨w.heap.size, 0, none⟩ (by show w.heap.size < _; omega) (own_no hrow.out (noRow_type HBO.out (by decide))) (nr _ _ _ HBO.out) _ q12
                      obtain ⟨q23, q24⟩ := ck ⟨g, 1, none⟩ (by show g < _; omega) (own_no hrow.out (noRow_type HGO.out (by decide))) (nr _ _ _ HGO.out) _ q22
                      obtain ⟨q33, q34⟩ := ck ⟨bp, 0, none⟩ (by show bp < _; omega) (own_no hrow.out (noRow_type hb38.out (by decide))) (nr _ _ _ hb38.out) _ q32
                      obtain ⟨q43, q44⟩ := ck ⟨bp, 1, none⟩ (by show bp < _; omega) (own_no hrow.out (noRow_type hb38.out (by decide))) (nr _ _ _ hb38.out) _ q42
                      clear ck nr))
                all_goals
                  have HE6 : ExMap B (w5.alloc (.cells #[.int .i64 t, .slice a' 40 c'] 70)) r mm E := HEW.out.chg (S := fun _ => False) (Chg.of_below hB6) (fun _ h => h.elim) (fun _ h => h.elim) id
                  have hBg := HX3.out.bg
                  have hBrr := HX3.out.br
                  have HPU := Lib.hid (HE6.push (y := ⟨t, a', c', xd⟩) HV.out rfl hown7 hgrow7 (hlies7.imp_right (fun e => e)) (own_below (own_base HOW.out (by show B ≤ W.heap.size; omega)) hB67) hm8 hmr7)
                  have HC8 : Hid (Chg (fun k => k = r ∨ v.ownBlock = some k) W (setBlock w7 r o3)) := ((Chg.of_below hB6).grown hgrow7 (fun k hk => .inl (.inr hk))).trans ((setBlock_chg o3).mono (fun k _ hk => .inl hk))
                  have HC9 : Hid (Chg (S70 r w3) w3 (setBlock w7 r o3)) := chg_70' HC.out (chg_70 (hbp ▸ HBWr.out) (HC8.out.mono (fun k _ hk => hk.imp id (fun hk => (own_lt hrow.out k hk).2))))
                  have HB9 : Hid (Below B w3 (setBlock w7 r o3)) := (HBr.out.trans ((hbp ▸ HBWr.out : Below wr.heap.size wr W).mono (by omega))).trans (HC8.out.below (by omega) (fun k hk hS => by
                    rcases hS with rfl | hS
                    · omega
                    · have := own_ge hrow.out k hS; omega))
                  go_wp2
                  go_roundw
                  case rel =>
                    refine ⟨i + 1, by omega, by go_num, HC9.out, HB9.out, _, _, HPU.out, fun k => ?_⟩
                    rw [addA_step t A l i _ hX.out]
                    unfold add1
                    by_cases e : k = xl
                    · rw [if_pos e, if_pos e, e, ← HA.out xl]
                      simp [absV]
                    · rw [if_neg e, if_neg e]
                      exact HA.out k
                  case measure => simp [intOf]; omega
              · have e : l.take i = l := List.take_of_length_le (by rw [HM.out]; omega)
                rw [e] at HA
                have fz : wr.frozen? ⟨g, 2, none⟩ = false := free_heap HGR.out
                have u2 : wr.cell? ⟨g, 2, none⟩ = some (.int .i64 last) := cell_heap HGR.out rfl
                clear e
                go_wp2
                go_ret
                rw [hc.out]
                have hgm : g ≠ r := by
                  rintro rfl
                  obtain ⟨es, cl, hb9, _⟩ := HE.out.map
                  rw [HGR.out] at hb9; cases hb9
                have hCg : Chg (· = g) wr (wr.setCell ⟨g, 2, none⟩ (.int .i64 t)) := Chg.setCell (S := (· = g)) (Chg.refl _ _) (p := ⟨g, 2, none⟩) (.inl rfl) _
                refine ⟨rfl, ⟨?_, ?_, ?_⟩⟩
                · exact ((chg_70 hB3' HC.out).mono (fun k _ hk => .inr hk)).trans (hCg.mono (fun k _ hk => .inl hk))
                · exact ((hB3'.mono hBw).trans HBr.out).trans (hCg.below (Nat.le_trans hBw (Nat.le_trans hB3'.size HBr.out.size)) (fun k hk e => by have := HX3.out.bg; omega))
                · rw [if_pos rfl, if_pos rfl]
                  refine ⟨set_heap HGR.out, HX3.out.bg, HX3.out.br, ⟨mm, E, HE.out.chg hCg (fun k hk => hk ▸ noRow_type HGR.out (by decide)) (fun k hk => hk ▸ noRow_type HGR.out (by decide)) (fun e => hgm e.symm), fun k => (HA.out k).symm⟩, HX3.out.pure.apply HT.out hr.out hrg.out HLB.out⟩
        · have hc : Hid (acode n last t l = 2) := acode_range HT.out hr.out (.inr (fun h => hinl (h _ HTL.out)))
          have kl := Lib.hid (decide_eq_false hinl ▸ BK.out w2 hB2' pl.lba)
          clear hinl
          go_wp2_with fail
          refine k0.out.mono ?_
          rintro e w' ⟨rfl, rfl⟩
          go_wp2_with fail
          refine kl.out.mono ?_
          rintro e w' ⟨rfl, rfl⟩
          go_wp2
          go_ret
          rw [hc.out]
          exact ⟨rfl, apost_no HX.out hB2' hBw (by decide)⟩
      · have hc : Hid (acode n last t l = 2) := acode_range HT.out hr.out (.inl (fun h => hin0 (h _ HHD.out)))
        have k0 := Lib.hid (decide_eq_false hin0 ▸ BK.out w2 hB2' p0.lba)
        clear hin0
        go_wp2_with fail
        refine k0.out.mono ?_
        rintro e w' ⟨rfl, rfl⟩
        go_wp2
        go_ret
        rw [hc.out]
        exact ⟨rfl, apost_no HX.out hB2' hBw (by decide)⟩
end Go.Proofs.Ytglkbkocdeimiaa
