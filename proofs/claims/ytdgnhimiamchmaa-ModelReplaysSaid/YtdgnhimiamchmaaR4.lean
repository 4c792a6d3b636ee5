import Derived.Test.YtdgnhimiamchmaaR3
import Derived.Deep.RegionHeld3
namespace Go.Proofs.Ytdgnhimiamchmaa
open Go.RowKit
open BigFrame Lib
open Go.ChangeMaps (setBlock)

theorem anyBad_cons {n : Int} {l : List PutV} {i : Nat} {x : PutV} (hx : l[i]? = some x) (h : anyBad n (l.take i) = false) (hb : lbaOk n x = true) : anyBad n (l.take (i + 1)) = false := by
  unfold anyBad at *
  rw [List.take_add_one, hx, List.any_append, h]; simp [hb]
theorem anyBad_at {n : Int} {l : List PutV} {i : Nat} {x : PutV} (hx : l[i]? = some x) (hb : lbaOk n x = false) : anyBad n l = true := by
  unfold anyBad
  rw [List.any_eq_true]
  exact ⟨x, List.mem_of_getElem? hx, by simp [hb]⟩

def NoInt (w : World) (k : Nat) : Prop := ∀ o q x, w.cell? ⟨k, o, none⟩ ≠ some (.int q x)
theorem NoInt.u8 {w : World} {k : Nat} (h : NoInt w k) : NoU8 w k := fun o x => h o _ x
theorem noInt_slices {w : World} {k : Nat} {es : List WE} (h : w.heap[k]? = some (.cells (es.map vW).toArray 35 (0, 0))) : NoInt w k := by
  intro o q x hc
  simp only [World.cell?, h, Option.isSome_none, Bool.false_eq_true, if_false, List.getElem?_toArray, List.getElem?_map, Option.map_eq_some_iff] at hc
  obtain ⟨y, _, hy⟩ := hc
  cases hy
theorem RefM.noInt {w : World} {gx lb n : Nat} {D : Int → List Int} (h : RefM w gx lb n D) : NoInt w lb := by
  obtain ⟨es, hb, _⟩ := h.ex; exact noInt_slices hb
theorem PutsAt.chg_no {S : Nat → Prop} {w w' : World} {a : Option Addr} {l : List PutV} (h : PutsAt w a l) (hC : Chg S w w') (hS : ∀ k, S k → NoInt w k) : PutsAt w' a l := fun i x hi => by
  obtain ⟨b, o, h1, h2, h3, h4, h5⟩ := h i x hi
  have hb : ¬ S b := fun s => hS b s _ _ _ h3
  exact ⟨b, o, h1, Nat.lt_of_lt_of_le h2 hC.size, (World.cell?_of_block (a := ⟨b, o + i * 2, none⟩) (hC.block b h2 hb)).trans h3, (World.cell?_of_block (a := ⟨b, o + i * 2 + 1, none⟩) (hC.block b h2 hb)).trans h4,
    h5.1, h5.2.1, h5.2.2.1, h5.2.2.2.1, h5.2.2.2.2.chg_no hC (fun k hk => (hS k hk).u8)⟩
/-- one block written anew -/
theorem RefM.put {w : World} {gx lb n : Nat} {D : Int → List Int} (h : RefM w gx lb n D) {p : PutV} (hR : Rd u8 w p.a p.d) (hd : p.d.length = 40) (hc : p.c ≤ maxLen) (h0 : 0 ≤ p.lba) (h1 : p.lba < n) :
    RefM (w.setCell ⟨lb, p.lba.toNat, none⟩ (.slice p.a 40 p.c)) gx lb n (put1 D p) := by
  obtain ⟨es, hb, hl, ho, hw⟩ := h.ex
  have hC : Chg (· = lb) w (w.setCell ⟨lb, p.lba.toNat, none⟩ (.slice p.a 40 p.c)) := Chg.setCell (S := (· = lb)) (Chg.refl _ _) (p := ⟨lb, p.lba.toNat, none⟩) (.inl rfl) _
  have hN : ∀ k, k = lb → NoU8 w k := by rintro k rfl; exact noU8_slices hb
  refine ⟨(set_heap_ne h.ne).trans h.top, ⟨es.set p.lba.toNat ⟨p.a, p.c, p.d⟩, ?_, by rw [List.length_set]; exact hl, fun e he => ?_, fun k => ?_⟩, h.hi, h.lo⟩
  · rw [set_heap hb, List.map_set]
    show _ = some (Obj.cells ((es.map vW).set p.lba.toNat (.slice p.a p.d.length p.c)).toArray 35 (0, 0))
    rw [hd]
  · rcases List.mem_or_eq_of_mem_set he with he | rfl
    · exact ⟨(ho e he).1.chg_no hC hN, (ho e he).2⟩
    · exact ⟨hR.chg_no hC hN, .inr hd, hc⟩
  · unfold put1
    by_cases e : k = p.lba
    · subst e
      rw [if_pos rfl]
      unfold want
      rw [if_pos h0, List.getD_eq_getElem?_getD, List.getElem?_set, if_pos rfl, if_pos (by omega)]; rfl
    · rw [if_neg e, ← hw]
      unfold want
      by_cases hk : 0 ≤ k
      · rw [if_pos hk, if_pos hk, List.getD_eq_getElem?_getD, List.getD_eq_getElem?_getD, List.getElem?_set, if_neg (by omega)]
      · rw [if_neg hk, if_neg hk]

set_option maxRecDepth 100000 in
set_option maxHeartbeats 1000000 in
theorem rrun_any {gx lb n : Nat} {D : Int → List Int} (t : Int) (a : Option Addr) (c : Nat) (l : List PutV) (w : World) (hn : l.length ≤ 1000000) (h1 : PutsAt w a l) (hM : RefM w gx lb n D) :
    Calls Try.prog 28 #[.pointer (some ⟨gx, 0, none⟩), .agg #[.int .i64 t, .slice a l.length c]] w fun e w' => e = .returned (.int .i64 (code n l)) ∧ Chg (· = lb) w w' ∧ RefM w' gx lb n (after n l D) := by
  have HM := Lib.hid hM
  have H1 := Lib.hid h1
  have hhi := hM.hi
  clear h1 hM
  generalize hq : l.length = m at *
  have HL := Lib.hid hq; clear hq
  have hB0 : Below w.heap.size w (w.alloc (.cells #[.int .i64 t, .slice a m c] 25)) := (Below.refl _ w).alloc (Nat.le_refl _) _
  have hbx : Hid ((w.alloc (.cells #[.int .i64 t, .slice a m c] 25)).heap[w.heap.size]? = some (.cells #[.int .i64 t, .slice a m c] 25 (0, 0))) := alloc_new rfl
  have hsz : w.heap.size < (w.alloc (.cells #[.int .i64 t, .slice a m c] 25)).heap.size := by simp
  have hfin : Hid (∀ W, Below w.heap.size w W → code n l ≠ 0 → Chg (· = lb) w W ∧ RefM W gx lb n (after n l D)) := by
    intro W hW hc
    refine ⟨Chg.of_below hW, ?_⟩
    rw [show after n l D = D by unfold after; rw [if_neg hc]]
    exact HM.out.below hW
  go_enter Try.func28, Try.ntmps28
  go_wp2_with fail
  generalize w.alloc (.cells #[.int .i64 t, .slice a m c] 25) = w1 at *
  go_loopw [5] (fun iv wr => ∃ i : Nat, i ≤ m ∧ iv = .int .i64 i ∧ Below (w.heap.size + 1) w1 wr ∧ anyBad n (l.take i) = false) (fun iv _ => m - (intOf iv).toNat)
  case atStart => exact ⟨0, Nat.zero_le _, rfl, Below.refl _ _, rfl⟩
  case round =>
    obtain ⟨i, hi, rfl, hB, hgood⟩ := hrel
    have HG := Lib.hid hgood; clear hgood
    have hBw : Below w.heap.size w wr := hB0.trans (hB.mono (by omega))
    have hbr : wr.heap[w.heap.size]? = some (.cells #[.int .i64 t, .slice a m c] 25 (0, 0)) := (hB.block _ (by omega)).trans hbx.out
    have x1 : wr.cell? ⟨w.heap.size, 1, none⟩ = some (.slice a m c) := cell_heap (c := [.int .i64 t, .slice a m c]) hbr rfl
    have c0 := (HM.out.below hBw).c0
    clear hbr
    by_cases hlt : i < m
    · have hx : l[i]? = some (l[i]'(by rw [HL.out]; exact hlt)) := List.getElem?_eq_getElem _
      generalize l[i]'(by rw [HL.out]; exact hlt) = x at hx
      obtain ⟨b, o, ea, e1, d1, _, d3⟩ := H1.out.below hBw i x hx
      subst ea
      have hx1 := d3.1
      have hx2 := d3.2.1
      have HX := Lib.hid hx
      clear hx d3
      cases hb : lbaOk n x with
      | true =>
        have hin : 0 ≤ x.lba ∧ x.lba < n := by simpa [lbaOk] using hb
        have HBK := Lib.hid hb
        have t1 : decide (x.lba < 0) = false := by simp; omega
        have t2 : decide ((n : Int) ≤ x.lba) = false := by simp; omega
        clear hb
        go_wp2_with fail
        go_quiet (fail)
        go_wp2
        go_roundw
        case rel => exact ⟨i + 1, by omega, by go_num, below_drewN hB _, anyBad_cons HX.out HG.out HBK.out⟩
        case measure => simp [intOf]; omega
      | false =>
        have hc : Hid (code n l = 2) := by show _ = _; unfold code; rw [if_pos (anyBad_at HX.out hb)]
        have hin : ¬ (0 ≤ x.lba ∧ x.lba < n) := by simpa [lbaOk] using hb
        clear hb
        by_cases h0 : x.lba < 0
        · have t1 : decide (x.lba < 0) = true := by simpa using h0
          clear hin
          go_wp2_with fail
          go_quiet (fail)
          go_wp2
          go_ret
          exact ⟨by rw [hc.out]; rfl, hfin.out _ (below_drewN hBw _) (by rw [hc.out]; decide)⟩
        · have t1 : decide (x.lba < 0) = false := by simpa using h0
          have t2 : decide ((n : Int) ≤ x.lba) = true := by simp; omega
          have t3 : (n : Int) ≤ x.lba := by omega
          clear hin
          go_wp2_with fail
          go_quiet (fail)
          go_wp2
          go_ret
          exact ⟨by rw [hc.out]; rfl, hfin.out _ (below_drewN hBw _) (by rw [hc.out]; decide)⟩
    · have HAB : Hid (anyBad n l = false) := by
        show _ = _
        have := HG.out
        rwa [List.take_of_length_le (by rw [HL.out]; omega)] at this
      have hBo := Lib.hid hBw
      have hBo1 := Lib.hid hB
      clear c0 hBw hB
      go_wp2_with fail
      clear x1
      go_loopw [6] (fun iv wr2 => ∃ i : Nat, i ≤ m ∧ iv = .int .i64 i ∧ Below (w.heap.size + 1) w1 wr2 ∧ argBad [] l = argBad ((l.take i).map (·.lba)) (l.drop i)) (fun iv _ => m - (intOf iv).toNat)
      case atStart => exact ⟨0, Nat.zero_le _, rfl, hBo1.out, rfl⟩
      case round =>
        clear hBo hBo1 HG hi hlt
        obtain ⟨i, hi, rfl, hB, ht⟩ := hrel
        have HT := Lib.hid ht; clear ht
        have hBw : Below w.heap.size w wr := hB0.trans (hB.mono (by omega))
        have hbr : wr.heap[w.heap.size]? = some (.cells #[.int .i64 t, .slice a m c] 25 (0, 0)) := (hB.block _ (by omega)).trans hbx.out
        have x1 : wr.cell? ⟨w.heap.size, 1, none⟩ = some (.slice a m c) := cell_heap (c := [.int .i64 t, .slice a m c]) hbr rfl
        clear hbr
        by_cases hlt : i < m
        · have hx : l[i]? = some (l[i]'(by rw [HL.out]; exact hlt)) := List.getElem?_eq_getElem _
          generalize l[i]'(by rw [HL.out]; exact hlt) = x at hx
          obtain ⟨b, o, ea, e1, d1, d2, d3⟩ := H1.out.below hBw i x hx
          subst ea
          have hdl := d3.2.2.1
          unfold maxLen at hdl
          have HX := Lib.hid hx
          clear hx d3
          have hcode1 : Hid (argBad [] l = true → code n l = 1) := by
            intro h
            unfold code
            rw [HAB.out, if_neg (by decide), if_pos h]
          by_cases h40 : x.d.length = 40
          · have t40 : ((x.d.length : Int) != 40) = false := by simp; omega
            have H40 := Lib.hid h40; clear h40
            generalize hq : x.d.length = dl at *
            have HQ := Lib.hid hq
            clear hq
            have HB := Lib.hid hB
            go_wp2_with fail
            clear x1 d1 d2 hB hBw
            go_loopw [7] (fun kv wr3 => ∃ k : Nat, k ≤ i ∧ kv = .int .i64 k ∧ Below (w.heap.size + 1) w1 wr3 ∧ x.lba ∉ (l.take k).map (·.lba)) (fun kv _ => i - (intOf kv).toNat)
            case atStart => exact ⟨0, Nat.zero_le _, rfl, HB.out, by simp⟩
            case round =>
              clear HB
              obtain ⟨k, hk, rfl, hB, hnm⟩ := hrel
              have HNM := Lib.hid hnm; clear hnm
              have hBw : Below w.heap.size w wr := hB0.trans (hB.mono (by omega))
              have hbr : wr.heap[w.heap.size]? = some (.cells #[.int .i64 t, .slice (some ⟨b, o, none⟩) m c] 25 (0, 0)) := (hB.block _ (by omega)).trans hbx.out
              have x1 : wr.cell? ⟨w.heap.size, 1, none⟩ = some (.slice (some ⟨b, o, none⟩) m c) := cell_heap (c := [.int .i64 t, .slice (some ⟨b, o, none⟩) m c]) hbr rfl
              clear hbr
              obtain ⟨b', o', ea, e2, d1, _, _⟩ := H1.out.below hBw i x HX.out
              cases ea
              by_cases hki : k < i
              · have hy : l[k]? = some (l[k]'(by rw [HL.out]; omega)) := List.getElem?_eq_getElem _
                generalize l[k]'(by rw [HL.out]; omega) = y at hy
                obtain ⟨b', o', ea, e3, f1, _, _⟩ := H1.out.below hBw k y hy
                cases ea
                have HY := Lib.hid hy; clear hy
                have hkm : k < m := by omega
                by_cases hxy : y.lba = x.lba
                · have t2 : (y.lba == x.lba) = true := by simpa using hxy
                  have hc : Hid (code n l = 1) := by
                    refine hcode1.out ?_
                    rw [HT.out, drop_cons HX.out, argBad, decide_eq_true (List.mem_map.2 ⟨y, List.mem_of_getElem? (by rw [List.getElem?_take, if_pos hki]; exact HY.out), hxy⟩)]
                    rfl
                  clear hxy
                  go_wp2_with fail
                  go_quiet (fail)
                  go_wp2
                  go_ret
                  exact ⟨by rw [hc.out]; rfl, hfin.out _ (below_drewN hBw _) (by rw [hc.out]; decide)⟩
                · have t2 : (y.lba == x.lba) = false := by simpa using hxy
                  have HXY := Lib.hid hxy
                  clear hxy
                  go_wp2_with fail
                  go_quiet (fail)
                  go_wp2
                  go_roundw
                  case rel =>
                    refine ⟨k + 1, by omega, by go_num, below_drewN hB _, ?_⟩
                    rw [List.take_add_one, HY.out, List.map_append, List.mem_append]
                    rintro (h5 | h5)
                    · exact HNM.out h5
                    · simp at h5; exact HXY.out h5.symm
                  case measure => simp [intOf]; omega
              · obtain rfl : k = i := by omega
                clear hki
                go_wp2
                go_roundw
                case rel =>
                  refine ⟨k + 1, by omega, by go_num, hB, ?_⟩
                  rw [HT.out, drop_cons HX.out, argBad, decide_eq_false HNM.out, HQ.out, H40.out, List.take_add_one, HX.out]; simp
                case measure => simp [intOf]; omega
          · have t40 : ((x.d.length : Int) != 40) = true := by simp; omega
            have hc : Hid (code n l = 1) := by
              refine hcode1.out ?_
              rw [HT.out, drop_cons HX.out, argBad, show (x.d.length != 40) = true by simpa using h40]; simp
            generalize hq : x.d.length = dl at *
            clear hq h40
            go_wp2
            go_ret
            exact ⟨by rw [hc.out]; rfl, hfin.out _ hBw (by rw [hc.out]; decide)⟩
        · have hc : Hid (code n l = 0) := by
            show _ = _
            have := HT.out
            rw [List.drop_eq_nil_of_le (by rw [HL.out]; omega), argBad] at this
            unfold code
            rw [HAB.out, this]; rfl
          have hlen40 := Lib.hid (code_len hc.out)
          have hinr : Hid (∀ x ∈ l, 0 ≤ x.lba ∧ x.lba < n) := by
            intro x hx
            have := HAB.out
            unfold anyBad at this
            rw [List.any_eq_false] at this
            simpa [lbaOk] using this x hx
          have HBw := Lib.hid hBw
          have HBo := Lib.hid hB
          obtain ⟨i5, hi5, hy0, hy1, hy2⟩ := info_parts Try.info5
          have HI := Lib.hid hi5; have HZ0 := Lib.hid hy0; have HZ1 := Lib.hid hy1; have HZ2 := Lib.hid hy2
          clear hi5 hy0 hy1 hy2 hBw hB
          have hs1 := HBw.out.size
          have hs2 : w.heap.size < wr.heap.size := by have := HBo.out.size; omega
          go_wp2_with fail
          clear x1
          obtain ⟨w3, hw3⟩ : ∃ w3, w3 = wr := ⟨_, rfl⟩
          subst hw3
          go_loopw [8] (fun iv wr2 => ∃ i : Nat, i ≤ m ∧ iv = .int .i64 i ∧ Chg (· = lb) w3 wr2 ∧ RefM wr2 gx lb n (upd D (l.take i))) (fun iv _ => m - (intOf iv).toNat)
          case atStart => exact ⟨0, Nat.zero_le _, rfl, Chg.refl _ _, HM.out.below HBw.out⟩
          case round =>
            obtain ⟨i, hi, rfl, hC, hMr⟩ := hrel
            have HMr := Lib.hid hMr; have HC := Lib.hid hC
            clear hMr hC
            have hM3 := HM.out.below HBw.out
            have hlbw : lb < w.heap.size := by obtain ⟨es, hb, _⟩ := HM.out.ex; exact lt_heap hb
            have hgw := lt_heap HM.out.top
            have hne := HM.out.ne
            have hbr : wr.heap[w.heap.size]? = some (.cells #[.int .i64 t, .slice a m c] 25 (0, 0)) := (HC.out.block _ hs2 (by omega)).trans ((HBo.out.block _ (by omega)).trans hbx.out)
            have x1 : wr.cell? ⟨w.heap.size, 1, none⟩ = some (.slice a m c) := cell_heap (c := [.int .i64 t, .slice a m c]) hbr rfl
            have c0 := HMr.out.c0
            have hs3 := HC.out.size
            clear hM3
            by_cases hlt : i < m
            · have hx : l[i]? = some (l[i]'(by rw [HL.out]; exact hlt)) := List.getElem?_eq_getElem _
              generalize l[i]'(by rw [HL.out]; exact hlt) = x at hx
              have hPr := (H1.out.below HBw.out).chg_no HC.out (by rintro k rfl; exact (HM.out.below HBw.out).noInt)
              obtain ⟨b, o, ea, e1, d1, d2, d3⟩ := hPr i x hx
              subst ea
              have h40 := hlen40.out x (List.mem_of_getElem? hx)
              have hrg := hinr.out x (List.mem_of_getElem? hx)
              have hup : Hid (upd D (l.take (i + 1)) = put1 (upd D (l.take i)) x) := by
                show _ = _
                unfold upd
                rw [List.take_add_one, hx, List.foldl_append]; rfl
              obtain ⟨b5, o5, hxa, hb5, _⟩ := d3.2.2.2.2.head (by omega)
              obtain ⟨xl, xa, xc, xd⟩ := x
              simp only at h40 hrg hxa d1 d2
              subst hxa
              have hxd : Rd u8 wr (some ⟨b5, o5, none⟩) xd := d3.2.2.2.2
              rw [h40] at d2
              have hr0 := hrg.1
              have hr1 := hrg.2
              obtain ⟨kl, hkl⟩ : ∃ kl : Nat, xl = kl := ⟨xl.toNat, by omega⟩
              rw [hkl] at d1
              have hkn : kl < n := by omega
              have HX40 := Lib.hid h40; have HXD := Lib.hid hxd; have HKL := Lib.hid hkl
              clear d3 h40 hxd hrg hx hPr hkl hr0 hr1
              have fz : wr.frozen? ⟨lb, kl, none⟩ = false := by
                obtain ⟨es, hb, _⟩ := HMr.out.ex; exact free_heap hb
              obtain ⟨eo, ce, _⟩ := HMr.out.get kl hkn
              generalize Value.slice eo.a (upd D (l.take i) (kl : Int)).length eo.c = ov at ce
              have hlbr : lb < wr.heap.size := by omega
              have hbne : b ≠ lb := by
                rintro rfl
                exact HMr.out.noInt _ _ _ d1
              have hxne : w.heap.size ≠ lb := by omega
              have hBW : Below wr.heap.size wr (wr.alloc (.cells #[] 5)) := (Below.refl _ wr).alloc (Nat.le_refl _) _
              have hbl := e1
              have hgr : gx < wr.heap.size := by omega
              have hbxr : w.heap.size < wr.heap.size := by omega
              have k1 := (hBW.cell (p := ⟨gx, 0, none⟩) hgr).trans c0
              have k2 := (hBW.cell (p := ⟨w.heap.size, 1, none⟩) hbxr).trans x1
              have k3 := (hBW.cell (p := ⟨b, o + i * 2, none⟩) hbl).trans d1
              have k4 := (hBW.cell (p := ⟨b, o + i * 2 + 1, none⟩) hbl).trans d2
              have how : Hid ((wr.alloc (.cells #[] 5)).ownsRow wr.heap.size 5 1 (.slice (some ⟨wr.heap.size, 0, none⟩) 0 0) 0 []) := World.ownsRow_lit _ _ 0 (Nat.le_refl _) (by unfold maxLen; omega) rfl
              have hnews : Hid (∀ (j : Nat) (u : Value), (xd.map Go.Proofs.Ytdgnhimiamchmaa.u8)[j]? = some u → (wr.alloc (.cells #[] 5)).cell? ((⟨b5, o5, none⟩ : Addr).add j) = some u) := by
                intro j u hu
                rw [List.getElem?_map] at hu
                cases hl : xd[j]? with
                | none => rw [hl] at hu; cases hu
                | some y =>
                  rw [hl] at hu; cases hu
                  obtain ⟨b', o', he, hb, hc⟩ := HXD.out.below hBW j y hl
                  cases he
                  rw [show ((⟨b5, o5, none⟩ : Addr).add j) = ⟨b5, o5 + j, none⟩ by unfold Addr.add; split; (rename_i h0; subst h0; rfl); rfl]
                  exact hc
              have hsW : (wr.alloc (.cells #[] 5)).heap.size = wr.heap.size + 1 := by simp
              go_wp2_with fail
              go_region_held3 (fun w' => w'.cell? ⟨gx, 0, none⟩ = some (.slice (some ⟨lb, 0, none⟩) n n) ∧ w'.cell? ⟨w.heap.size, 1, none⟩ = some (.slice (some ⟨b, o, none⟩) m c) ∧ w'.cell? ⟨b, o + i * 2, none⟩ = some (.int .i64 (kl : Int)) ∧ w'.cell? ⟨b, o + i * 2 + 1, none⟩ = some (.slice (some ⟨b5, o5, none⟩) 40 xc))
                (go_keep)
                (first
                 | (refine step_append_lies _ (by rfl) _ _ _ (by rfl) wr.heap.size 5 i5 _ 1 1 Try.underlying35 HI.out HZ0.out HZ1.out HZ2.out rfl (by omega) (.slice (some ⟨wr.heap.size, 0, none⟩) 0 0) 0 [] (by rfl) (by exact how.out)
                      ⟨b5, o5, none⟩ 40 xc (xd.map Go.Proofs.Ytdgnhimiamchmaa.u8) (by rfl) (by simp [HX40.out]) (by exact hnews.out) (by intro u hu; obtain ⟨x, _, rfl⟩ := List.mem_map.1 hu; rfl) (by omega) (by unfold maxLen; omega) (by omega) (by show wr.heap.size ≤ (wr.alloc (.cells #[] 5)).heap.size; omega) _ rfl ?_
                    intro g4 cap4 w4 hown4 hgrow4 hlies4 hlt4
                    have hB4 : Below wr.heap.size wr w4 := (hBW.drew).grown hgrow4 (by show wr.heap.size ≤ (wr.alloc (.cells #[] 5)).heap.size; omega) (fun kk hk => by simp [Value.ownBlock] at hk; omega)
                    have q1 := (hB4.cell (p := ⟨gx, 0, none⟩) hgr).trans c0
                    have q2 := (hB4.cell (p := ⟨w.heap.size, 1, none⟩) hbxr).trans x1
                    have q3 := (hB4.cell (p := ⟨b, o + i * 2, none⟩) hbl).trans d1
                    have q4 := (hB4.cell (p := ⟨b, o + i * 2 + 1, none⟩) hbl).trans d2
                    have q5 : w4.frozen? ⟨lb, kl, none⟩ = false := (hB4.frozen (p := ⟨lb, kl, none⟩) hlbr).trans fz
                    have q6 := (hB4.cell (p := ⟨lb, kl, none⟩) hlbr).trans ce
                    have r1 := (World.cell?_of_block (a := ⟨gx, 0, none⟩) (set_heap_ne (w := w4) (b := lb) (o := kl) (u := .slice (some ⟨g4, 0, none⟩) 40 cap4) hne)).trans q1
                    have r2 := (World.cell?_of_block (a := ⟨w.heap.size, 1, none⟩) (set_heap_ne (w := w4) (b := lb) (o := kl) (u := .slice (some ⟨g4, 0, none⟩) 40 cap4) hxne)).trans q2
                    have r3 := (World.cell?_of_block (a := ⟨b, o + i * 2, none⟩) (set_heap_ne (w := w4) (b := lb) (o := kl) (u := .slice (some ⟨g4, 0, none⟩) 40 cap4) hbne)).trans q3
                    have r4 := (World.cell?_of_block (a := ⟨b, o + i * 2 + 1, none⟩) (set_heap_ne (w := w4) (b := lb) (o := kl) (u := .slice (some ⟨g4, 0, none⟩) 40 cap4) hbne)).trans q4))
              have HO4 := Lib.hid hown4
              have HB4 := Lib.hid hB4
              clear hown4 hgrow4
              go_wp2
              go_roundw
              case rel =>
                refine ⟨i + 1, by omega, by go_num, (HC.out.trans (Chg.of_below HB4.out)).trans (Chg.setCell (S := (· = lb)) (Chg.refl _ _) (p := ⟨lb, kl, none⟩) (.inl rfl) _), ?_⟩
                rw [hup.out]
                have h40' := (Rd.of_own (l := xd) HO4.out)
                have := (HMr.out.below HB4.out).put (p := ⟨kl, some ⟨g4, 0, none⟩, cap4, xd⟩) h40'.2 HX40.out (own_cap HO4.out) (by show (0 : Int) ≤ kl; omega) (by show (kl : Int) < n; omega)
                have e : put1 (upd D (l.take i)) ⟨xl, some ⟨b5, o5, none⟩, xc, xd⟩ = put1 (upd D (l.take i)) ⟨kl, some ⟨g4, 0, none⟩, cap4, xd⟩ := by
                  unfold put1; rw [HKL.out]
                rw [e]
                exact this
              case measure => simp [intOf]; omega
            · go_wp2
              go_ret
              refine ⟨by rw [hc.out]; rfl, (Chg.of_below HBw.out).trans HC.out, ?_⟩
              rw [show after n l D = upd D l by unfold after; rw [if_pos hc.out]]
              have := HMr.out
              rwa [List.take_of_length_le (by rw [HL.out]; omega)] at this
end Go.Proofs.Ytdgnhimiamchmaa
