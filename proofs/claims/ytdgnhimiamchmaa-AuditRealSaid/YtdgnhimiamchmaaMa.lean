import Derived.Deep.DeepCutAuto
import Derived.Test.YtdgnhimiamchmaaFx
namespace Go.Proofs.Ytdgnhimiamchmaa
open Go.RowKit
open BigFrame Lib
open Go.ChangeMaps (setBlock)

/-- there is a block, with data that may be -/
def blockOk (n lba : Int) (dl : Nat) : Bool := decide (0 ≤ lba) && decide (lba < n) && decide (dl = 40)
theorem blk72_any (n lba : Int) (a : Option Addr) (c dl : Nat) (w : World) : Calls Try.prog 72 #[.int .i64 n, .int .i64 lba, .slice a dl c] w fun e w' => e = .returned (.bool (blockOk n lba dl)) ∧ w = w' := by
  by_cases h1 : 0 ≤ lba
  · by_cases h2 : lba < n
    · by_cases h3 : dl = 40
      · have HB : Hid (blockOk n lba dl = true) := by show _ = _; unfold blockOk; rw [decide_eq_true h1, decide_eq_true h2, decide_eq_true h3]; rfl
        have t3 : ((dl : Int) == 40) = true := by rw [h3]; rfl
        have t1 : decide (lba ≥ 0) = true := decide_eq_true h1
        clear h3
        go_enter Try.func72, Try.ntmps72
        go_wp2
        go_ret
        exact ⟨by rw [HB.out]; rfl, rfl⟩
      · have HB : Hid (blockOk n lba dl = false) := by show _ = _; unfold blockOk; rw [decide_eq_false h3]; simp
        have t3 : ((dl : Int) == 40) = false := beq_eq_false_iff_ne.2 (by omega)
        have t1 : decide (lba ≥ 0) = true := decide_eq_true h1
        clear h3
        go_enter Try.func72, Try.ntmps72
        go_wp2
        go_ret
        exact ⟨by rw [HB.out]; rfl, rfl⟩
    · have HB : Hid (blockOk n lba dl = false) := by show _ = _; unfold blockOk; rw [decide_eq_false h2]; simp
      have t2 : decide (lba < n) = false := decide_eq_false h2
      have t1 : decide (lba ≥ 0) = true := decide_eq_true h1
      go_enter Try.func72, Try.ntmps72
      go_wp2
      go_ret
      exact ⟨by rw [HB.out]; rfl, rfl⟩
  · have HB : Hid (blockOk n lba dl = false) := by show _ = _; unfold blockOk; rw [decide_eq_false h1]; simp
    have t1 : decide (lba ≥ 0) = false := decide_eq_false h1
    go_enter Try.func72, Try.ntmps72
    go_wp2
    go_ret
    exact ⟨by rw [HB.out]; rfl, rfl⟩

/-- what a history may be, ahead of its rows -/
def mayTop (h : HistV) : Bool := !(decide (h.st < 1) || decide (4 < h.st) || decide (h.bg < 0) || decide (1099511627776 < h.bg) || (wroteH h && (decide (h.tm ≤ h.bg) || decide (1099511627776 < h.tm))))
def mayPuts (n : Int) : List Int → List PutV → Bool
  | _, [] => true
  | seen, p :: l => !decide (p.lba ∈ seen) && (blockOk n p.lba p.d.length && mayPuts n (seen ++ [p.lba]) l)
def mayH (n : Int) (h : HistV) : Bool := mayTop h && (h.rl.all (fun r => blockOk n r.lba r.d.length) && mayPuts n [] h.pl)

set_option maxRecDepth 100000 in
set_option maxHeartbeats 4000000 in
theorem may_any (n : Int) (h : HistV) (w : World) (hk : HistOk w h) :
    Calls Try.prog 57 #[.int .i64 n, aggH h] w fun e w' => e = .returned (.bool (mayH n h)) ∧ Below w.heap.size w w' := by
  have HW := Lib.hid (fun W => wrote48_any h W)
  have HK := Lib.hid hk
  have HMT : Hid (∀ b, (!(decide (h.st < 1) || decide (4 < h.st) || decide (h.bg < 0) || decide (1099511627776 < h.bg) || (wroteH h && (decide (h.tm ≤ h.bg) || decide (1099511627776 < h.tm))))) = b → mayTop h = b) := fun b hb => hb
  have hrn := hk.rn
  have hpn := hk.pn
  unfold maxLen at hrn hpn
  clear hk
  unfold aggH at HW ⊢
  have HRDS := Lib.hid HK.out.reads
  have HPTS := Lib.hid HK.out.puts
  generalize h.ra = ra at *
  generalize h.pa = pa at *
  generalize hpq : h.pl.length = pn at *
  generalize hrq : h.rl.length = rn at *
  have HPQ := Lib.hid hpq; have HRQ := Lib.hid hrq
  clear hpq hrq
  go_enter Try.func57, Try.ntmps57
  have hB1 : Below w.heap.size w (w.alloc (.cells #[.int .i64 h.st, .int .i64 h.bg, .int .i64 h.tm, .int .i64 h.fr, .int .i64 h.to, .slice ra rn h.rc, .slice pa pn h.pc] 53)) := (Below.refl _ w).alloc (Nat.le_refl _) _
  have hbx : (w.alloc (.cells #[.int .i64 h.st, .int .i64 h.bg, .int .i64 h.tm, .int .i64 h.fr, .int .i64 h.to, .slice ra rn h.rc, .slice pa pn h.pc] 53)).heap[w.heap.size]? = some (.cells ([.int .i64 h.st, .int .i64 h.bg, .int .i64 h.tm, .int .i64 h.fr, .int .i64 h.to, .slice ra rn h.rc, .slice pa pn h.pc] : List Value).toArray 53 (0, 0)) := alloc_new rfl
  have hs1 : (w.alloc (.cells #[.int .i64 h.st, .int .i64 h.bg, .int .i64 h.tm, .int .i64 h.fr, .int .i64 h.to, .slice ra rn h.rc, .slice pa pn h.pc] 53)).heap.size = w.heap.size + 1 := by simp
  go_upto_region 1 with (fail)
  have HB1 := Lib.hid hB1
  generalize hb0 : w.heap.size = bx at *
  have HBX := Lib.hid hb0
  generalize w.alloc (.cells #[.int .i64 h.st, .int .i64 h.bg, .int .i64 h.tm, .int .i64 h.fr, .int .i64 h.to, .slice ra rn h.rc, .slice pa pn h.pc] 53) = w1 at *
  have c0 : w1.cell? ⟨bx, 0, none⟩ = some (.int .i64 h.st) := cell_heap hbx rfl
  have c1 : w1.cell? ⟨bx, 1, none⟩ = some (.int .i64 h.bg) := cell_heap hbx rfl
  have c2 : w1.cell? ⟨bx, 2, none⟩ = some (.int .i64 h.tm) := cell_heap hbx rfl
  have c3 : w1.cell? ⟨bx, 3, none⟩ = some (.int .i64 h.fr) := cell_heap hbx rfl
  have c4 : w1.cell? ⟨bx, 4, none⟩ = some (.int .i64 h.to) := cell_heap hbx rfl
  have c5 : w1.cell? ⟨bx, 5, none⟩ = some (.slice ra rn h.rc) := cell_heap hbx rfl
  have c6 : w1.cell? ⟨bx, 6, none⟩ = some (.slice pa pn h.pc) := cell_heap hbx rfl
  have hlt1 : bx < w1.heap.size := lt_heap hbx
  have HBXC := Lib.hid hbx
  clear hB1 hb0 hbx
  go_cut [43] (fun bv wx => ∃ nb : Bool, bv = .bool nb ∧ Aside (mayTop h = !nb) ∧ Aside (Below w1.heap.size w1 wx))
  case first =>
    by_cases a1 : h.st < 1
    · have HM : Hid (mayTop h = false) := HMT.out _ (by rw [decide_eq_true a1]; rfl)
      go_wp2_with fail
      go_meet
      exact ⟨true, rfl, HM.out, Below.refl _ _⟩
    · by_cases a2 : 4 < h.st
      · have t1 : decide (h.st < 1) = false := decide_eq_false a1
        have t2 : decide (h.st > 4) = true := decide_eq_true a2
        have HM : Hid (mayTop h = false) := HMT.out _ (by rw [decide_eq_true a2]; simp)
        go_wp2_with fail
        go_meet
        exact ⟨true, rfl, HM.out, Below.refl _ _⟩
      · by_cases a3 : h.bg < 0
        · have t1 : decide (h.st < 1) = false := decide_eq_false a1
          have t2 : decide (h.st > 4) = false := decide_eq_false a2
          have HM : Hid (mayTop h = false) := HMT.out _ (by rw [decide_eq_true a3]; simp)
          go_wp2_with fail
          go_meet
          exact ⟨true, rfl, HM.out, Below.refl _ _⟩
        · by_cases a4 : 1099511627776 < h.bg
          · have t1 : decide (h.st < 1) = false := decide_eq_false a1
            have t2 : decide (h.st > 4) = false := decide_eq_false a2
            have t3 : decide (h.bg < 0) = false := decide_eq_false a3
            have t4 : decide (h.bg > 1099511627776) = true := decide_eq_true a4
            have HM : Hid (mayTop h = false) := HMT.out _ (by rw [decide_eq_true a4]; simp)
            go_wp2_with fail
            go_meet
            exact ⟨true, rfl, HM.out, Below.refl _ _⟩
          · have t1 : decide (h.st < 1) = false := decide_eq_false a1
            have t2 : decide (h.st > 4) = false := decide_eq_false a2
            have t3 : decide (h.bg < 0) = false := decide_eq_false a3
            have t4 : decide (h.bg > 1099511627776) = false := decide_eq_false a4
            have HE : Hid (mayTop h = !(wroteH h && (decide (h.tm ≤ h.bg) || decide (1099511627776 < h.tm)))) := HMT.out _ (by rw [decide_eq_false a1, decide_eq_false a2, decide_eq_false a3, decide_eq_false a4]; rfl)
            cases hw : wroteH h with
            | false =>
              have HWF := Lib.hid hw
              have HM : Hid (mayTop h = true) := by show _ = _; rw [HE.out, hw]; rfl
              clear hw
              go_wp2_with (go_at_call 48; refine (HW.out _).mono ?_; rintro e w3 ⟨rfl, hB3⟩; rw [HWF.out])
              go_meet
              exact ⟨false, rfl, HM.out, hB3⟩
            | true =>
              have HWF := Lib.hid hw
              by_cases a5 : h.tm ≤ h.bg
              · have HM : Hid (mayTop h = false) := by show _ = _; rw [HE.out, hw, decide_eq_true a5]; rfl
                clear hw
                go_wp2_with (go_at_call 48; refine (HW.out _).mono ?_; rintro e w3 ⟨rfl, hB3⟩; rw [HWF.out]
                             have k1 := (hB3.cell (p := ⟨bx, 1, none⟩) hlt1).trans c1
                             have k2 := (hB3.cell (p := ⟨bx, 2, none⟩) hlt1).trans c2)
                go_meet
                exact ⟨true, rfl, HM.out, hB3⟩
              · have t5 : decide (h.tm ≤ h.bg) = false := decide_eq_false a5
                by_cases a6 : 1099511627776 < h.tm
                · have t6 : decide (h.tm > 1099511627776) = true := decide_eq_true a6
                  have HM : Hid (mayTop h = false) := by show _ = _; rw [HE.out, hw, decide_eq_false a5, decide_eq_true a6]; rfl
                  clear hw
                  go_wp2_with (go_at_call 48; refine (HW.out _).mono ?_; rintro e w3 ⟨rfl, hB3⟩; rw [HWF.out]
                               have k1 := (hB3.cell (p := ⟨bx, 1, none⟩) hlt1).trans c1
                               have k2 := (hB3.cell (p := ⟨bx, 2, none⟩) hlt1).trans c2)
                  go_meet
                  exact ⟨true, rfl, HM.out, hB3⟩
                · have t6 : decide (h.tm > 1099511627776) = false := decide_eq_false a6
                  have HM : Hid (mayTop h = true) := by show _ = _; rw [HE.out, hw, decide_eq_false a5, decide_eq_false a6]; rfl
                  clear hw
                  go_wp2_with (go_at_call 48; refine (HW.out _).mono ?_; rintro e w3 ⟨rfl, hB3⟩; rw [HWF.out]
                               have k1 := (hB3.cell (p := ⟨bx, 1, none⟩) hlt1).trans c1
                               have k2 := (hB3.cell (p := ⟨bx, 2, none⟩) hlt1).trans c2)
                  go_meet
                  exact ⟨false, rfl, HM.out, hB3⟩
  case rest =>
    obtain ⟨nb, rfl, HNB, HB2⟩ := hcut
    have k5 := (HB2.out.cell (p := ⟨bx, 5, none⟩) hlt1).trans c5
    have k6 := (HB2.out.cell (p := ⟨bx, 6, none⟩) hlt1).trans c6
    have hs2 := HB2.out.size
    have HBW2 : Hid (Below bx w wc) := HB1.out.trans (HB2.out.mono (by omega))
    have hl2 : bx < wc.heap.size := by omega
    clear c0 c1 c2 c3 c4 c5 c6 HW HMT HBXC HB2 HB1 hs2 hlt1 hs1
    generalize wc = w2 at *
    cases nb with
    | true =>
      have HV : Hid (mayH n h = false) := by show _ = _; unfold mayH; rw [HNB.out]; rfl
      go_wp2
      go_ret
      exact ⟨by rw [HV.out]; rfl, by rw [HBX.out]; exact HBW2.out⟩
    | false =>
      have HV : Hid (mayH n h = (h.rl.all (fun r => blockOk n r.lba r.d.length) && mayPuts n [] h.pl)) := by show _ = _; unfold mayH; rw [HNB.out]; rfl
      go_wp2_with fail
      go_loopw [47] (fun iv wr => ∃ i : Nat, i ≤ rn ∧ iv = .int .i64 i ∧ Below w2.heap.size w2 wr ∧ Aside (∀ y ∈ h.rl.take i, blockOk n y.lba y.d.length = true)) (fun iv _ => rn - (intOf iv).toNat)
      case atStart => exact ⟨0, Nat.zero_le _, rfl, Below.refl _ _, fun y hy => by simp at hy⟩
      case round =>
        obtain ⟨i, hi, rfl, hB, HT⟩ := hrel
        have hsz := hB.size
        have HBR : Hid (Below bx w wr) := HBW2.out.trans (hB.mono (by omega))
        by_cases hlt : i < rn
        · have hx : h.rl[i]? = some (h.rl[i]'(by rw [HRQ.out]; exact hlt)) := List.getElem?_eq_getElem _
          generalize h.rl[i]'(by rw [HRQ.out]; exact hlt) = x at hx
          obtain ⟨b1, o1, rfl, e1, d1, d2, d3, d4⟩ := (HRDS.out.below (HBX.out.symm ▸ HBR.out)) i x hx
          have HX := Lib.hid hx
          have HBK := Lib.hid (fun W => blk72_any n x.lba x.a x.c x.d.length W)
          clear hx d4
          cases h0 : blockOk n x.lba x.d.length with
          | true =>
            have H0 := Lib.hid h0; clear h0
            generalize hdl : x.d.length = dl at *
            have HDL := Lib.hid hdl
            clear hdl
            go_wp2_with (go_at_call 72; refine (HBK.out _).mono ?_; rintro e w4 ⟨rfl, rfl⟩; rw [H0.out])
            go_roundw
            case rel =>
              refine ⟨i + 1, by omega, by go_num, hB.alloc hsz _, fun y hy => ?_⟩
              rw [List.take_add_one, HX.out] at hy
              rcases List.mem_append.1 hy with hy | hy
              · exact HT.out y hy
              · simp at hy; subst hy; rw [HDL.out]; exact H0.out
            case measure => simp [intOf]; omega
          | false =>
            have HF : Hid (mayH n h = false) := by
              show _ = _
              rw [HV.out]
              have : h.rl.all (fun r => blockOk n r.lba r.d.length) = false := by
                rw [List.all_eq_false]
                exact ⟨x, List.mem_of_getElem? HX.out, by rw [h0]; decide⟩
              rw [this]; rfl
            have H0 := Lib.hid h0; clear h0
            generalize x.d.length = dl at *
            go_wp2_with (go_at_call 72; refine (HBK.out _).mono ?_; rintro e w4 ⟨rfl, rfl⟩; rw [H0.out])
            go_ret
            exact ⟨by rw [HF.out]; rfl, by rw [HBX.out]; exact HBR.out.alloc (by omega) _⟩
        · have HV2 : Hid (mayH n h = mayPuts n [] h.pl) := by
            show _ = _
            rw [HV.out]
            have : h.rl.all (fun r => blockOk n r.lba r.d.length) = true := List.all_eq_true.2 (fun y hy => HT.out y (by rw [List.take_of_length_le (by rw [HRQ.out]; omega)]; exact hy))
            rw [this]; rfl
          have k6r := (hB.cell (p := ⟨bx, 6, none⟩) hl2).trans k6
          clear k5 k6 HV HT
          have hsr : bx < wr.heap.size := by omega
          generalize wr = w3 at *
          go_wp2_with fail
          rw [run_mkmap]
          have hm := MapIs.new w3
          have hBm : Below w3.heap.size w3 (w3.alloc (.map #[] 0)) := (Below.refl _ w3).alloc (Nat.le_refl _) _
          have hsm : (w3.alloc (.map #[] 0)).heap.size = w3.heap.size + 1 := by simp
          have k6m := (hBm.cell (p := ⟨bx, 6, none⟩) hsr).trans k6r
          have HBM : Hid (Below bx w (w3.alloc (.map #[] 0))) := HBR.out.trans (hBm.mono (by omega))
          generalize hw4 : w3.alloc (.map #[] 0) = w4 at *
          generalize hq3 : w3.heap.size = q at *
          have HMP := Lib.hid hm
          have hqb : bx < q := hsr
          clear hw4 hBm k6r
          go_wp2_with fail
          go_loopw [63] (fun iv wr => ∃ i : Nat, i ≤ pn ∧ iv = .int .i64 i ∧ Aside (Chg (· = q) w4 wr) ∧ Aside (mayPuts n [] h.pl = mayPuts n ((h.pl.take i).map (·.lba)) (h.pl.drop i)) ∧ Aside (∃ mm, MapIs wr q mm ∧ ∀ k, mget mm k = if k ∈ (h.pl.take i).map (·.lba) then some (.int .i64 1) else none)) (fun iv _ => pn - (intOf iv).toNat)
          case atStart => exact ⟨0, Nat.zero_le _, rfl, Chg.refl _ _, rfl, [], HMP.out, fun k => rfl⟩
          case round =>
            obtain ⟨i, hi, rfl, HC, HT, HMM⟩ := hrel
            obtain ⟨mm, hmm, hmv⟩ := HMM.out
            have HV := Lib.hid hmv; clear hmv HMM
            have hsz4 := HC.out.size
            have HBR4 : Hid (Below bx w wr) := HBM.out.trans (HC.out.below (by omega) (fun k hk e => by omega))
            by_cases hlt : i < pn
            · have hx : h.pl[i]? = some (h.pl[i]'(by rw [HPQ.out]; exact hlt)) := List.getElem?_eq_getElem _
              generalize h.pl[i]'(by rw [HPQ.out]; exact hlt) = x at hx
              obtain ⟨b, o, rfl, e1, d1, d2, d3⟩ := (HPTS.out.below (HBX.out.symm ▸ HBR4.out)) i x hx
              have HX := Lib.hid hx
              have HBK := Lib.hid (fun W => blk72_any n x.lba x.a x.c x.d.length W)
              have HDR := Lib.hid (drop_cons hx)
              clear hx d3
              generalize hdl : x.d.length = dl at *
              have HDL := Lib.hid hdl
              clear hdl
              have hmW : MapIs (wr.alloc (Obj.cells #[.int .i64 x.lba, .slice x.a dl x.c] 39)) q mm := hmm.of_eq (alloc_heap hmm.lt)
              have f0 : (wr.alloc (Obj.cells #[.int .i64 x.lba, .slice x.a dl x.c] 39)).cell? ⟨wr.heap.size, 0, none⟩ = some (.int .i64 x.lba) := by first | omega | (simp; done) | (simp; omega) | (go_num; done)
              have f1 : (wr.alloc (Obj.cells #[.int .i64 x.lba, .slice x.a dl x.c] 39)).cell? ⟨wr.heap.size, 1, none⟩ = some (.slice x.a dl x.c) := by first | omega | (simp; done) | (simp; omega) | (go_num; done)
              have HCW : Aside (Chg (· = q) w4 (wr.alloc (Obj.cells #[.int .i64 x.lba, .slice x.a dl x.c] 39))) := HC.out.alloc _
              have hqr : q < wr.heap.size := hmm.lt
              by_cases hin : x.lba ∈ (h.pl.take i).map (·.lba)
              · have HF : Hid (mayH n h = false) := by show _ = _; rw [HV2.out, HT.out, HDR.out, mayPuts, decide_eq_true hin]; rfl
                go_wp2_with fail
                rw [map_lookup hmW Try.underlying85 Try.underlying3 Try.zero3, HV.out, if_pos hin]
                obtain ⟨o3, ho, hm3⟩ := map_update (P := Try.prog) (k := x.lba) (v := .int .i64 2) hmW Try.underlying85 Try.underlying3
                have F0 : (setBlock (wr.alloc (Obj.cells #[.int .i64 x.lba, .slice x.a dl x.c] 39)) q o3).cell? ⟨wr.heap.size, 0, none⟩ = some (.int .i64 x.lba) := (World.cell?_of_block (a := ⟨wr.heap.size, 0, none⟩) (setBlock_other (by show wr.heap.size ≠ q; omega))).trans f0
                go_wp2_with fail
                rw [map_lookup hm3 Try.underlying85 Try.underlying3 Try.zero3, mget_put, if_pos rfl]
                go_wp2
                go_ret
                exact ⟨by rw [HF.out]; rfl, by rw [HBX.out]; exact HBM.out.trans ((HCW.out.trans ((setBlock_chg o3).mono (fun _ _ h => h))).below (by omega) (fun k hk e => by omega))⟩
              · obtain ⟨o3, ho, hm3⟩ := map_update (P := Try.prog) (k := x.lba) (v := .int .i64 1) hmW Try.underlying85 Try.underlying3
                have F0 : (setBlock (wr.alloc (Obj.cells #[.int .i64 x.lba, .slice x.a dl x.c] 39)) q o3).cell? ⟨wr.heap.size, 0, none⟩ = some (.int .i64 x.lba) := (World.cell?_of_block (a := ⟨wr.heap.size, 0, none⟩) (setBlock_other (by show wr.heap.size ≠ q; omega))).trans f0
                have F1 : (setBlock (wr.alloc (Obj.cells #[.int .i64 x.lba, .slice x.a dl x.c] 39)) q o3).cell? ⟨wr.heap.size, 1, none⟩ = some (.slice x.a dl x.c) := (World.cell?_of_block (a := ⟨wr.heap.size, 1, none⟩) (setBlock_other (by show wr.heap.size ≠ q; omega))).trans f1
                have HC3 : Aside (Chg (· = q) w4 (setBlock (wr.alloc (Obj.cells #[.int .i64 x.lba, .slice x.a dl x.c] 39)) q o3)) := HCW.out.trans ((setBlock_chg o3).mono (fun _ _ h => h))
                cases h0 : blockOk n x.lba dl with
                | true =>
                  have H0 := Lib.hid h0; clear h0
                  go_wp2_with fail
                  rw [map_lookup hmW Try.underlying85 Try.underlying3 Try.zero3, HV.out, if_neg hin]
                  go_wp2_with fail
                  rw [map_lookup hm3 Try.underlying85 Try.underlying3 Try.zero3, mget_put, if_pos rfl]
                  go_wp2_with (go_at_call 72; refine (HBK.out _).mono ?_; rintro e w5 ⟨rfl, rfl⟩; rw [H0.out])
                  go_roundw
                  case rel =>
                    refine ⟨i + 1, by omega, by go_num, HC3.out, ?_, _, hm3, fun k => ?_⟩
                    · show _ = _
                      rw [HT.out, HDR.out, mayPuts, decide_eq_false hin, HDL.out, H0.out, List.take_add_one, HX.out]; simp
                    · rw [mget_put, List.take_add_one, HX.out, HV.out]
                      by_cases e : k = x.lba
                      · subst e; simp
                      · rw [if_neg e]; simp [e]
                  case measure => simp [intOf]; omega
                | false =>
                  have HF : Hid (mayH n h = false) := by show _ = _; rw [HV2.out, HT.out, HDR.out, mayPuts, HDL.out, h0]; simp
                  have H0 := Lib.hid h0; clear h0
                  go_wp2_with fail
                  rw [map_lookup hmW Try.underlying85 Try.underlying3 Try.zero3, HV.out, if_neg hin]
                  go_wp2_with fail
                  rw [map_lookup hm3 Try.underlying85 Try.underlying3 Try.zero3, mget_put, if_pos rfl]
                  go_wp2_with (go_at_call 72; refine (HBK.out _).mono ?_; rintro e w5 ⟨rfl, rfl⟩; rw [H0.out])
                  go_ret
                  exact ⟨by rw [HF.out]; rfl, by rw [HBX.out]; exact HBM.out.trans (HC3.out.below (by omega) (fun k hk e => by omega))⟩
            · have HF : Hid (mayH n h = true) := by
                show _ = _
                rw [HV2.out, HT.out, List.drop_eq_nil_of_le (by rw [HPQ.out]; omega), mayPuts]
              go_wp2
              go_ret
              exact ⟨by rw [HF.out]; rfl, by rw [HBX.out]; exact HBR4.out⟩
end Go.Proofs.Ytdgnhimiamchmaa
