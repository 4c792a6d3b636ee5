import Derived.Test.YtdgnhimiamchmaaSw
namespace Go.Proofs.Ytdgnhimiamchmaa
open Go.RowKit
open BigFrame Lib

set_option maxRecDepth 100000 in
set_option maxHeartbeats 8000000 in
theorem saw_any (n : Int) (a : Option Addr) (c : Nat) (l : List HistV) (oa : Option Addr) (oc : Nat) (os : List Nat) (h : HistV) (w : World) (n1 : 1 ≤ n) (n2 : n ≤ 1048576) (hol : os.length ≤ 100000) (hl : l.length ≤ 100000)
    (hA : HistsAt w a l) (hO : Rd i64n w oa os) (hos : ∀ k ∈ os, k < l.length) (hk : HistOk w h) (hpl : ∀ x ∈ l, x.pl.length ≤ 1000000) (hmay : ∀ x ∈ l, mayPuts n [] x.pl = true) (hb : ∀ x ∈ l, HB8 x) (hhb : HB8 h) (hhr : ∀ r ∈ h.rl, blockOk n r.lba r.d.length = true) :
    Calls Try.prog 75 #[.int .i64 n, .slice a l.length c, .slice oa os.length oc, aggH h] w fun e w' => e = .returned (.bool (sawH n l os h)) ∧ Below w.heap.size w w' := by
  have RG := Lib.hid (fun oa' oc' W (hW : HistsAt W oa' (aheadL l os h)) => replay_good n oa' oc' (aheadL l os h) W n1 n2 (Nat.le_trans (aheadL_len l os h) hol) (fun x hx => hpl x (aheadL_mem hos hx)) hW)
  have RF := Lib.hid (replay_facts (n := n) (l := aheadL l os h) (fun x hx => hmay x (aheadL_mem hos hx)) (fun x hx => hb x (aheadL_mem hos hx)))
  have HAM := Lib.hid (fun x (hx : x ∈ aheadL l os h) => hA.2 x (aheadL_mem hos hx))
  have HAL := Lib.hid (aheadL_len l os h)
  have HSW : Hid (sawH n l os h = h.rl.all fun r => r.own || decide ((replay n (aheadL l os h)).2 r.lba = r.d)) := rfl
  have HA := Lib.hid hA; have HO := Lib.hid hO; have HOS := Lib.hid hos; have HK := Lib.hid hk; have HHB := Lib.hid hhb; have HHR := Lib.hid hhr
  have hrn := hk.rn
  unfold maxLen at hrn
  obtain ⟨i0, hi0, hz0, hz1, hz2⟩ := info_parts Try.info53
  have HI := Lib.hid hi0; have HZ0 := Lib.hid hz0; have HZ1 := Lib.hid hz1; have HZ2 := Lib.hid hz2
  clear hA hO hos hk hpl hmay hb hhb hhr hi0 hz0 hz1 hz2
  unfold aggH
  have HRDS := Lib.hid HK.out.reads
  generalize h.ra = ra at *
  generalize hpq : h.pl.length = pn at *
  generalize hrq : h.rl.length = rn at *
  have HPQ := Lib.hid hpq; have HRQ := Lib.hid hrq
  clear hpq hrq
  generalize hlq : l.length = len at *
  generalize hoq : os.length = on at *
  have HLQ := Lib.hid hlq; have HOQ := Lib.hid hoq
  clear hlq hoq
  go_enter Try.func75, Try.ntmps75
  have hB1 : Below w.heap.size w (w.alloc (.cells #[.int .i64 h.st, .int .i64 h.bg, .int .i64 h.tm, .int .i64 h.fr, .int .i64 h.to, .slice ra rn h.rc, .slice h.pa pn h.pc] 53)) := (Below.refl _ w).alloc (Nat.le_refl _) _
  have hbx : (w.alloc (.cells #[.int .i64 h.st, .int .i64 h.bg, .int .i64 h.tm, .int .i64 h.fr, .int .i64 h.to, .slice ra rn h.rc, .slice h.pa pn h.pc] 53)).heap[w.heap.size]? = some (.cells ([.int .i64 h.st, .int .i64 h.bg, .int .i64 h.tm, .int .i64 h.fr, .int .i64 h.to, .slice ra rn h.rc, .slice h.pa pn h.pc] : List Value).toArray 53 (0, 0)) := alloc_new rfl
  have hs1 : (w.alloc (.cells #[.int .i64 h.st, .int .i64 h.bg, .int .i64 h.tm, .int .i64 h.fr, .int .i64 h.to, .slice ra rn h.rc, .slice h.pa pn h.pc] 53)).heap.size = w.heap.size + 1 := by simp
  go_wp2_with fail
  go_step3
  have HB1 := Lib.hid hB1
  generalize hb0 : w.heap.size = bx at *
  have HBX := Lib.hid hb0
  generalize w.alloc (.cells #[.int .i64 h.st, .int .i64 h.bg, .int .i64 h.tm, .int .i64 h.fr, .int .i64 h.to, .slice ra rn h.rc, .slice h.pa pn h.pc] 53) = w1 at *
  have c1 : w1.cell? ⟨bx, 1, none⟩ = some (.int .i64 h.bg) := cell_heap hbx rfl
  have c5 : w1.cell? ⟨bx, 5, none⟩ = some (.slice ra rn h.rc) := cell_heap hbx rfl
  have hlt1 : bx < w1.heap.size := lt_heap hbx
  clear hB1 hb0 hbx
  go_wp2_with fail
  go_loopw [9, 20] (fun ov iv wr => ∃ i : Nat, i ≤ on ∧ iv = .int .i64 i ∧ Below w1.heap.size w1 wr ∧ wr.ownsRow w1.heap.size 53 7 ov (aheadN l os h i).length ((aheadN l os h i).flatMap encH)) (fun _ iv _ => on - (intOf iv).toNat)
  case atStart => exact ⟨0, Nat.zero_le _, rfl, Below.refl _ _, ⟨rfl, .inl ⟨rfl, rfl⟩⟩⟩
  case round =>
    obtain ⟨i, hi, rfl, hB, hOw⟩ := hrel
    have hsz := hB.size
    have HBW : Hid (Below bx w wr) := HB1.out.trans (hB.mono (by omega))
    obtain ⟨ra', rc', rfl⟩ := own_form hOw
    have HOW := Lib.hid hOw
    have hal : (aheadN l os h i).length ≤ i := Nat.le_trans (aheadL_len _ _ _) (by rw [List.length_take]; omega)
    have k1 := (hB.cell (p := ⟨bx, 1, none⟩) hlt1).trans c1
    clear hOw
    by_cases hlt : i < on
    · have hx : os[i]? = some (os[i]'(by rw [HOQ.out]; exact hlt)) := List.getElem?_eq_getElem _
      generalize os[i]'(by rw [HOQ.out]; exact hlt) = k at hx
      have hkl : k < len := by have := HOS.out k (List.mem_of_getElem? hx); omega
      obtain ⟨gb, go, hoa, g1, g2⟩ := (HO.out.below (HBX.out.symm ▸ HBW.out)) i k hx
      have hgy : l[k]? = some (l[k]'(by rw [HLQ.out]; omega)) := List.getElem?_eq_getElem _
      generalize l[k]'(by rw [HLQ.out]; omega) = x at hgy
      obtain ⟨b, o, hbb, e1, q0, q1, q2, q3, q4, q5, q6⟩ := (HA.out.1.below (HBX.out.symm ▸ HBW.out)) k x hgy
      have HGX := Lib.hid (hget_of hgy)
      have HSN := Lib.hid (aheadN_snoc (l := l) (h := h) hx)
      have g2' : wr.cell? ⟨gb, go + i, none⟩ = some (.int .i64 (k : Int)) := g2
      have hkl' : (k : Int) < (len : Int) := by omega
      subst hoa hbb
      clear hx hgy g2
      generalize hwq : (aheadN l os h i).length = wl at *
      have HWQ := Lib.hid hwq
      clear hwq
      by_cases ht : x.tm ≤ h.bg
      · have HF : Hid (aheadN l os h (i + 1) = aheadN l os h i ++ [x]) := by show _ = _; rw [HSN.out, HGX.out, if_pos ht]
        generalize hxp : x.pl.length = xpl at *
        generalize hxr : x.rl.length = xrl at *
        have HXP := Lib.hid hxp; have HXR := Lib.hid hxr
        clear hxp hxr
        go_wp2_with fail
        go_quiet (fail)
        have HB4 : Hid (Below w1.heap.size w1 (wr.drewN nq)) := below_drewN hB _
        have HO4 : Hid ((wr.drewN nq).ownsRow w1.heap.size 53 7 (.slice ra' wl rc') wl ((aheadN l os h i).flatMap encH)) := own_below HOW.out (below_drewN (Below.refl _ wr) _)
        have hs4 : w1.heap.size ≤ (wr.drewN nq).heap.size := HB4.out.size
        have r0 : (wr.drewN nq).cell? ⟨b, o + k * 7, none⟩ = some (.int .i64 x.st) := q0
        have r1 : (wr.drewN nq).cell? ⟨b, o + k * 7 + 1, none⟩ = some (.int .i64 x.bg) := q1
        have r2 : (wr.drewN nq).cell? ⟨b, o + k * 7 + 2, none⟩ = some (.int .i64 x.tm) := q2
        have r3 : (wr.drewN nq).cell? ⟨b, o + k * 7 + 3, none⟩ = some (.int .i64 x.fr) := q3
        have r4 : (wr.drewN nq).cell? ⟨b, o + k * 7 + 4, none⟩ = some (.int .i64 x.to) := q4
        have r5 : (wr.drewN nq).cell? ⟨b, o + k * 7 + 5, none⟩ = some (.slice x.ra xrl x.rc) := q5
        have r6 : (wr.drewN nq).cell? ⟨b, o + k * 7 + 6, none⟩ = some (.slice x.pa xpl x.pc) := q6
        clear q0 q1 q2 q3 q4 q5 q6 g2' k1 hB hsz HBW HOW e1
        generalize wr.drewN nq = w4 at *
        clear nq
        go_wp2_with (at_builtin; refine wpList_append_own _ rfl _ _ 42 rfl w1.heap.size 53 i0 _ 7 88 Try.underlying42 HI.out HZ0.out HZ1.out HZ2.out rfl (by decide) _ _ _ rfl ((HO4.out).alloc _) ⟨w4.heap.size, 0, none⟩ 1 1 [.int .i64 x.st, .int .i64 x.bg, .int .i64 x.tm, .int .i64 x.fr, .int .i64 x.to, .slice x.ra xrl x.rc, .slice x.pa xpl x.pc] rfl rfl ?c0 ?c2 ?c3 ?c4 ?c5 ?_)
        case c0 => exact World.news_of_block (cs := #[.int .i64 x.st, .int .i64 x.bg, .int .i64 x.tm, .int .i64 x.fr, .int .i64 x.to, .slice x.ra xrl x.rc, .slice x.pa xpl x.pc]) (t := 53) (fr := (0, 0)) (alloc_new rfl)
        case c2 => intro u hu; simp at hu; rcases hu with rfl | rfl | rfl | rfl | rfl | rfl | rfl <;> rfl
        case c3 => unfold maxLen; omega
        case c4 => omega
        case c5 => simp; omega
        intro v' w5 hown5 hgr _
        have hB5 : Below w1.heap.size w1 w5 := (HB4.out.alloc hs4 _).grown hgr (by simp; omega) (fun kk hk => own_ge HO4.out kk hk)
        have HO5 := Lib.hid hown5
        clear hown5 hgr
        go_wp2
        go_roundw
        case rel =>
          refine ⟨i + 1, by omega, by go_num, hB5, ?_⟩
          rw [HF.out, List.length_append, HWQ.out, List.flatMap_append]
          have := HO5.out
          rw [← HXP.out, ← HXR.out] at this
          first | exact this | (rw [hs1]; exact this)
        case measure => simp [intOf]; omega
      · have HF : Hid (aheadN l os h (i + 1) = aheadN l os h i) := by show _ = _; rw [HSN.out, HGX.out, if_neg ht]; simp
        have t1 : decide (x.tm ≤ h.bg) = false := decide_eq_false ht
        clear ht
        go_wp2_with fail
        go_quiet (fail)
        go_wp2
        go_roundw
        case rel =>
          refine ⟨i + 1, by omega, by go_num, below_drewN hB _, ?_⟩
          rw [HF.out, HWQ.out]
          exact own_below HOW.out (below_drewN (Below.refl _ wr) _)
        case measure => simp [intOf]; omega
    · have htk : aheadN l os h i = aheadL l os h := by unfold aheadN; rw [List.take_of_length_le (by rw [HOQ.out]; omega)]
      have HOL : Hid (wr.ownsRow w1.heap.size 53 7 (.slice ra' (aheadN l os h i).length rc') (aheadN l os h i).length ((aheadL l os h).flatMap encH)) := by
        have := HOW.out
        rw [← htk]; exact this
      have HLE := Lib.hid (congrArg List.length htk)
      have k5 := (hB.cell (p := ⟨bx, 5, none⟩) hlt1).trans c5
      have HHR2 : Hid (HRow wr ra' (aheadL l os h)) := (HRow.of_own HOL.out).2
      have hlw : bx < wr.heap.size := by omega
      have HRP := Lib.hid (RG.out ra' rc' wr ⟨HHR2.out, fun x hx => (HAM.out x hx).below (HBX.out.symm ▸ HBW.out)⟩)
      rw [← HLE.out] at HRP
      clear c1 c5 k1 htk HOW
      generalize (aheadN l os h i).length = wl at *
      have HB8D := Lib.hid RF.out.2
      have hrz := RF.out.1
      have HD40 := Lib.hid (runAll_len n ((stab HistV.tm (wroteL (aheadL l os h))).map HistV.pl) (fun _ => zeros) (fun _ => rfl))
      change Hid (∀ k, ((replay n (aheadL l os h)).2 k).length = 40) at HD40
      clear RG RF HAM
      rw [hrz] at HRP
      clear hrz
      generalize (replay n (aheadL l os h)).2 = d at *
      generalize wr = w3 at *
      go_wp2_with fail
      refine HRP.out.mono ?_
      rintro e w5 ⟨hB5, hc⟩
      rcases hc with ⟨_, g, r, rfl, _, _, hM5⟩ | ⟨hc, _⟩
      · have HM5 := Lib.hid hM5
        have hs5 := hB5.size
        have k5' := (hB5.cell (p := ⟨bx, 5, none⟩) hlw).trans k5
        have HBW5 : Hid (Below bx w w5) := HBW.out.trans (hB5.mono (by omega))
        clear hM5 hB5 k5
        go_wp2_with fail
        go_step3
        go_wp2_with fail
        go_loopw [49] (fun iv wr => ∃ i : Nat, i ≤ rn ∧ iv = .int .i64 i ∧ Below w5.heap.size w5 wr ∧ Aside (∀ y ∈ h.rl.take i, (y.own || decide (d y.lba = y.d)) = true)) (fun iv _ => rn - (intOf iv).toNat)
        case atStart => exact ⟨0, Nat.zero_le _, rfl, Below.refl _ _, fun y hy => by simp at hy⟩
        case round =>
          obtain ⟨i, hi, rfl, hB, HT⟩ := hrel
          have hsz := hB.size
          have HBR : Hid (Below bx w wr) := HBW5.out.trans (hB.mono (by omega))
          by_cases hlt : i < rn
          · have hx : h.rl[i]? = some (h.rl[i]'(by rw [HRQ.out]; exact hlt)) := List.getElem?_eq_getElem _
            generalize h.rl[i]'(by rw [HRQ.out]; exact hlt) = x at hx
            obtain ⟨b1, o1, rfl, e1, d1, d2, d3, d4⟩ := (HRDS.out.below (HBX.out.symm ▸ HBR.out)) i x hx
            have HX := Lib.hid hx
            have hmem := List.mem_of_getElem? hx
            have hbk := HHR.out x hmem
            unfold blockOk at hbk
            simp only [Bool.and_eq_true, decide_eq_true_eq] at hbk
            have HBK := Lib.hid hbk
            have HXB := Lib.hid (HHB.out.1 x hmem)
            have hal : ∀ (u : Obj), Below wr.heap.size wr (wr.alloc u) := fun u => (Below.refl _ wr).alloc (Nat.le_refl _) _
            have HALC := Lib.hid hal
            have HGET := Lib.hid (fun W (hW : Below wr.heap.size wr W) => get_any x.lba W ((HM5.out.below hB).below hW) ⟨hbk.1.1, hbk.1.2⟩)
            have HRD := Lib.hid (fun W (hW : Below wr.heap.size wr W) => d4.2.2.2.below hW)
            have hdl : x.d.length = 40 := hbk.2
            rw [hdl] at d2
            clear hx hmem hbk d4 hal hdl
            cases hown : x.own with
            | true =>
              rw [hown] at d3
              have HOT := Lib.hid hown; clear hown
              go_wp2
              go_roundw
              case rel =>
                refine ⟨i + 1, by omega, by go_num, hB.alloc hsz _, fun y hy => ?_⟩
                rw [List.take_add_one, HX.out] at hy
                rcases List.mem_append.1 hy with hy | hy
                · exact HT.out y hy
                · simp at hy; subst hy; rw [HOT.out]; rfl
              case measure => simp [intOf]; omega
            | false =>
              rw [hown] at d3
              have HOT := Lib.hid hown; clear hown
              have HAL1 : Hid ((wr.alloc (.cells #[.int .i64 x.lba, .slice x.a 40 x.c, .bool false] 61)).cell? ⟨wr.heap.size, 1, none⟩ = some (.slice x.a 40 x.c)) := by first | (show _ = _; simp; done) | (show _ = _; go_num; done)
              cases hdd : decide (d x.lba = x.d) with
              | true =>
                have HDD := Lib.hid hdd; clear hdd
                go_wp2_with (first
                  | (go_at_call 21; refine (HGET.out _ (HALC.out _)).mono ?_; rintro e w6 ⟨a6, c6, rfl, hB6, hown6, hlen6⟩
                     have f1' : w6.cell? ⟨wr.heap.size, 1, none⟩ = some (.slice x.a 40 x.c) := (hB6.cell (p := ⟨wr.heap.size, 1, none⟩) (by show wr.heap.size < _; simp)).trans HAL1.out
                     have HE := Lib.hid (eq71_any a6 x.a c6 x.c (d x.lba) x.d w6 (Rd.of_own hown6).2 (HRD.out _ ((HALC.out _).trans (hB6.mono (HALC.out _).size))) hlen6 HBK.out.2 (HB8D.out x.lba) HXB.out)
                     have HB6W : Hid (Below w5.heap.size w5 w6) := (hB.alloc hsz _).trans (hB6.mono (by simp; omega))
                     clear hB6 hown6 hlen6)
                  | (go_at_call 71; refine HE.out.mono ?_; rintro e w7 ⟨rfl, rfl⟩; rw [HDD.out]))
                go_roundw
                case rel =>
                  refine ⟨i + 1, by omega, by go_num, HB6W.out, fun y hy => ?_⟩
                  rw [List.take_add_one, HX.out] at hy
                  rcases List.mem_append.1 hy with hy | hy
                  · exact HT.out y hy
                  · simp at hy; subst hy; rw [HDD.out]; simp
                case measure => simp [intOf]; omega
              | false =>
                have HF : Hid (sawH n l os h = false) := by
                  show _ = _
                  rw [HSW.out, List.all_eq_false]
                  exact ⟨x, List.mem_of_getElem? HX.out, by rw [HOT.out, hdd]; decide⟩
                have HDD := Lib.hid hdd; clear hdd
                go_wp2_with (first
                  | (go_at_call 21; refine (HGET.out _ (HALC.out _)).mono ?_; rintro e w6 ⟨a6, c6, rfl, hB6, hown6, hlen6⟩
                     have f1' : w6.cell? ⟨wr.heap.size, 1, none⟩ = some (.slice x.a 40 x.c) := (hB6.cell (p := ⟨wr.heap.size, 1, none⟩) (by show wr.heap.size < _; simp)).trans HAL1.out
                     have HE := Lib.hid (eq71_any a6 x.a c6 x.c (d x.lba) x.d w6 (Rd.of_own hown6).2 (HRD.out _ ((HALC.out _).trans (hB6.mono (HALC.out _).size))) hlen6 HBK.out.2 (HB8D.out x.lba) HXB.out)
                     have HB6W : Hid (Below w5.heap.size w5 w6) := (hB.alloc hsz _).trans (hB6.mono (by simp; omega))
                     clear hB6 hown6 hlen6)
                  | (go_at_call 71; refine HE.out.mono ?_; rintro e w7 ⟨rfl, rfl⟩; rw [HDD.out]))
                first | rw [Exit.noGoto_ret] | skip
                go_ret
                exact ⟨by rw [HF.out]; rfl, by rw [HBX.out]; exact HBW5.out.trans (HB6W.out.mono (by omega))⟩
          · have HF : Hid (sawH n l os h = true) := by
              show _ = _
              rw [HSW.out, List.all_eq_true]
              exact fun y hy => HT.out y (by rw [List.take_of_length_le (by rw [HRQ.out]; omega)]; exact hy)
            go_wp2
            first | rw [Exit.noGoto_ret] | skip
            go_ret
            exact ⟨by rw [HF.out]; rfl, by rw [HBX.out]; exact HBR.out⟩
      · exact (hc rfl).elim
end Go.Proofs.Ytdgnhimiamchmaa
