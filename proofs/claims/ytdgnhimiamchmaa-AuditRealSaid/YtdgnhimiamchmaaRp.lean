import Derived.Deep.DeepCutAuto
import Derived.Test.YtdgnhimiamchmaaHs
namespace Go.Proofs.Ytdgnhimiamchmaa
open Go.RowKit
open BigFrame Lib
open Go.ChangeMaps (setBlock)

def wroteH (h : HistV) : Bool := decide (h.st = 3) && !(h.pl.length == 0)
def wroteL (l : List HistV) : List HistV := l.filter wroteH
/-- one row of puts behind the other, up to the first that is refused -/
def runAll (n : Int) : (Int → List Int) → List (List PutV) → Int × (Int → List Int)
  | d, [] => (0, d)
  | d, ps :: r => if code n ps = 0 then runAll n (upd d ps) r else (code n ps, d)
def replay (n : Int) (l : List HistV) : Int × (Int → List Int) := runAll n (fun _ => zeros) ((stab HistV.tm (wroteL l)).map HistV.pl)

theorem wroteL_snoc (l : List HistV) (i : Nat) (x : HistV) (h : l[i]? = some x) : wroteL (l.take (i + 1)) = wroteL (l.take i) ++ if wroteH x = true then [x] else [] := by
  unfold wroteL
  rw [List.take_add_one, h, List.filter_append]
  congr 1
  simp [List.filter_cons]
theorem HRow.chg_map {S : Nat → Prop} {w w' : World} {a : Option Addr} {l : List HistV} (h : HRow w a l) (hC : Chg S w w') (hS : ∀ k, S k → ∃ m, MapIs w k m) : HRow w' a l := fun i x hi => by
  obtain ⟨b, o, h1, h2, h3⟩ := h i x hi
  have hb : ¬ S b := by
    intro s
    obtain ⟨m, es, cl, hm, _⟩ := hS b s
    have := h3.1
    simp [World.cell?, hm] at this
  have hc : ∀ (q : Nat) (v : Value), w.cell? ⟨b, q, none⟩ = some v → w'.cell? ⟨b, q, none⟩ = some v := fun q v hv => (World.cell?_of_block (a := ⟨b, q, none⟩) (hC.block b h2 hb)).trans hv
  exact ⟨b, o, h1, Nat.lt_of_lt_of_le h2 hC.size, hc _ _ h3.1, hc _ _ h3.2.1, hc _ _ h3.2.2.1, hc _ _ h3.2.2.2.1, hc _ _ h3.2.2.2.2.1, hc _ _ h3.2.2.2.2.2.1, hc _ _ h3.2.2.2.2.2.2⟩

theorem MAt.chg_zero {S : Nat → Prop} {w w' : World} {g r : Nat} {n : Int} (h : MAt w g r n (fun _ => zeros)) (hC : Chg S w w') (hg : ¬ S g) (hr : ¬ S r) : MAt w' g r n (fun _ => zeros) := by
  obtain ⟨h1, ⟨m, h2, h3⟩, h4, h5⟩ := h
  refine ⟨(hC.block g (lt_heap h1) hg).trans h1, ⟨m, h2.of_eq (hC.block r h2.lt hr), fun k => ?_⟩, h4, h5⟩
  have := h3 k
  cases hm : mget m k with
  | none => rfl
  | some v =>
    rw [hm] at this
    obtain ⟨ad, c, q1, q2, q3, q4⟩ := this
    rw [allz_zeros] at q4
    cases q4
theorem runAll_step (n : Int) (d : Int → List Int) (ps : List (List PutV)) (i : Nat) (p : List PutV) (h : ps[i]? = some p) : runAll n d (ps.drop i) = if code n p = 0 then runAll n (upd d p) (ps.drop (i + 1)) else (code n p, d) := by
  rw [drop_cons h]; rfl
theorem replay_bad (n : Int) (a : Option Addr) (len c : Nat) (w : World) (h : n < 1 ∨ 1048576 < n) : Calls Try.prog 34 #[.int .i64 n, .slice a len c] w fun e w' => e = .returned (.tuple #[.pointer none, .int .i64 1]) ∧ w = w' := by
  have HN := Lib.hid (new_bad n w h)
  clear h
  go_enter Try.func34, Try.ntmps34
  go_wp2_with fail
  go_step3
  go_wp2_with (go_at_call 18; refine HN.out.mono ?_; rintro e w1 ⟨rfl, rfl⟩)
  first | rw [Exit.noGoto_ret] | skip
  go_ret2
  exact ⟨rfl, rfl⟩

theorem Try.info53 : (Try.prog.info? 53).map (fun i => (i.zero, i.size, i.bytes)) = some (some (.agg #[.int .i64 0, .int .i64 0, .int .i64 0, .int .i64 0, .int .i64 0, .slice none 0 0, .slice none 0 0]), 7, 88) := by kernel_rfl

set_option maxRecDepth 100000 in
set_option maxHeartbeats 4000000 in
theorem replay_good (n : Int) (a : Option Addr) (c : Nat) (l : List HistV) (w : World) (h1 : 1 ≤ n) (h2 : n ≤ 1048576) (hl : l.length ≤ 100000) (hp : ∀ x ∈ l, x.pl.length ≤ 1000000) (hA : HistsAt w a l) :
    Calls Try.prog 34 #[.int .i64 n, .slice a l.length c] w fun e w' => Below w.heap.size w w' ∧
      (((replay n l).1 = 0 ∧ ∃ g r, e = .returned (.tuple #[.pointer (some ⟨g, 0, none⟩), .int .i64 0]) ∧ w.heap.size ≤ g ∧ w.heap.size ≤ r ∧ MAt w' g r n (replay n l).2) ∨
       ((replay n l).1 ≠ 0 ∧ e = .returned (.tuple #[.pointer none, .int .i64 (replay n l).1]))) := by
  have HN := Lib.hid (new_good n w h1 h2)
  have HA := Lib.hid hA
  have HP := Lib.hid hp
  obtain ⟨i0, hi0, hz0, hz1, hz2⟩ := info_parts Try.info53
  have HI := Lib.hid hi0; have HZ0 := Lib.hid hz0; have HZ1 := Lib.hid hz1; have HZ2 := Lib.hid hz2
  clear hA hp hi0 hz0 hz1 hz2
  generalize hq : l.length = len at *
  have HL := Lib.hid hq
  clear hq
  go_enter Try.func34, Try.ntmps34
  go_wp2_with fail
  go_step3
  go_wp2_with (go_at_call 18; refine HN.out.mono ?_; rintro e w1 ⟨rfl, hB1, hM1⟩)
  have HB1 := Lib.hid hB1; have HM1 := Lib.hid hM1
  have hs1 := hB1.size
  have hs1' := hM1.lt_r
  clear hB1 hM1
  generalize hg : w.heap.size + 1 = g at *
  have HGQ := Lib.hid hg
  generalize hr : w.heap.size = r at *
  have HR := Lib.hid hr
  clear hg hr
  go_step3
  go_wp2_with fail
  clear HN
  have hbz : r < w1.heap.size := hs1'
  go_loopw [8, 24] (fun ov iv wr => ∃ (i : Nat) (ws : List HistV), i ≤ len ∧ iv = .int .i64 i ∧ Below w1.heap.size w1 wr ∧ wr.ownsRow w1.heap.size 53 7 ov ws.length (ws.flatMap encH) ∧ ws = wroteL (l.take i)) (fun _ iv _ => len - (intOf iv).toNat)
  case atStart => exact ⟨0, [], Nat.zero_le _, rfl, Below.refl _ _, ⟨rfl, .inl ⟨rfl, rfl⟩⟩, rfl⟩
  case round =>
    obtain ⟨i, ws, hi, rfl, hB, hO, hW⟩ := hrel
    have HO := Lib.hid hO; have HW := Lib.hid hW
    have hsz := hB.size
    have hBw : Below r w wr := (HB1.out).trans (hB.mono hs1)
    have HBW := Lib.hid hBw
    have hwsl : ws.length ≤ len := by
      rw [hW, ← HL.out]; unfold wroteL
      exact Nat.le_trans (List.length_filter_le _ _) (by rw [List.length_take]; omega)
    obtain ⟨oa, oc, rfl⟩ := own_form hO
    clear hO hW hBw
    by_cases hlt : i < len
    · have hx : l[i]? = some (l[i]'(by rw [HL.out]; exact hlt)) := List.getElem?_eq_getElem _
      generalize l[i]'(by rw [HL.out]; exact hlt) = x at hx
      obtain ⟨b, o, rfl, e1, k0, k1, k2, k3, k4, k5, k6⟩ := (HA.out.1.below (HR.out.symm ▸ HBW.out)) i x hx
      have HWS := Lib.hid (wroteL_snoc l i x hx)
      clear hx
      generalize hpq : x.pl.length = xpl at *
      generalize hrq : x.rl.length = xrl at *
      have HPQ := Lib.hid hpq; have HRQ := Lib.hid hrq
      clear hpq hrq
      by_cases hst : x.st = 3
      · by_cases hpl : xpl = 0
        · have t1 : (x.st != 3) = false := by simpa using hst
          have t2 : ((xpl : Int) == 0) = true := by rw [hpl]; rfl
          have HF : Hid (wroteH x = false) := by show _ = _; unfold wroteH; rw [HPQ.out, hpl]; simp
          clear hst hpl
          go_wp2
          go_roundw
          case rel =>
            refine ⟨i + 1, ws, by omega, by go_num, hB.alloc (by omega) _, (HO.out).alloc _, ?_⟩
            rw [HWS.out, HF.out, HW.out]; simp
          case measure => simp [intOf]; omega
        · have t1 : (x.st != 3) = false := by simpa using hst
          have t2 : ((xpl : Int) == 0) = false := beq_eq_false_iff_ne.2 (by omega)
          have HF : Hid (wroteH x = true) := by show _ = _; unfold wroteH; rw [HPQ.out]; simp [hst, hpl]
          clear hst hpl
          generalize hwq : ws.length = wl at *
          have HWQ := Lib.hid hwq
          clear hwq
          have e53 : ((wr.alloc (.cells #[.int .i64 x.st, .int .i64 x.bg, .int .i64 x.tm, .int .i64 x.fr, .int .i64 x.to, .slice x.ra xrl x.rc, .slice x.pa xpl x.pc] 53))).heap.size = wr.heap.size + 1 := by simp
          go_wp2_with (at_builtin; refine wpList_append_own _ rfl _ _ 42 rfl w1.heap.size 53 i0 _ 7 88 Try.underlying42 HI.out HZ0.out HZ1.out HZ2.out rfl (by decide) _ _ _ rfl (((HO.out).alloc _).alloc _) ⟨wr.heap.size + 1, 0, none⟩ 1 1 [.int .i64 x.st, .int .i64 x.bg, .int .i64 x.tm, .int .i64 x.fr, .int .i64 x.to, .slice x.ra xrl x.rc, .slice x.pa xpl x.pc] rfl rfl ?c0 ?c2 ?c3 ?c4 ?c5 ?_)
          case c0 => exact World.news_of_block (cs := #[.int .i64 x.st, .int .i64 x.bg, .int .i64 x.tm, .int .i64 x.fr, .int .i64 x.to, .slice x.ra xrl x.rc, .slice x.pa xpl x.pc]) (t := 53) (fr := (0, 0)) (alloc_new (by simp))
          case c2 => intro u hu; simp at hu; rcases hu with rfl | rfl | rfl | rfl | rfl | rfl | rfl <;> rfl
          case c3 => unfold maxLen; omega
          case c4 => omega
          case c5 => simp; omega
          intro v' w4 hown4 hgr _
          have hB4 : Below w1.heap.size w1 w4 := ((hB.alloc hsz _).alloc (by simp; omega) _).grown hgr (by simp; omega) (fun kk hk => own_ge HO.out kk hk)
          have HO4 := Lib.hid hown4
          clear hown4 hgr
          go_wp2
          go_roundw
          case rel =>
            refine ⟨i + 1, ws ++ [x], by omega, by go_num, hB4, ?_, ?_⟩
            · rw [List.length_append, HWQ.out, List.flatMap_append]
              have := HO4.out
              rw [← HPQ.out, ← HRQ.out] at this
              exact this
            · rw [HWS.out, HF.out, HW.out]; rfl
          case measure => simp [intOf]; omega
      · have t1 : (x.st != 3) = true := by simpa using hst
        have HF : Hid (wroteH x = false) := by show _ = _; unfold wroteH; rw [decide_eq_false hst]; rfl
        clear hst
        go_wp2
        go_roundw
        case rel =>
          refine ⟨i + 1, ws, by omega, by go_num, hB.alloc (by omega) _, (HO.out).alloc _, ?_⟩
          rw [HWS.out, HF.out, HW.out]; simp
        case measure => simp [intOf]; omega
    · obtain rfl : i = len := by omega
      have HWL : Hid (ws = wroteL l) := by
        have := HW.out
        rwa [List.take_of_length_le (by rw [HL.out]; omega)] at this
      have HMr := Lib.hid (HM1.out.below hB)
      clear HW
      generalize hwq : ws.length = wl at *
      have HWQ := Lib.hid hwq
      clear hwq
      go_upto_region 11 with (fail)
      go_cut [8] (fun ov wx => ov = .slice oa wl oc ∧ Aside (Below r w wx) ∧ Aside (MAt wx g r n (fun _ => zeros)) ∧ Aside (HRow wx oa (stab HistV.tm ws)))
      case first =>
        rcases HO.out.2 with ⟨hn1, hn2⟩ | ⟨gg, cap, cur, hn1, hn2, hn3⟩
        · simp at hn1
          obtain ⟨rfl, rfl, rfl⟩ := hn1
          have he : ws = [] := List.length_eq_zero_iff.1 HWQ.out
          have HE := Lib.hid he
          clear hn2 he
          go_wp2_with (go_at_call 59; refine (sortN_h _ _).mono ?_; rintro e w5 ⟨rfl, rfl⟩)
          go_meet
          refine ⟨rfl, HBW.out, HMr.out, ?_⟩
          rw [HE.out]
          intro i x hi
          simp [stab] at hi
        · simp at hn1
          obtain ⟨rfl, rfl⟩ := hn1
          have hcur := hn3.1
          have HS := Lib.hid (sortH_any gg oc wl ws wr w1.heap.size HO.out (by omega))
          have HNR := Lib.hid hn2
          have HG := Lib.hid hcur
          clear hn2 hn3 hcur
          go_wp2_with (go_at_call 59; refine HS.out.mono ?_; rintro e w5 ⟨rfl, hC5, hR5⟩)
          have HC5 := Lib.hid hC5; have HR5 := Lib.hid hR5
          clear hC5 hR5 HS
          go_wp2
          go_meet
          have hgr : ¬ gg = r := by have := HNR.out; omega
          refine ⟨rfl, ?_, ?_, HR5.out⟩
          · exact HBW.out.trans (HC5.out.below (by have := hsz; omega) (fun k hk e => by have := HNR.out; omega))
          · exact HMr.out.chg_zero HC5.out (fun e => by have := lt_heap HM1.out.cell; have := HNR.out; omega) (fun e => hgr e.symm)
      case rest =>
        clear HO HMr
        obtain ⟨rfl, HB5, HM5, HR5⟩ := hcut
        have HSL : Hid ((stab HistV.tm ws).length = wl) := by show _ = _; rw [(stab_perm HistV.tm ws).length_eq]; exact HWQ.out
        have HPM : Hid (∀ x ∈ stab HistV.tm ws, x ∈ l) := fun x hx => by
          have := (stab_perm HistV.tm ws).mem_iff.1 hx
          rw [HWL.out] at this
          exact (List.mem_filter.1 this).1
        have HRE : Hid (replay n l = runAll n (fun _ => zeros) ((stab HistV.tm ws).map HistV.pl)) := by show _ = _; unfold replay; rw [HWL.out]
        generalize stab HistV.tm ws = sl at *
        have hs5 : r < wc.heap.size := HM5.out.lt_r
        generalize wc = w5 at *
        clear HM1 HBW HWL
        go_wp2
        go_loopw [46] (fun iv wr => ∃ (j : Nat) (d : Int → List Int), j ≤ wl ∧ iv = .int .i64 j ∧ Aside (Chg (· = r) w5 wr) ∧ Aside (MAt wr g r n d) ∧ Aside (runAll n (fun _ => zeros) (sl.map HistV.pl) = runAll n d ((sl.map HistV.pl).drop j))) (fun iv _ => wl - (intOf iv).toNat)
        case atStart => exact ⟨0, _, Nat.zero_le _, rfl, Chg.refl _ _, HM5.out, rfl⟩
        case round =>
          obtain ⟨j, d, hj, rfl, HC, HM, HQ⟩ := hrel
          have hsz6 := HC.out.size
          have HBR : Aside (Below r w wr) := HB5.out.trans (HC.out.below (by omega) (fun k hk e => by omega))
          by_cases hlt2 : j < wl
          · have hx : sl[j]? = some (sl[j]'(by rw [HSL.out]; exact hlt2)) := List.getElem?_eq_getElem _
            generalize sl[j]'(by rw [HSL.out]; exact hlt2) = x at hx
            have hmap := HM5.out.map
            obtain ⟨b, o, rfl, e1, k0, k1, k2, k3, k4, k5, k6⟩ := (HR5.out.chg_map HC.out (fun k hk => by subst hk; exact hmap)) j x hx
            have hmem := HPM.out x (List.mem_of_getElem? hx)
            have hok := (HA.out.2 x hmem).below (HR.out.symm ▸ HBR.out)
            have hpn := HP.out x hmem
            have hst := runAll_step n d (sl.map HistV.pl) j x.pl (by rw [List.getElem?_map, hx]; rfl)
            have hal : ∀ (u : Obj), Below wr.heap.size wr (wr.alloc u) := fun u => (Below.refl _ wr).alloc (Nat.le_refl _) _
            have hal2 : ∀ (u u' : Obj), Below wr.heap.size wr ((wr.alloc u).alloc u') := fun u u' => (hal u).alloc (by simp) _
            have hrun := fun (W : World) (hW : Below wr.heap.size wr W) => run_any x.tm x.pa x.pc x.pl W hpn (hok.puts.below hW) (HM.out.below hW)
            have HRUN := Lib.hid hrun
            have HST := Lib.hid hst
            have HAL := Lib.hid hal
            clear hx hmap hmem hok hpn hst hrun hal hal2
            generalize hpq : x.pl.length = xpl at *
            generalize hrq : x.rl.length = xrl at *
            have hlw : b < wr.heap.size := e1
            by_cases hc : code n x.pl = 0
            · have HCO := Lib.hid hc
              clear hc
              go_wp2_with (go_at_call 19; refine (HRUN.out _ (HAL.out _)).mono ?_; rintro e w6 ⟨rfl, hC6, hM6⟩; rw [HCO.out])
              have HC6 := Lib.hid hC6; have HM6 := Lib.hid hM6
              clear hC6 hM6
              go_roundw
              case rel =>
                refine ⟨j + 1, upd d x.pl, by omega, by go_num, (HC.out.alloc _).trans HC6.out, ?_, ?_⟩
                · have := HM6.out
                  rwa [show after n x.pl d = upd d x.pl by unfold after; rw [HCO.out]; rfl] at this
                · show _ = _
                  rw [HQ.out, HST.out, if_pos HCO.out]
              case measure => simp [intOf]; omega
            · have t1 : (code n x.pl != 0) = true := by simpa using hc
              have HQ2 : Hid (replay n l = (code n x.pl, d)) := by show _ = _; rw [HRE.out, HQ.out, HST.out, if_neg hc]
              have HCO : Hid (code n x.pl ≠ 0) := hc
              clear hc
              generalize code n x.pl = cd at *
              go_wp2_with (go_at_call 19; refine (HRUN.out _ (HAL.out _)).mono ?_; rintro e w6 ⟨rfl, hC6, hM6⟩)
              have HC6 := Lib.hid hC6
              clear hC6 hM6
              go_wp2
              first | rw [Exit.noGoto_ret] | skip
              go_ret2
              refine ⟨?_, .inr ⟨by rw [HQ2.out]; exact HCO.out, by rw [HQ2.out]; rfl⟩⟩
              rw [HR.out]
              exact (HBR.out.alloc (by omega) _).trans (HC6.out.below (by simp; omega) (fun k hk e => by omega))
          · have HQ2 : Hid (replay n l = (0, d)) := by
              show _ = _
              rw [HRE.out, HQ.out, List.drop_eq_nil_of_le (by rw [List.length_map, HSL.out]; omega)]; rfl
            go_wp2
            first | rw [Exit.noGoto_ret] | skip
            go_ret2
            refine ⟨by rw [HR.out]; exact HBR.out, .inl ⟨by rw [HQ2.out], g, r, rfl, ?_, by rw [HR.out]; exact Nat.le_refl _, by rw [HQ2.out]; exact HM.out⟩⟩
            have := HGQ.out
            have := HR.out
            omega
end Go.Proofs.Ytdgnhimiamchmaa
