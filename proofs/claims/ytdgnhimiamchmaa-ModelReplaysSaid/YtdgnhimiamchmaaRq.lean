import Derived.Test.YtdgnhimiamchmaaRo
import Derived.Test.YtdgnhimiamchmaaRu
namespace Go.Proofs.Ytdgnhimiamchmaa
open Go.RowKit
open BigFrame Lib

theorem Rd.chg_noInt {S : Nat → Prop} {w w' : World} {a : Option Addr} {l : List Nat} (h : Rd i64n w a l) (hC : Chg S w w') (hS : ∀ k, S k → NoInt w k) : Rd i64n w' a l := fun i x hi => by
  obtain ⟨b, o, h1, h2, h3⟩ := h i x hi
  have hb : ¬ S b := fun s => hS b s _ _ _ h3
  exact ⟨b, o, h1, Nat.lt_of_lt_of_le h2 hC.size, (World.cell?_of_block (a := ⟨b, o + i, none⟩) (hC.block b h2 hb)).trans h3⟩

theorem runAll_shown (n : Int) : ∀ (l : List (List PutV)) (d D : Int → List Int), (∀ k, d k = shown (D k)) → (runAll n d l).1 = (runAll n D l).1 ∧ ∀ k, (runAll n d l).2 k = shown ((runAll n D l).2 k)
  | [], d, D, h => ⟨rfl, h⟩
  | p :: l, d, D, h => by
    unfold runAll
    by_cases hc : code n p = 0
    · rw [if_pos hc, if_pos hc]
      exact runAll_shown n l _ _ (upd_shown p d D (code_len hc) h)
    · rw [if_neg hc, if_neg hc]
      exact ⟨rfl, h⟩
theorem runAll_out (n : Int) : ∀ (l : List (List PutV)) (d : Int → List Int), Out n d → Out n (runAll n d l).2
  | [], _, h => h
  | p :: l, d, h => by
    unfold runAll
    by_cases hc : code n p = 0
    · rw [if_pos hc]
      exact runAll_out n l _ (upd_out n p d (code_in hc) h)
    · rw [if_neg hc]; exact h

theorem rreplay_bad (n : Int) (a : Option Addr) (len c : Nat) (w : World) (h : n < 1 ∨ 1048576 < n) : Calls Try.prog 37 #[.int .i64 n, .slice a len c] w fun e w' => e = .returned (.tuple #[.pointer none, .int .i64 1]) ∧ w = w' := by
  have HN := Lib.hid (rnew_bad n w h)
  clear h
  go_enter Try.func37, Try.ntmps37
  go_wp2_with (go_at_call 27; refine HN.out.mono ?_; rintro e w1 ⟨rfl, rfl⟩)
  go_ret2
  exact ⟨rfl, rfl⟩

/-- the reference's replay -/
def rreplay (n : Nat) (l : List HistV) : Int × (Int → List Int) := runAll n (fun _ => []) ((ordL l).map fun i => (hget l i).pl)
theorem rreplay_eq (n : Nat) (l : List HistV) : (replay n l).1 = (rreplay n l).1 ∧ ∀ k, (replay n l).2 k = shown ((rreplay n l).2 k) := by
  unfold replay rreplay
  rw [← ordL_map, List.map_map]
  exact runAll_shown n _ _ _ (fun _ => rfl)

set_option maxRecDepth 100000 in
set_option maxHeartbeats 4000000 in
theorem rreplay_good (n : Nat) (a : Option Addr) (c : Nat) (l : List HistV) (w : World) (h1 : 1 ≤ n) (h2 : n ≤ 1048576) (hl : l.length ≤ 100000) (hp : ∀ x ∈ l, x.pl.length ≤ 1000000) (hA : HistsAt w a l) :
    Calls Try.prog 37 #[.int .i64 n, .slice a l.length c] w fun e w' => Below w.heap.size w w' ∧
      (((rreplay n l).1 = 0 ∧ ∃ g r, e = .returned (.tuple #[.pointer (some ⟨g, 0, none⟩), .int .i64 0]) ∧ RefM w' g r n (rreplay n l).2) ∨
       ((rreplay n l).1 ≠ 0 ∧ e = .returned (.tuple #[.pointer none, .int .i64 (rreplay n l).1]))) := by
  have HN := Lib.hid (rnew_good n w h1 h2)
  have HA := Lib.hid hA
  have HP := Lib.hid hp
  have HO := Lib.hid (fun (W : World) (hW : Below w.heap.size w W) => rorder_any a c l W hl (hA.1.below hW))
  clear hA hp
  generalize hq : l.length = len at *
  have HL := Lib.hid hq
  clear hq
  go_enter Try.func37, Try.ntmps37
  go_wp2_with (first
    | (go_at_call 27; refine HN.out.mono ?_; rintro e w1 ⟨rfl, hB1, hM1⟩
       have HB1 := Lib.hid hB1; have HM1 := Lib.hid hM1
       have hs1 := hB1.size
       clear hB1 hM1)
    | (go_at_call 63; refine (HO.out _ HB1.out).mono ?_; rintro e w2 ⟨oa, oc, rfl, hB2, hR2⟩
       have HB2 := Lib.hid hB2; have HR2 := Lib.hid hR2
       have hs2 := hB2.size
       clear hB2 hR2))
  have HM2 := Lib.hid (HM1.out.below HB2.out)
  have HBW2 : Hid (Below w.heap.size w w2) := HB1.out.trans (HB2.out.mono hs1)
  have hrl : w.heap.size < w2.heap.size := by obtain ⟨es, q, _⟩ := HM2.out.ex; exact lt_heap q
  have HLT := Lib.hid (ordL_lt l)
  have HRE : Hid (rreplay n l = runAll n (fun _ => []) ((ordL l).map fun i => (hget l i).pl)) := rfl
  have holen : (ordL l).length ≤ len := by
    unfold ordL; rw [(stab_perm _ _).length_eq, ← HL.out]; unfold wroteI
    exact Nat.le_trans (List.length_filter_le _ _) (by simp)
  clear HN HB1 HM1 HO
  generalize hg : w.heap.size + 1 = g at *
  have HG := Lib.hid hg
  generalize hr : w.heap.size = r at *
  have HRR := Lib.hid hr
  clear hg hr
  generalize ordL l = os at *
  generalize hwq : os.length = wl at *
  have HWQ := Lib.hid hwq
  clear hwq
  go_loopw [9] (fun iv wr => ∃ (j : Nat) (d : Int → List Int), j ≤ wl ∧ iv = .int .i64 j ∧ Aside (Chg (· = r) w2 wr) ∧ Aside (RefM wr g r n d) ∧ Aside (runAll n (fun _ => []) (os.map fun i => (hget l i).pl) = runAll n d ((os.map fun i => (hget l i).pl).drop j))) (fun iv _ => wl - (intOf iv).toNat)
  case atStart => exact ⟨0, _, Nat.zero_le _, rfl, Chg.refl _ _, HM2.out, rfl⟩
  case round =>
    obtain ⟨j, d, hj, rfl, HC, HM, HQ⟩ := hrel
    have hsz6 := HC.out.size
    have HBR : Aside (Below r w wr) := HBW2.out.trans (HC.out.below (by omega) (fun k hk e => by omega))
    by_cases hlt2 : j < wl
    · have hx : os[j]? = some (os[j]'(by rw [HWQ.out]; exact hlt2)) := List.getElem?_eq_getElem _
      generalize os[j]'(by rw [HWQ.out]; exact hlt2) = y at hx
      have hyl : y < len := by have := HLT.out y (List.mem_of_getElem? hx); rw [HL.out] at this; exact this
      obtain ⟨gb, go, hoa, g1, g2⟩ := (HR2.out.chg_noInt HC.out (fun k hk => by subst hk; exact HM2.out.noInt)) j y hx
      have hgy : l[y]? = some (l[y]'(by rw [HL.out]; omega)) := List.getElem?_eq_getElem _
      generalize l[y]'(by rw [HL.out]; omega) = x at hgy
      obtain ⟨b, o, hbb, e1, k0, k1, k2, k3, k4, k5, k6⟩ := (HA.out.1.below (HRR.out.symm ▸ HBR.out)) y x hgy
      have hmem := List.mem_of_getElem? hgy
      have hok := (HA.out.2 x hmem).below (HRR.out.symm ▸ HBR.out)
      have hpn := HP.out x hmem
      have hst := runAll_step n d (os.map fun i => (hget l i).pl) j x.pl (by rw [List.getElem?_map, hx, Option.map_some, hget_of hgy])
      have hrun := rrun_any 0 x.pa x.pc x.pl wr hpn hok.puts HM.out
      have HRUN := Lib.hid hrun
      have HST := Lib.hid hst
      have g2' : wr.cell? ⟨gb, go + j, none⟩ = some (.int .i64 (y : Int)) := g2
      have hyl' : (y : Int) < (len : Int) := by omega
      subst hoa hbb
      clear hx hgy hmem hok hpn hst hrun g2
      generalize hpq : x.pl.length = xpl at *
      generalize hrq : x.rl.length = xrl at *
      by_cases hc : code n x.pl = 0
      · have HCO := Lib.hid hc
        clear hc
        go_wp2_with (go_at_call 28; refine HRUN.out.mono ?_; rintro e w6 ⟨rfl, hC6, hM6⟩; rw [HCO.out])
        have HC6 := Lib.hid hC6; have HM6 := Lib.hid hM6
        clear hC6 hM6
        go_roundw
        case rel =>
          refine ⟨j + 1, upd d x.pl, by omega, by go_num, HC.out.trans HC6.out, ?_, ?_⟩
          · have := HM6.out
            rwa [show after n x.pl d = upd d x.pl by unfold after; rw [HCO.out]; rfl] at this
          · show _ = _
            rw [HQ.out, HST.out, if_pos HCO.out]
        case measure => simp [intOf]; omega
      · have t1 : (code n x.pl != 0) = true := by simpa using hc
        have HQ2 : Hid (rreplay n l = (code n x.pl, d)) := by show _ = _; rw [HRE.out, HQ.out, HST.out, if_neg hc]
        have HCO : Hid (code n x.pl ≠ 0) := hc
        clear hc
        generalize code n x.pl = cd at *
        go_wp2_with (go_at_call 28; refine HRUN.out.mono ?_; rintro e w6 ⟨rfl, hC6, hM6⟩)
        have HC6 := Lib.hid hC6
        clear hC6 hM6
        go_wp2
        go_ret2
        refine ⟨?_, .inr ⟨by rw [HQ2.out]; exact HCO.out, by rw [HQ2.out]; rfl⟩⟩
        rw [HRR.out]
        exact HBR.out.trans (HC6.out.below (by omega) (fun k hk e => by omega))
    · have HQ2 : Hid (rreplay n l = (0, d)) := by
        show _ = _
        rw [HRE.out, HQ.out, List.drop_eq_nil_of_le (by rw [List.length_map, HWQ.out]; omega)]; rfl
      go_wp2
      go_ret2
      exact ⟨by rw [HRR.out]; exact HBR.out, .inl ⟨by rw [HQ2.out], g, r, rfl, by rw [HQ2.out]; exact HM.out⟩⟩
end Go.Proofs.Ytdgnhimiamchmaa
