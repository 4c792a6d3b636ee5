import Derived.Deep.DeepCutAuto
import Derived.Test.YtglkbkocdeimiaaPl
import Derived.Test.YtglkbkocdeimiaaSn
import Derived.Test.YtglkbkocdeimiaaRa
namespace Go.Proofs.Ytglkbkocdeimiaa
open Go.RowKit
open BigFrame Lib
open Go.ChangeMaps (setBlock)

def tms (A : Int → List AV) (t : Int) (k : Nat) : List Value := (List.range k).map fun i : Nat => Value.int .i64 (rdAt (A (i : Int)) t).1
theorem tms_succ (A : Int → List AV) (t : Int) (k : Nat) : tms A t (k + 1) = tms A t k ++ [.int .i64 (rdAt (A k) t).1] := by
  unfold tms; rw [List.range_succ, List.map_append]; rfl
theorem tms_get (A : Int → List AV) (t : Int) (k i : Nat) (h : i < k) : (tms A t k)[i]? = some (.int .i64 (rdAt (A i) t).1) := by
  unfold tms; rw [List.getElem?_map, List.getElem?_range h]; rfl
def Dat (A : Int → List AV) (t : Int) (H : Nat) (w : World) (es : List WE) : Prop :=
  ∀ (i : Nat) (x : WE), es[i]? = some x → x.d = (rdAt (A i) t).2 ∧ x.d.length = 40 ∧ w.ownsRow H 5 1 (.slice x.a 40 x.c) 40 (x.d.map u8)
theorem Dat.below {A : Int → List AV} {t : Int} {H : Nat} {w w' : World} {es : List WE} (h : Dat A t H w es) (hB : Below w.heap.size w w') : Dat A t H w' es :=
  fun i x hi => by obtain ⟨h1, h2, h3⟩ := h i x hi; exact ⟨h1, h2, own_below h3 hB⟩
theorem Dat.chg {A : Int → List AV} {t : Int} {H r : Nat} {w w' : World} {es : List WE} (h : Dat A t H w es) (hC : Chg (· = r) w w') (hn : NoRow w 5 r) : Dat A t H w' es :=
  fun i x hi => by
    obtain ⟨h1, h2, h3⟩ := h i x hi
    exact ⟨h1, h2, own_chg h3 hC (fun b hb e => own_no h3 (by rw [← e] at hn; exact hn) hb)⟩
theorem Dat.grown {A : Int → List AV} {t : Int} {H B e s n : Nat} {w w' : World} {v : Value} {xs : List Value} {es : List WE} (h : Dat A t H w es) (hr : w.ownsRow B e s v n xs) (hg : w.grownBy w' v.ownBlock) (he : 5 ≠ e) : Dat A t H w' es :=
  fun i x hi => by
    obtain ⟨h1, h2, h3⟩ := h i x hi
    exact ⟨h1, h2, h3.kept hg (own_types h3 hr he)⟩
theorem max_cases (a b : Int) : (a = max a b ∧ b ≤ a) ∨ (b = max a b ∧ a < b) := by omega
theorem info3P : (Try.prog.info? 3).map (fun i => (i.zero, i.size, i.bytes)) = some (some (.int .i64 0), 1, 8) := by kernel_rfl

attribute [local irreducible] vers cuts used
set_option maxRecDepth 100000 in
set_option maxHeartbeats 600000 in
theorem prunes_any (a : Option Addr) (c : Nat) (l : List StV) (hz at' : Int) (w : World) (hn : l.length ≤ 9223372036854775807) (h1 : StepsAt w a l) (hh0 : -9223372036854775808 ≤ hz) (hh1 : hz ≤ 9223372036854775807) (ha0 : -9223372036854775808 ≤ at') (ha1 : at' ≤ 9223372036854775807) :
    Calls Try.prog 5 #[.slice a l.length c, .int .i64 hz, .int .i64 at'] w fun e w' => e = .returned (.bool true) ∧ Below w.heap.size w w' := by
  have HAW := Lib.hid awake_any
  have H1 := Lib.hid h1
  have SM := Lib.hid (small_any a c l w hn h1)
  clear h1
  obtain ⟨i0, hi0, hz0, hz1, hz2⟩ := info_parts Try.info36
  have HI := Lib.hid hi0; have HZ0 := Lib.hid hz0; have HZ1 := Lib.hid hz1; have HZ2 := Lib.hid hz2
  clear hi0 hz0 hz1 hz2
  obtain ⟨i3, hi0, hz0, hz1, hz2⟩ := info_parts info3P
  have JI := Lib.hid hi0; have JZ0 := Lib.hid hz0; have JZ1 := Lib.hid hz1; have JZ2 := Lib.hid hz2
  clear hi0 hz0 hz1 hz2
  generalize hq : l.length = m at *
  have HM := Lib.hid hq; clear hq
  go_enter Try.func5, Try.ntmps5
  go_wp2_with fail
  refine SM.out.mono ?_
  rintro e w1 ⟨⟨b, rfl, hb⟩, hB1⟩
  cases b with
  | false =>
    clear hb
    go_wp2_with fail
    refine (HAW.out _).mono ?_
    rintro e w2 ⟨rfl, hB2⟩
    go_wp2
    go_ret
    exact ⟨rfl, hB1.trans (hB2.mono hB1.size)⟩
  | true =>
    have HSM := Lib.hid (hb rfl)
    have hm100 : m ≤ 100 := (hb rfl).1
    clear hb
    go_wp2_with fail
    refine (xnew_good w.heap.size 20 _ (by omega) (by omega) hB1.size).mono ?_
    rintro e w2 ⟨rfl, hB2, hX2⟩
    have HX2 := Lib.hid hX2; clear hX2
    have hB2' : Below w.heap.size w w2 := hB1.trans (hB2.mono hB1.size)
    have hs1 := hB1.size
    generalize w1.heap.size = r at *
    go_wp2_with fail
    go_loopw [9] (fun iv wr => ∃ i : Nat, i ≤ m ∧ iv = .int .i64 i ∧ Below w.heap.size w wr ∧ ∃ last A, ExAt w.heap.size wr (r + 1) r 20 last A) (fun iv _ => m - (intOf iv).toNat)
    case atStart => exact ⟨0, Nat.zero_le _, rfl, hB2', 0, _, HX2.out⟩
    case round =>
      obtain ⟨i, hi, rfl, hB, last, A, hX⟩ := hrel
      have HX := Lib.hid hX
      clear hX
      have hwr := hB.size
      by_cases hlt : i < m
      · have hx : l[i]? = some (l[i]'(by rw [HM.out]; exact hlt)) := List.getElem?_eq_getElem _
        generalize l[i]'(by rw [HM.out]; exact hlt) = x at hx
        obtain ⟨b, o, rfl, e1, d0, d1, d2, _, d4⟩ := H1.out.below hB i x hx
        have hxl := HSM.out.2 x (List.mem_of_getElem? hx)
        have HX1 := Lib.hid hx
        have D4 := Lib.hid d4
        clear hx d4
        by_cases hk1 : x.kind = 1
        · have AP := Lib.hid (apply_any (l := x.l) x.time x.a x.c wr (by omega) D4.out.2.1.1 D4.out.2.1.2 (fun W _ hBW => by
            obtain ⟨b', o', _, _, _, _, _, _, q⟩ := H1.out.below (hB.trans hBW) i x HX1.out
            exact q.2.2.2.1) HX.out (by omega))
          rw [hk1] at d0
          clear hk1
          go_wp2_with fail
          refine AP.out.mono ?_
          rintro e w5 ⟨rfl, hC5, hB5, hX5⟩
          have HX5 := Lib.hid hX5
          clear hX5 hC5
          go_wp2
          go_roundw
          case rel => exact ⟨i + 1, by omega, by go_num, hB.trans hB5, _, _, HX5.out⟩
          case measure => simp [intOf]; omega
        · have t5 : (x.kind == 1) = false := by simpa using hk1
          clear hk1
          go_wp2
          go_roundw
          case rel => exact ⟨i + 1, by omega, by go_num, hB, last, A, HX.out⟩
          case measure => simp [intOf]; omega
      · have VE := Lib.hid (versions_any (n := 20) wr HX.out (by omega))
        have HP := Lib.hid HX.out.pure
        have hvl := vers_le HP.out
        generalize hUU : vers A 20 = U at *
        have HU := Lib.hid hUU; have HVL := Lib.hid hvl; clear hUU hvl
        obtain ⟨T, hT0, hT1, hT2, hT3⟩ : ∃ T : Int, max at' hz = T ∧ hz ≤ T ∧ -9223372036854775808 ≤ T ∧ T ≤ 9223372036854775807 := ⟨_, rfl, by omega, by omega, by omega⟩
        have HT0 := Lib.hid hT0
        go_wp2_with fail
        refine VE.out.mono ?_
        rintro e w3 ⟨rfl, hB3⟩
        have TD := max_cases at' hz
        rw [hT0] at TD
        have HTD := Lib.hid TD
        clear hT0 TD
        go_upto_region 14 with (fail)
        go_cut [2] (fun sv wx => sv = .int .i64 T ∧ w3 = wx)
        case first =>
          rcases HTD.out with ⟨rfl, hd⟩ | ⟨rfl, hd⟩
          · go_wp2_with fail
            go_meet
            exact ⟨rfl, rfl⟩
          · go_wp2_with fail
            go_meet
            exact ⟨rfl, rfl⟩
        case rest =>
          obtain ⟨rfl, rfl⟩ := hcut
          have hs3 := hB3.size
          have hB3' : Below w.heap.size w w3 := hB.trans (hB3.mono hwr)
          have HX3 := Lib.hid (HX.out.below hB3)
          have hH : w.heap.size ≤ w3.heap.size := by omega
          generalize hHH : w3.heap.size = H at *
          have hHs := Lib.hid hHH; clear hHH
          go_wp2_with fail
          go_loopw [11, 12, 13] (fun rv tv kv wr => ∃ (k : Nat) (es : List WE), k ≤ 20 ∧ kv = .int .i64 k ∧ Below H w3 wr ∧ wr.ownsRow H 36 1 rv k (es.map vW) ∧ wr.ownsRow H 3 1 tv k (tms A T k) ∧ Dat A T H wr es) (fun _ _ kv _ => 20 - (intOf kv).toNat)
          case atStart => exact ⟨0, [], by omega, rfl, Below.refl _ _, World.ownsRow_nil _ _ _ _, World.ownsRow_nil _ _ _ _, fun i x hi => by simp at hi⟩
          case round =>
            obtain ⟨k, es, hk, rfl, hB4, hrow, htim, hdat⟩ := hrel
            have HR := Lib.hid hrow; have HTI := Lib.hid htim; have HD := Lib.hid hdat
            obtain ⟨ra, rc, rfl⟩ := own_form hrow
            obtain ⟨ta, tc, rfl⟩ := own_form htim
            have hel : Hid (es.length = k) := by have := hrow.1; simp at this; show _ = _; omega
            have hs4 : H ≤ wr.heap.size := by have := hB4.size; have := hHs.out; omega
            have hB4' : Below w3.heap.size w3 wr := by rw [hHs.out]; exact hB4
            have HX4 := Lib.hid (HX3.out.below hB4')
            clear hrow htim hdat
            by_cases hlt : k < 20
            · have GE := Lib.hid (xget_any (k : Int) T wr HX4.out (by omega))
              have hst : Hid (tms A T (k + 1) = tms A T k ++ [.int .i64 (rdAt (A k) T).1]) := tms_succ A T k
              go_wp2_with fail
              refine GE.out.mono ?_
              rintro e w5 ⟨a5, c5, rfl, hB5, hown5, hl5⟩
              have hs5 := hB5.size
              have HR5 := Lib.hid (own_below HR.out hB5); have HT5 := Lib.hid (own_below HTI.out hB5); have HD5 := Lib.hid (HD.out.below hB5)
              have HO5 := Lib.hid (own_base hown5 hs4)
              have H40 := Lib.hid hl5
              have hBx : Below H w3 w5 := hB4.trans (hB5.mono hs4)
              clear hown5 hl5
              generalize hdd : (rdAt (A k) T).2 = dd at *
              have HDD := Lib.hid hdd; clear hdd
              generalize (rdAt (A k) T).1 = tt at *
              go_wp2_with (at_builtin; refine wpList_append_own _ rfl _ _ 29 rfl H 36 i0 _ 1 24 Try.underlying29 HI.out HZ0.out HZ1.out HZ2.out rfl (by decide) _ _ _ rfl (HR5.out.alloc _) ⟨w5.heap.size, 0, none⟩ 1 1 [.slice a5 40 c5] rfl rfl ?c0 ?c2 ?c3 ?c4 ?c5 ?_)
              case c0 => exact World.news_of_block (cs := #[.slice a5 40 c5]) (t := 36) (fr := (0, 0)) (alloc_new rfl)
              case c2 => intro u hu; simp at hu; subst hu; rfl
              case c3 => unfold maxLen; omega
              case c4 => omega
              case c5 => simp; omega
              intro v' w6 hown6 hgr _
              have hBa : Below w5.heap.size w5 (w5.alloc (.cells #[.slice a5 40 c5] 36)) := (Below.refl _ w5).alloc (Nat.le_refl _) _
              have hB6 : Below H w3 w6 := (hBx.trans (hBa.mono (by omega))).grown hgr (by simp; omega) (fun kk hk => own_ge HR5.out kk hk)
              have hR5a := HR5.out.alloc (.cells #[.slice a5 40 c5] 36)
              have HT6 := Lib.hid ((HT5.out.alloc (.cells #[.slice a5 40 c5] 36)).kept hgr (own_types (HT5.out.alloc _) hR5a (by decide)))
              have HD6 := Lib.hid ((HD5.out.below hBa).grown hR5a hgr (by decide))
              have HO6 := Lib.hid ((HO5.out.alloc (.cells #[.slice a5 40 c5] 36)).kept hgr (own_types (HO5.out.alloc _) hR5a (by decide)))
              have HR6 := Lib.hid hown6
              have hs6 : H ≤ w6.heap.size := by have := hB6.size; have := hHs.out; omega
              clear hgr hown6 hR5a
              go_wp2_with (at_builtin; refine wpList_append_own _ rfl _ _ 50 rfl H 3 i3 (.int .i64 0) 1 8 Try.underlying50 JI.out JZ0.out JZ1.out JZ2.out rfl (by decide) _ _ _ rfl (HT6.out.alloc _) ⟨w6.heap.size, 0, none⟩ 1 1 [.int .i64 tt] rfl rfl ?d0 ?d2 ?d3 ?d4 ?d5 ?_)
              case d0 => exact World.news_of_block (cs := #[.int .i64 tt]) (t := 3) (fr := (0, 0)) (alloc_new rfl)
              case d2 => intro u hu; simp at hu; subst hu; rfl
              case d3 => unfold maxLen; omega
              case d4 => omega
              case d5 => simp; omega
              intro v7 w7 hown7 hgr _
              have hBb : Below w6.heap.size w6 (w6.alloc (.cells #[.int .i64 tt] 3)) := (Below.refl _ w6).alloc (Nat.le_refl _) _
              have hB7 : Below H w3 w7 := (hB6.trans (hBb.mono (by omega))).grown hgr (by simp; omega) (fun kk hk => own_ge HT6.out kk hk)
              have hT6a := HT6.out.alloc (.cells #[.int .i64 tt] 3)
              have HR7 := Lib.hid ((HR6.out.alloc (.cells #[.int .i64 tt] 3)).kept hgr (own_types (HR6.out.alloc _) hT6a (by decide)))
              have HD7 := Lib.hid ((HD6.out.below hBb).grown hT6a hgr (by decide))
              have HO7 := Lib.hid ((HO6.out.alloc (.cells #[.int .i64 tt] 3)).kept hgr (own_types (HO6.out.alloc _) hT6a (by decide)))
              have HT7 := Lib.hid hown7
              clear hgr hown7 hT6a
              go_wp2
              go_roundw
              case rel =>
                refine ⟨k + 1, es ++ [⟨a5, c5, dd⟩], by omega, by go_num, hB7, ?_, ?_, ?_⟩
                · have h1 := HR7.out
                  have h2 : (es ++ [(⟨a5, c5, dd⟩ : WE)]).map vW = es.map vW ++ [.slice a5 40 c5] := by simp [vW, H40.out]
                  rw [h2]; exact h1
                · rw [hst.out]; exact HT7.out
                · intro q x hx
                  by_cases hq : q < es.length
                  · rw [List.getElem?_append_left hq] at hx
                    exact HD7.out q x hx
                  · rw [List.getElem?_append_right (by omega)] at hx
                    have hq2 : q - es.length = 0 := by
                      cases hn : q - es.length with
                      | zero => rfl
                      | succ n => rw [hn] at hx; simp at hx
                    rw [hq2] at hx
                    simp at hx; subst hx
                    have hqk : q = k := by have := hel.out; omega
                    subst hqk
                    exact ⟨HDD.out.symm, H40.out, HO7.out⟩
              case measure => simp [intOf]; omega
            · obtain rfl : k = 20 := by omega
              have PR := Lib.hid (prune_any (n := 20) hz wr HX4.out (by omega) (by have := hB3'.size; have := hHs.out; omega))
              have hwz := hB3'.size
              have hHs2 : w3.heap.size ≤ H := by have := hHs.out; omega
              obtain ⟨rb, hrb, hrc⟩ : ∃ rb, ra = some ⟨rb, 0, none⟩ ∧ 20 ≤ rc := by
                rcases HR.out.2 with ⟨_, h2⟩ | ⟨g', cap, cur, e1, e2, e3, e4, e5, e6⟩
                · omega
                · injection e1 with e1 _ e7; subst e7; exact ⟨g', e1, e4⟩
              obtain ⟨tb, htb, htc⟩ : ∃ tb, ta = some ⟨tb, 0, none⟩ ∧ 20 ≤ tc := by
                rcases HTI.out.2 with ⟨_, h2⟩ | ⟨g', cap, cur, e1, e2, e3, e4, e5, e6⟩
                · omega
                · injection e1 with e1 _ e7; subst e7; exact ⟨g', e1, e4⟩
              subst hrb; subst htb
              have hvc : vers (pr A hz) 20 + cuts A hz 20 = U := by rw [← HU.out]; exact vers_pr A hz 20
              generalize hCC : cuts A hz 20 = C at *
              have HCC := Lib.hid hCC; clear hCC
              generalize hVV : vers (pr A hz) 20 = V at *
              have HV := Lib.hid hVV; clear hVV
              have HVC := Lib.hid hvc
              clear hvc
              have HP2 : Hid (ExPure 20 last (pr A hz)) := HP.out.sub (fun k => List.drop_sublist _ _)
              have hBwr : Below w.heap.size w wr := hB3'.trans (hB4'.mono hwz)
              have hwr2 := hBwr.size
              have NOM : Hid (∀ e, NoRow wr e r) := by
                intro e
                obtain ⟨mm, EE, hE, _⟩ := HX4.out.ex
                exact noRow_map hE.map
              clear hlt
              go_wp2_with fail
              refine PR.out.mono ?_
              rintro e w6 ⟨rfl, hC6, hB6, hX6⟩
              have HX6 := Lib.hid hX6
              have HR6 := Lib.hid (own_chg HR.out hC6 (fun b hb e => own_no HR.out (by rw [e]; exact NOM.out 36) hb))
              have HT6 := Lib.hid (own_chg HTI.out hC6 (fun b hb e => own_no HTI.out (by rw [e]; exact NOM.out 3) hb))
              have HD6 := Lib.hid (HD.out.chg hC6 (NOM.out 5))
              have hBw6 : Below w.heap.size w w6 := hBwr.trans hB6
              have hs6 := hBw6.size
              have HEL : Hid (es.length = 20) := hel.out
              clear hX6 hC6
              go_wp2_with fail
              go_loopw [17] (fun kv wr => ∃ k : Nat, k ≤ 20 ∧ kv = .int .i64 k ∧ Below w6.heap.size w6 wr) (fun kv _ => 20 - (intOf kv).toNat)
              case atStart => exact ⟨0, by omega, rfl, Below.refl _ _⟩
              case round =>
                obtain ⟨k, hk, rfl, hB7⟩ := hrel
                have HX7 := Lib.hid (HX6.out.below hB7)
                have hs7 := hB7.size
                by_cases hlt : k < 20
                · have GE := Lib.hid (xget_any (k : Int) T wr HX7.out (by omega))
                  have hrd : rdAt (pr A hz k) T = rdAt (A k) T := rd_drop (HP.out.rise k) hT1
                  rw [hrd] at GE
                  have hxe : es[k]? = some (es[k]'(by rw [HEL.out]; exact hlt)) := List.getElem?_eq_getElem _
                  generalize es[k]'(by rw [HEL.out]; exact hlt) = x at hxe
                  have HXE := Lib.hid hxe
                  have HTG := Lib.hid (tms_get A T 20 k hlt)
                  clear hxe hrd
                  generalize hdd : (rdAt (A k) T).2 = dd at *
                  have HDD := Lib.hid hdd; clear hdd
                  generalize (rdAt (A k) T).1 = tt at *
                  go_wp2_with fail
                  refine GE.out.mono ?_
                  rintro e w8 ⟨a8, c8, rfl, hB8, hown8, hl8⟩
                  have hs8 := hB8.size
                  have hB68 : Below w6.heap.size w6 w8 := hB7.trans (hB8.mono hs7)
                  have hR8 := own_below HR6.out hB68
                  have hT8 := own_below HT6.out hB68
                  obtain ⟨hxd, hxl, hxo⟩ := HD6.out.below hB68 k x HXE.out
                  have r0 : w8.cell? ⟨rb, k, none⟩ = some (.slice x.a 40 x.c) := by
                    have := hR8.cellAt k (by omega)
                    rw [List.getElem?_map, HXE.out] at this
                    rw [this]; simp [vW, hxl]
                  have hBY := bytes_any a8 x.a c8 x.c dd x.d w8 (by rw [hl8]; omega) (Rd.of_own hown8).2 (Rd.of_own hxo).2
                  rw [hl8, hxl, decide_eq_true (by rw [hxd, HDD.out])] at hBY
                  have HBY := Lib.hid hBY
                  have HT8 := Lib.hid hT8
                  have HL8 := Lib.hid hl8
                  have tne : (tt != tt) = false := by simp
                  clear hR8 hT8 hxd hxl hxo hBY hown8 hl8
                  go_wp2_with fail
                  refine HBY.out.mono ?_
                  rintro e w9 ⟨rfl, hB9⟩
                  have hs9 := hB9.size
                  have t0 : w9.cell? ⟨tb, k, none⟩ = some (.int .i64 tt) := by
                    have := (own_below HT8.out hB9).cellAt k (by omega)
                    rw [HTG.out] at this; exact this
                  go_wp2
                  go_roundw
                  case rel => exact ⟨k + 1, by omega, by go_num, hB68.trans (hB9.mono (by omega))⟩
                  case measure => simp [intOf]; omega
                · have VE7 := Lib.hid (HV.out ▸ versions_any (n := 20) wr HX7.out (by omega))
                  have PR7 := Lib.hid (fun W (hW : Below wr.heap.size wr W) => prune_any (n := 20) hz W (HX7.out.below hW) (by omega) (by have := hW.size; omega))
                  have hzero : cuts (pr A hz) hz 20 = 0 := cuts_pr HP.out hz 20
                  have hpp : pr (pr A hz) hz = pr A hz := pr_pr HP.out hz
                  rw [hzero, hpp] at PR7
                  have HUS : Hid (last ≤ hz → used (pr A hz) 20 = V) := fun h => by rw [← used_pr HP.out hz h 20]; exact HV.out
                  have e1 : IntKind.i64.wrap ((U : Int) - (C : Int)) = (V : Int) := by
                    have h1 := HVC.out; have h2 := HVL.out
                    have : (U : Int) - (C : Int) = (V : Int) := by omega
                    rw [this, IntKind.wrap_i64]; omega
                  have e2 : ((V : Int) == (V : Int)) = true := by simp
                  clear hzero hpp
                  go_wp2_with fail
                  refine VE7.out.mono ?_
                  rintro e w8 ⟨rfl, hB8⟩
                  go_wp2_with fail
                  refine (PR7.out _ hB8).mono ?_
                  rintro e w9 ⟨rfl, hC9, hB9, hX9⟩
                  have hBw9 : Below w.heap.size w w9 := ((hBw6.trans (hB7.mono hs6)).trans (hB8.mono (by omega))).trans hB9
                  have hs9 := hBw9.size
                  have HX9 := Lib.hid hX9
                  have LA := Lib.hid (last_any w9 hX9)
                  have VE9 := Lib.hid (HV.out ▸ versions_any (n := 20) w9 hX9 (by omega))
                  have US9 := Lib.hid (fun W (hW : Below w9.heap.size w9 W) => used_any (n := 20) W (HX9.out.below hW))
                  clear hX9 hC9
                  by_cases hzl : hz < last
                  · go_wp2_with fail
                    refine LA.out.mono ?_
                    rintro e w10 ⟨rfl, rfl⟩
                    go_wp2_with fail
                    refine (HAW.out _).mono ?_
                    rintro e w11 ⟨rfl, hB11⟩
                    go_wp2
                    go_ret
                    exact ⟨rfl, hBw9.trans (hB11.mono hs9)⟩
                  · have hus : used (pr A hz) 20 = V := HUS.out (by omega)
                    rw [hus] at US9
                    clear hus
                    go_wp2_with fail
                    refine LA.out.mono ?_
                    rintro e w10 ⟨rfl, rfl⟩
                    go_wp2_with fail
                    refine VE9.out.mono ?_
                    rintro e w11 ⟨rfl, hB11⟩
                    have hs11 := hB11.size
                    go_wp2_with fail
                    refine (US9.out _ hB11).mono ?_
                    rintro e w12 ⟨rfl, rfl⟩
                    go_wp2_with fail
                    refine (HAW.out _).mono ?_
                    rintro e w13 ⟨rfl, hB13⟩
                    go_wp2
                    go_ret
                    exact ⟨rfl, (hBw9.trans (hB11.mono hs9)).trans (hB13.mono (by omega))⟩

theorem prunes_row (a : Option Addr) (c : Nat) (l : List StV) (h at' : Int) (w : World) (hn : l.length ≤ maxLen) (h1 : StepsAt w a l) (hh0 : -9223372036854775808 ≤ h) (hh1 : h ≤ 9223372036854775807) (ha0 : -9223372036854775808 ≤ at') (ha1 : at' ≤ 9223372036854775807) :
    Calls Try.prog 5 #[.slice a l.length c, .int .i64 h, .int .i64 at'] w fun e w' => e = .returned (.bool true) ∧ Below w.heap.size w w' :=
  prunes_any a c l h at' w (by unfold maxLen at hn; omega) h1 hh0 hh1 ha0 ha1
end Go.Proofs.Ytglkbkocdeimiaa
