import Derived.Deep.RegionHeld3
import Derived.Deep.CutBlock
import Derived.Deep.DeepCutAuto
import Derived.BigRegion
import Derived.Test.YtfmjkpobphjgkaaOn1
namespace Go.Proofs.Ytfmjkpobphjgkaa
open Go.RowKit
open BigFrame Lib

structure St (H : Nat) (w : World) (g r : Nat) (most last : Int) (ov tv : Value) (D : BD) : Prop where
  book : BookAt w g r most last D
  ho : w.ownsRow H 3 1 ov D.length ((hs D).map zi)
  tmo : w.ownsRow H 3 1 tv D.length ((ts D).map zi)
  ap : ∀ b, ov.ownBlock = some b → tv.ownBlock ≠ some b
  room : (D.length : Int) ≤ most
theorem St.below {H : Nat} {w w' : World} {g r : Nat} {most last : Int} {ov tv : Value} {D : BD} (h : St H w g r most last ov tv D) (hB : Below w.heap.size w w') : St H w' g r most last ov tv D :=
  ⟨h.book.below hB, own_below h.ho hB, own_below h.tmo hB, h.ap, h.room⟩
def Fnd (D : BD) (N : Int) (j : Nat) (kv : Value) : Prop := (kv = .int .i64 (-1) ∧ ∀ q : Nat, q < j → (hs D)[q]? ≠ some N) ∨ ∃ q : Nat, q < j ∧ kv = .int .i64 q ∧ (hs D)[q]? = some N
theorem row_slot {w : World} {B n cap : Nat} {a : Option Addr} {xs : List Int} (h : w.ownsRow B 3 1 (.slice a n cap) n (xs.map zi)) (hn : 0 < n) : ∃ b, a = some ⟨b, 0, none⟩ ∧ B ≤ b ∧ b < w.heap.size ∧ n ≤ cap ∧ cap ≤ maxLen ∧ ∀ j v, xs[j]? = some v → w.cell? ⟨b, j, none⟩ = some (.int .i64 v) := by
  rcases h.2 with ⟨_, h2⟩ | ⟨g', cap', cur, e1, e2, e3, e4, e5, e6⟩
  · omega
  · injection e1 with e1 _ e7
    subst e7; subst e1
    refine ⟨g', rfl, e2, lt_heap e3, e4, e5, fun j v hv => ?_⟩
    have hj := (List.getElem?_eq_some_iff.1 hv).1
    have hl := h.1
    simp at hl
    have := h.cellAt j (by omega)
    rw [this, List.getElem?_map, hv]; rfl

theorem ts_len (D : BD) : (ts D).length = D.length := by simp [ts]
set_option maxRecDepth 100000 in
set_option maxHeartbeats 800000 in
theorem once_main (most : Int) (a : Option Addr) (c : Nat) (l : List IStep) (w : World) (h0 : 0 ≤ most) (h50 : most ≤ 50) (hn : l.length ≤ 200) (h1 : IStepsAt w a l) :
    Calls Try.prog 6 #[.int .i64 most, .slice a l.length c] w fun e w' => e = .returned (.bool true) ∧ Below w.heap.size w w' := by
  have HAW := Lib.hid awake_any
  have H1 := Lib.hid h1
  clear h1
  generalize hq : l.length = m at *
  have HM := Lib.hid hq; clear hq
  obtain ⟨i3, hi0, hz0, hz1, hz2⟩ := info_parts info3P
  have JI := Lib.hid hi0; have JZ0 := Lib.hid hz0; have JZ1 := Lib.hid hz1; have JZ2 := Lib.hid hz2
  clear hi0 hz0 hz1 hz2
  have t1 : decide (most < 0) = false := by simpa using h0
  have t2 : decide (50 < most) = false := by simpa using h50
  have t3 : decide (200 < (m : Int)) = false := by simp; omega
  go_enter Try.func6, Try.ntmps6
  go_wp2_with fail
  refine (new_any most w).mono ?_
  rintro e w1 ⟨rfl, hB1, hM1⟩
  have hg1 := lt_heap hM1.cell
  have hr1 := hM1.map.lt
  have hS1 : Hid (St w1.heap.size w1 (w.heap.size + 1) w.heap.size most 0 (.slice none 0 0) (.slice none 0 0) []) := ⟨hM1, World.ownsRow_nil _ _ _ _, World.ownsRow_nil _ _ _ _, fun b hb => by simp [Value.ownBlock] at hb, by simpa using h0⟩
  clear hM1
  generalize hHH : w1.heap.size = H at *
  have hHle : H ≤ w1.heap.size := by omega
  have HHH := Lib.hid hHH; clear hHH
  have hwH : w.heap.size ≤ H := by omega
  go_wp2_with fail
  go_loopw [6, 7, 8, 9] (fun ov tv lv iv wr => ∃ (i : Nat) (last : Int) (D : BD), i ≤ m ∧ iv = .int .i64 i ∧ lv = .int .i64 last ∧ last ≤ i ∧ Below w.heap.size w wr ∧ H ≤ wr.heap.size ∧ St H wr (w.heap.size + 1) w.heap.size most last ov tv D) (fun _ _ _ iv _ => m - (intOf iv).toNat)
  case atStart => exact ⟨0, 0, [], Nat.zero_le _, rfl, rfl, by omega, hB1, by omega, hS1.out⟩
  case round =>
    obtain ⟨i, last, D, hi, rfl, rfl, hli, hB, hH, hS⟩ := hrel
    have HS := Lib.hid hS
    have hl0 := hS.book.pure.l0
    have hDl := hS.room
    obtain ⟨oa, oc, rfl⟩ := own_form hS.ho
    obtain ⟨ta, tc, rfl⟩ := own_form hS.tmo
    have hNd := Lib.hid hS.book.pure.nodup
    clear hS
    generalize hdl : D.length = dl at *
    have HDL := Lib.hid hdl; clear hdl
    by_cases hlt : i < m
    · have hx : l[i]? = some (l[i]'(by rw [HM.out]; exact hlt)) := List.getElem?_eq_getElem _
      generalize l[i]'(by rw [HM.out]; exact hlt) = x at hx
      obtain ⟨b, o, rfl, e1, d0, d1, d2, d3⟩ := H1.out.below hB i x hx
      have hxb := d3
      obtain ⟨kd, N⟩ := x
      simp only at d0 d1 hxb
      have hN0 := hxb.1; have hN1 := hxb.2
      clear hx d2 d3 hxb
      go_upto_if 44 with (fail)
      go_cut [6, 7, 8, 10, 11, 12, 13, 14, 15] (fun ov tv lv _ _ _ _ _ _ wx => ∃ (last' : Int) (D' : BD), lv = .int .i64 last' ∧ last' ≤ i + 1 ∧ Below w.heap.size w wx ∧ H ≤ wx.heap.size ∧ St H wx (w.heap.size + 1) w.heap.size most last' ov tv D')
      case first =>
        by_cases hk1 : kd = 1
        · subst hk1
          have HR0 := round_any N 1000 wr (by omega) (by omega) hN0 hN1
          have hR0 := Int.emod_nonneg N (show (1000 : Int) ≠ 0 by omega)
          have hR1 := Int.emod_lt_of_pos N (show (0 : Int) < 1000 by omega)
          have HRD := Lib.hid HR0
          clear HR0
          generalize N % 1000 = t at *
          by_cases hroom : (dl : Int) < most
          · have hoc : ocode most D.length t = 0 := by unfold ocode; rw [if_neg (by omega), if_neg (by rw [HDL.out]; omega)]
            have HOP := Lib.hid (open_ok t wr HS.out.book (by omega) hoc)
            have t6 : decide ((dl : Int) < most) = true := by simpa using hroom
            have t7 : decide (last + 1 ≤ last) = false := by simp; omega
            clear hoc
            go_wp2_with fail
            refine HRD.out.mono ?_
            rintro e w2 ⟨rfl, rfl⟩
            go_wp2_with fail
            refine HOP.out.mono ?_
            rintro e w2 ⟨rfl, hC2, hM2⟩
            have HM2 := Lib.hid hM2
            have hHO := HS.out.ho; have hTO := HS.out.tmo
            rw [HDL.out] at hHO hTO
            have HHO := Lib.hid (own_chg hHO hC2 (fun b hb hs => by have := own_ge hHO b hb; rcases hs with e | e <;> omega))
            have HTO := Lib.hid (own_chg hTO hC2 (fun b hb hs => by have := own_ge hTO b hb; rcases hs with e | e <;> omega))
            have hs2 := hC2.size
            have hB2 : Below w.heap.size w w2 := hB.trans (below_chg' hC2 hB.size (fun k hk => by omega))
            have HAP := Lib.hid HS.out.ap
            clear hC2 hM2 hHO hTO
            go_wp2_with (at_builtin; refine wpList_append_lies _ rfl _ _ 27 rfl H 3 i3 (.int .i64 0) 1 8 Try.underlying27 JI.out JZ0.out JZ1.out JZ2.out rfl (by decide) _ _ _ rfl (HHO.out.alloc _) ⟨w2.heap.size, 0, none⟩ 1 1 [.int .i64 (last + 1)] rfl rfl ?c0 ?c2 ?c1 ?c3 ?c4 ?c5 _ rfl ?_)
            case c0 => exact World.news_of_block (cs := #[.int .i64 (last + 1)]) (t := 3) (fr := (0, 0)) (alloc_new rfl)
            case c2 => intro u hu; simp at hu; subst hu; rfl
            case c1 => omega
            case c3 => unfold maxLen; omega
            case c4 => omega
            case c5 => simp; omega
            intro gq capq w3 hown3 hgr3 hlies3 hlt3
            have hBa : Below w2.heap.size w2 (w2.alloc (.cells #[.int .i64 (last + 1)] 3)) := (Below.refl _ w2).alloc (Nat.le_refl _) _
            have hB3 : Below w.heap.size w w3 := (hB2.trans (hBa.mono hB2.size)).grown hgr3 (by simp; omega) (fun kk hk => by have := own_ge HHO.out kk hk; omega)
            have hHOa := HHO.out.alloc (.cells #[.int .i64 (last + 1)] 3)
            have hTOa := HTO.out.alloc (.cells #[.int .i64 (last + 1)] 3)
            have HTO3 := Lib.hid (hTOa.kept hgr3 (by
              cases hob : (Value.slice ta dl tc).ownBlock with
              | none => exact .inl rfl
              | some q => exact .inr (fun e => HAP.out q e.symm hob)))
            have HB3 : Hid (BookAt w3 (w.heap.size + 1) w.heap.size most (last + 1) (D ++ [(last + 1, t)])) := (HM2.out.below hBa).chg (Chg.grown (S := fun k => (Value.slice oa dl oc).ownBlock = some k) (Chg.refl _ _) hgr3 (fun k h => .inl h)) (fun e => by have := own_ge HHO.out _ e; omega) (fun e => by have := own_ge HHO.out _ e; omega)
            have HAP3 : Hid (∀ q, (Value.slice ta dl tc).ownBlock = some q → q ≠ gq) := by
              intro q hq e
              subst e
              rcases hlies3 with h | h
              · exact HAP.out _ h hq
              · have := (own_lt HTO.out q hq).1
                try simp at h
                omega
            have HHO3 := Lib.hid hown3
            have hgq : H ≤ gq := own_ge hown3 gq rfl
            have hs3 := hB3.size
            have hs3' : H ≤ w3.heap.size := by omega
            clear hgr3 hown3 hlies3 hHOa hTOa
            go_wp2_with (at_builtin; refine wpList_append_lies _ rfl _ _ 27 rfl H 3 i3 (.int .i64 0) 1 8 Try.underlying27 JI.out JZ0.out JZ1.out JZ2.out rfl (by decide) _ _ _ rfl (HTO3.out.alloc _) ⟨w3.heap.size, 0, none⟩ 1 1 [.int .i64 t] rfl rfl ?d0 ?d2 ?d1 ?d3 ?d4 ?d5 _ rfl ?_)
            case d0 => exact World.news_of_block (cs := #[.int .i64 t]) (t := 3) (fr := (0, 0)) (alloc_new rfl)
            case d2 => intro u hu; simp at hu; subst hu; rfl
            case d1 => omega
            case d3 => unfold maxLen; omega
            case d4 => omega
            case d5 => simp; omega
            intro gt capt w4 hown4 hgr4 hlies4 hlt4
            have hBb : Below w3.heap.size w3 (w3.alloc (.cells #[.int .i64 t] 3)) := (Below.refl _ w3).alloc (Nat.le_refl _) _
            have hB4 : Below w.heap.size w w4 := (hB3.trans (hBb.mono hB3.size)).grown hgr4 (by simp; omega) (fun kk hk => by have := own_ge HTO3.out kk hk; omega)
            have hHO4 := (HHO3.out.alloc (.cells #[.int .i64 t] 3)).kept hgr4 (.inr (fun e => HAP3.out gq e.symm rfl))
            have hBK4 : BookAt w4 (w.heap.size + 1) w.heap.size most (last + 1) (D ++ [(last + 1, t)]) := (HB3.out.below hBb).chg (Chg.grown (S := fun k => (Value.slice ta dl tc).ownBlock = some k) (Chg.refl _ _) hgr4 (fun k h => .inl h)) (fun e => by have := own_ge HTO3.out _ e; omega) (fun e => by have := own_ge HTO3.out _ e; omega)
            have hap4 : ∀ b, (Value.slice (some ⟨gq, 0, none⟩) (dl + 1) capq).ownBlock = some b → (Value.slice (some ⟨gt, 0, none⟩) (dl + 1) capt).ownBlock ≠ some b := by
              intro b hb hb2
              simp [Value.ownBlock] at hb hb2
              subst hb
              rcases hlies4 with h | h
              · exact HAP3.out _ h hb2
              · try simp at h
                have := (own_lt HHO3.out gq rfl).1
                omega
            have HS4 : Hid (St H w4 (w.heap.size + 1) w.heap.size most (last + 1) (.slice (some ⟨gq, 0, none⟩) (dl + 1) capq) (.slice (some ⟨gt, 0, none⟩) (dl + 1) capt) (D ++ [(last + 1, t)])) := by
              have hln : (D ++ [(last + 1, t)]).length = dl + 1 := by rw [List.length_append, HDL.out]; rfl
              refine ⟨hBK4, ?_, ?_, hap4, by rw [hln]; omega⟩
              · rw [hln, show (hs (D ++ [(last + 1, t)])).map zi = (hs D).map zi ++ [.int .i64 (last + 1)] by simp [hs]]
                exact hHO4
              · rw [hln, show (ts (D ++ [(last + 1, t)])).map zi = (ts D).map zi ++ [.int .i64 t] by simp [ts]]
                exact hown4
            have hs4 := hB4.size
            have hs44 : H ≤ w4.heap.size := by have := own_ge hown4 gt rfl; omega
            clear hgr4 hown4 hlies4 hHO4 hBK4 hap4
            go_wp2
            go_meet
            exact ⟨last + 1, _, rfl, by omega, hB4, hs44, HS4.out⟩
          · have hoc : ocode most D.length t = 6 := by unfold ocode; rw [if_neg (by omega), if_pos (by rw [HDL.out]; omega)]
            have hopn := open_any t wr HS.out.book (by omega)
            unfold omore olast at hopn
            rw [hoc] at hopn
            simp only [show ((6 : Int) = 0) = False from by decide, if_false] at hopn
            have HOP := Lib.hid hopn
            have t6 : decide ((dl : Int) < most) = false := by simpa using hroom
            clear hoc hopn
            go_wp2_with fail
            refine HRD.out.mono ?_
            rintro e w2 ⟨rfl, rfl⟩
            go_wp2_with fail
            refine HOP.out.mono ?_
            rintro e w2 ⟨rfl, hC2, hM2⟩
            have hHO := HS.out.ho; have hTO := HS.out.tmo
            have HS2 : Hid (St H w2 (w.heap.size + 1) w.heap.size most last (.slice oa dl oc) (.slice ta dl tc) D) := ⟨hM2, own_chg hHO hC2 (fun b hb hs => by have := own_ge hHO b hb; rcases hs with e | e <;> omega), own_chg hTO hC2 (fun b hb hs => by have := own_ge hTO b hb; rcases hs with e | e <;> omega), HS.out.ap, HS.out.room⟩
            have hs2 := hC2.size
            have hB2 : Below w.heap.size w w2 := hB.trans (below_chg' hC2 hB.size (fun k hk => by omega))
            clear hC2 hM2 hHO hTO
            go_wp2
            go_meet
            exact ⟨last, D, rfl, by omega, hB2, by omega, HS2.out⟩
        · have t5 : (kd == 1) = false := by simpa using hk1
          go_wp2_with fail
          go_loopw [13, 14] (fun kv jv wr2 => ∃ j : Nat, j ≤ dl ∧ jv = .int .i64 j ∧ Below wr.heap.size wr wr2 ∧ Fnd D N j kv) (fun _ jv _ => dl - (intOf jv).toNat)
          case atStart => exact ⟨0, Nat.zero_le _, rfl, Below.refl _ _, .inl ⟨rfl, fun q hq => by omega⟩⟩
          case round =>
            obtain ⟨j, hj, rfl, hB2, hF⟩ := hrel
            have HF := Lib.hid hF; clear hF
            have hs2 := hB2.size
            have HS2 := Lib.hid (HS.out.below hB2)
            have hBw2 : Below w.heap.size w wr := hB.trans (hB2.mono hB.size)
            have d1' := (hB2.cell (p := ⟨b, o + i * 2 + 1, none⟩) e1).trans d1
            by_cases hjl : j < dl
            · obtain ⟨ob, hoa, hob1, hob2, hob3, hob4, hobc⟩ := row_slot (HDL.out ▸ HS2.out.ho) (by omega)
              subst hoa
              have hyl : j < (hs D).length := by rw [hs_len, HDL.out]; exact hjl
              have hy : (hs D)[j]? = some ((hs D)[j]) := List.getElem?_eq_getElem hyl
              generalize (hs D)[j] = y at hy
              have f0 := hobc j y hy
              have HY := Lib.hid hy
              clear hy hobc hyl
              by_cases hyN : y = N
              · subst hyN
                have t6 : (y == y) = true := by simp
                go_wp2_with fail
                go_quiet (fail)
                go_wp2
                go_roundw
                case rel => exact ⟨j + 1, by omega, by go_num, below_drewN hB2 _, .inr ⟨j, by omega, rfl, HY.out⟩⟩
                case measure => simp [intOf]; omega
              · have t6 : (y == N) = false := by simpa using hyN
                have hF2 : Hid (Fnd D N (j + 1) u13) := by
                  rcases HF.out with ⟨h1, h2⟩ | ⟨q, h1, h2, h3⟩
                  · refine .inl ⟨h1, fun q hq => ?_⟩
                    by_cases e : q = j
                    · subst e; rw [HY.out]; simpa using hyN
                    · exact h2 q (by omega)
                  · exact .inr ⟨q, by omega, h2, h3⟩
                go_wp2_with fail
                go_quiet (fail)
                go_wp2
                go_roundw
                case rel => exact ⟨j + 1, by omega, by go_num, below_drewN hB2 _, hF2.out⟩
                case measure => simp [intOf]; omega
            · obtain rfl : j = dl := by omega
              have CLO := Lib.hid (close_any N wr HS2.out.book)
              rcases HF.out with ⟨hk, hno⟩ | ⟨q, hq, hk, hat⟩
              · have htm : tm D N = none := by
                  cases ht : tm D N with
                  | none => rfl
                  | some v =>
                    have h1 := (tm_some_iff D N).1 (by rw [ht]; rfl)
                    obtain ⟨q, hq⟩ := List.getElem?_of_mem h1
                    have hql := (List.getElem?_eq_some_iff.1 hq).1
                    rw [hs_len, HDL.out] at hql
                    exact (hno q hql hq).elim
                rw [htm, cl_none htm] at CLO
                simp only [Option.isSome_none, Bool.false_eq_true, if_false] at CLO
                subst hk
                clear hno htm HF
                go_wp2_with fail
                refine CLO.out.mono ?_
                rintro e w3 ⟨rfl, hC3, hM3⟩
                have hHO := HS2.out.ho; have hTO := HS2.out.tmo
                have HS3 : Hid (St H w3 (w.heap.size + 1) w.heap.size most last (.slice oa j oc) (.slice ta j tc) D) := ⟨hM3, own_chg hHO hC3 (fun b hb e => by have := own_ge hHO b hb; omega), own_chg hTO hC3 (fun b hb e => by have := own_ge hTO b hb; omega), HS2.out.ap, HS2.out.room⟩
                have hs3 := hC3.size
                have hB3 : Below w.heap.size w w3 := hBw2.trans (below_chg' hC3 hBw2.size (fun k hk => by omega))
                clear hC3 hM3 hHO hTO
                go_wp2
                go_meet
                exact ⟨last, D, rfl, by omega, hB3, by omega, HS3.out⟩
              · have hp : D[q]? = some (D[q]'(by rw [HDL.out]; exact hq)) := List.getElem?_eq_getElem _
                generalize D[q]'(by rw [HDL.out]; exact hq) = p at hp
                have hp1 : p.1 = N := by
                  have h3 : (hs D)[q]? = some p.1 := by unfold hs; rw [List.getElem?_map, hp]; rfl
                  rw [hat] at h3; cases h3; rfl
                have htm := tm_at hNd.out q p hp
                have hcl := cl_at hNd.out q p hp
                rw [hp1] at htm hcl
                rw [htm, hcl] at CLO
                simp only [Option.isSome_some, if_true] at CLO
                subst hk
                clear hat htm HF hp hp1 hcl
                obtain ⟨ob, hoa, hob1, hob2, hob3, hob4, hobc⟩ := row_slot (HDL.out ▸ HS2.out.ho) (by omega)
                obtain ⟨tb, hta, htb1, htb2, htb3, htb4, htbc⟩ := row_slot (HDL.out ▸ HS2.out.tmo) (by omega)
                subst hoa; subst hta
                have HOBC := Lib.hid hobc; have HTBC := Lib.hid htbc
                clear hobc htbc
                go_wp2_with fail
                refine CLO.out.mono ?_
                rintro e w3 ⟨rfl, hC3, hM3⟩
                have hs3 := hC3.size
                have hB3 : Below w.heap.size w w3 := hBw2.trans (below_chg' hC3 hBw2.size (fun k hk => by omega))
                have HM3 := Lib.hid hM3
                have obne : ob ≠ w.heap.size := by omega
                have tbne : tb ≠ w.heap.size := by omega
                have HOB3 : Hid (∀ jj v, (hs D)[jj]? = some v → w3.cell? ⟨ob, jj, none⟩ = some (.int .i64 v)) := fun jj v hv => (World.cell?_of_block (a := ⟨ob, jj, none⟩) (hC3.block ob hob2 obne)).trans (HOBC.out jj v hv)
                have HTB3 : Hid (∀ jj v, (ts D)[jj]? = some v → w3.cell? ⟨tb, jj, none⟩ = some (.int .i64 v)) := fun jj v hv => (World.cell?_of_block (a := ⟨tb, jj, none⟩) (hC3.block tb htb2 tbne)).trans (HTBC.out jj v hv)
                have hob3' : ob < w3.heap.size := by omega
                have htb3' : tb < w3.heap.size := by omega
                clear hC3 hM3
                have b1 : (0 : Int) ≤ (q : Int) := by omega
                have b2 : (q : Int) ≤ (j : Int) := by omega
                have b3 : (q : Int) ≤ (oc : Int) := by omega
                have b4 : (q : Int) ≤ (tc : Int) := by omega
                have hwr : IntKind.i64.wrap ((q : Int) + 1) = (q : Int) + 1 := by rw [IntKind.wrap_i64]; omega
                have hp0 : (0 : Int) ≤ (q : Int) + 1 := by omega
                have hp1 : (q : Int) + 1 ≤ (j : Int) := by omega
                have hp2 : ((q : Int) + 1).toNat = q + 1 := by omega
                have b9 : (j : Int) ≤ (oc : Int) := by omega
                have b10 : (j : Int) ≤ (tc : Int) := by omega
                have howA : Hid ((w3.alloc (.cells #[] 3)).ownsRow w3.heap.size 3 1 (.slice (some ⟨w3.heap.size, 0, none⟩) 0 0) 0 []) := World.ownsRow_lit _ _ 0 (Nat.le_refl _) (by unfold maxLen; omega) rfl
                have hBWA : Below w3.heap.size w3 (w3.alloc (.cells #[] 3)) := (Below.refl _ w3).alloc (Nat.le_refl _) _
                obtain ⟨adA, hadA, hcellsA⟩ : ∃ ad : Addr, (if oc = q + 1 then some (⟨ob, 0, none⟩ : Addr) else some ⟨ob, q + 1, none⟩) = some ad ∧ ∀ (W : World), Below w3.heap.size w3 W → ∀ (jj : Nat) (u : Value), (((hs D).drop (q + 1)).map zi)[jj]? = some u → W.cell? (ad.add jj) = some u := by
                  by_cases he : oc = q + 1
                  · refine ⟨_, if_pos he, fun W hW jj u hu => ?_⟩
                    rw [List.getElem?_map, List.getElem?_drop, List.getElem?_eq_none (by simp only [hs_len, ts_len, HDL.out]; omega)] at hu
                    cases hu
                  · refine ⟨_, if_neg he, fun W hW jj u hu => ?_⟩
                    rw [List.getElem?_map, List.getElem?_drop] at hu
                    cases hv : (hs D)[q + 1 + jj]? with
                    | none => rw [hv] at hu; cases hu
                    | some v =>
                      rw [hv] at hu; cases hu
                      rw [show (⟨ob, q + 1, none⟩ : Addr).add jj = ⟨ob, q + 1 + jj, none⟩ from add_none]
                      exact (hW.cell (p := ⟨ob, q + 1 + jj, none⟩) hob3').trans (HOB3.out _ v hv)
                have htkA : ∀ (W : World), Below w3.heap.size w3 W → ∀ (jj : Nat) (u : Value), (((hs D).take q).map zi)[jj]? = some u → W.cell? ((⟨ob, 0, none⟩ : Addr).add jj) = some u := by
                  intro W hW jj u hu
                  rw [List.getElem?_map, List.getElem?_take] at hu
                  split at hu
                  · cases hv : (hs D)[jj]? with
                    | none => rw [hv] at hu; cases hu
                    | some v =>
                      rw [hv] at hu; cases hu
                      rw [show (⟨ob, 0, none⟩ : Addr).add jj = ⟨ob, 0 + jj, none⟩ from add_none, Nat.zero_add]
                      exact (hW.cell (p := ⟨ob, jj, none⟩) hob3').trans (HOB3.out _ v hv)
                  · cases hu
                have HTKA := Lib.hid htkA; have HCEA := Lib.hid hcellsA
                have hltA : Hid ((((hs D).take q).map zi).length = q * 1) := by show _ = _; simp only [List.length_map, List.length_take, hs_len, ts_len, HDL.out]; omega
                have hldA : Hid ((((hs D).drop (q + 1)).map zi).length = (j - (q + 1)) * 1) := by show _ = _; simp only [List.length_map, List.length_drop, hs_len, ts_len, HDL.out]; omega
                clear htkA hcellsA
                go_wp2_with fail
                go_region_held3 (fun _ => True)
                  (go_keep)
                  (first
                   | (refine step_append_own (by rfl) _ _ _ (by rfl) w3.heap.size 3 i3 _ 1 8 Try.underlying27 JI.out JZ0.out JZ1.out JZ2.out rfl (by omega) (.slice (some ⟨w3.heap.size, 0, none⟩) 0 0) 0 [] (by simp [Act.eval, Act.put]) (by exact howA.out)
                        ⟨ob, 0, none⟩ q oc (((hs D).take q).map zi) (by simp [Act.eval, Act.put]) hltA.out (HTKA.out _ (hBWA.drew)) (by intro u hu; obtain ⟨x, _, rfl⟩ := List.mem_map.1 hu; rfl) (by unfold maxLen; omega) (by omega) (by show w3.heap.size ≤ (w3.alloc (.cells #[] 3)).heap.size; simp) ?_
                      intro vw5 w5 hownw5 hgrw5 _
                      obtain ⟨aw5, cw5, rfl⟩ := own_form hownw5
                      have hBw5 : Below w3.heap.size w3 w5 := (hBWA.drew).grown hgrw5 (by show w3.heap.size ≤ (w3.alloc (.cells #[] 3)).heap.size; simp) (fun kk hk => by simp [Value.ownBlock] at hk; omega)
                      have HOw5 := Lib.hid hownw5
                      clear hownw5 hgrw5)
                   | (refine step_append_own (by rfl) _ _ _ (by rfl) w3.heap.size 3 i3 _ 1 8 Try.underlying27 JI.out JZ0.out JZ1.out JZ2.out rfl (by omega) (.slice aw5 (0 + q) cw5) (0 + q) _ (by simp [Act.eval, Act.put]) (by exact HOw5.out)
                        adA (j - (q + 1)) (oc - (q + 1)) (((hs D).drop (q + 1)).map zi) (by simp [Act.eval, Act.put]) hldA.out (HCEA.out _ hBw5) (by intro u hu; obtain ⟨x, _, rfl⟩ := List.mem_map.1 hu; rfl) (by unfold maxLen; omega) (by omega) (by have := hBw5.size; omega) ?_
                      intro vw6 w6 hownw6 hgrw6 _
                      have hBw6 : Below w3.heap.size w3 w6 := hBw5.grown hgrw6 (by have := hBw5.size; omega) (fun kk hk => own_ge HOw5.out kk hk)
                      have HOw6 := Lib.hid hownw6
                      clear hownw6 hgrw6))
                have hB36 : Below w3.heap.size w3 w6 := hBw6
                have HTB6 : Hid (∀ jj v, (ts D)[jj]? = some v → w6.cell? ⟨tb, jj, none⟩ = some (.int .i64 v)) := fun jj v hv => (hB36.cell (p := ⟨tb, jj, none⟩) htb3').trans (HTB3.out jj v hv)
                have htb6' : tb < w6.heap.size := Nat.lt_of_lt_of_le htb3' hB36.size
                have HB36 := Lib.hid hB36
                clear hBw6 hBw5 hadA hB36
                have howB : Hid ((w6.alloc (.cells #[] 3)).ownsRow w6.heap.size 3 1 (.slice (some ⟨w6.heap.size, 0, none⟩) 0 0) 0 []) := World.ownsRow_lit _ _ 0 (Nat.le_refl _) (by unfold maxLen; omega) rfl
                have hBWB : Below w6.heap.size w6 (w6.alloc (.cells #[] 3)) := (Below.refl _ w6).alloc (Nat.le_refl _) _
                obtain ⟨adB, hadB, hcellsB⟩ : ∃ ad : Addr, (if tc = q + 1 then some (⟨tb, 0, none⟩ : Addr) else some ⟨tb, q + 1, none⟩) = some ad ∧ ∀ (W : World), Below w6.heap.size w6 W → ∀ (jj : Nat) (u : Value), (((ts D).drop (q + 1)).map zi)[jj]? = some u → W.cell? (ad.add jj) = some u := by
                  by_cases he : tc = q + 1
                  · refine ⟨_, if_pos he, fun W hW jj u hu => ?_⟩
                    rw [List.getElem?_map, List.getElem?_drop, List.getElem?_eq_none (by simp only [hs_len, ts_len, HDL.out]; omega)] at hu
                    cases hu
                  · refine ⟨_, if_neg he, fun W hW jj u hu => ?_⟩
                    rw [List.getElem?_map, List.getElem?_drop] at hu
                    cases hv : (ts D)[q + 1 + jj]? with
                    | none => rw [hv] at hu; cases hu
                    | some v =>
                      rw [hv] at hu; cases hu
                      rw [show (⟨tb, q + 1, none⟩ : Addr).add jj = ⟨tb, q + 1 + jj, none⟩ from add_none]
                      exact (hW.cell (p := ⟨tb, q + 1 + jj, none⟩) htb6').trans (HTB6.out _ v hv)
                have htkB : ∀ (W : World), Below w6.heap.size w6 W → ∀ (jj : Nat) (u : Value), (((ts D).take q).map zi)[jj]? = some u → W.cell? ((⟨tb, 0, none⟩ : Addr).add jj) = some u := by
                  intro W hW jj u hu
                  rw [List.getElem?_map, List.getElem?_take] at hu
                  split at hu
                  · cases hv : (ts D)[jj]? with
                    | none => rw [hv] at hu; cases hu
                    | some v =>
                      rw [hv] at hu; cases hu
                      rw [show (⟨tb, 0, none⟩ : Addr).add jj = ⟨tb, 0 + jj, none⟩ from add_none, Nat.zero_add]
                      exact (hW.cell (p := ⟨tb, jj, none⟩) htb6').trans (HTB6.out _ v hv)
                  · cases hu
                have HTKB := Lib.hid htkB; have HCEB := Lib.hid hcellsB
                have hltB : Hid ((((ts D).take q).map zi).length = q * 1) := by show _ = _; simp only [List.length_map, List.length_take, hs_len, ts_len, HDL.out]; omega
                have hldB : Hid ((((ts D).drop (q + 1)).map zi).length = (j - (q + 1)) * 1) := by show _ = _; simp only [List.length_map, List.length_drop, hs_len, ts_len, HDL.out]; omega
                clear htkB hcellsB
                go_wp2_with fail
                go_region_held3 (fun _ => True)
                  (go_keep)
                  (first
                   | (refine step_append_own (by rfl) _ _ _ (by rfl) w6.heap.size 3 i3 _ 1 8 Try.underlying27 JI.out JZ0.out JZ1.out JZ2.out rfl (by omega) (.slice (some ⟨w6.heap.size, 0, none⟩) 0 0) 0 [] (by simp [Act.eval, Act.put]) (by exact howB.out)
                        ⟨tb, 0, none⟩ q tc (((ts D).take q).map zi) (by simp [Act.eval, Act.put]) hltB.out (HTKB.out _ (hBWB.drew)) (by intro u hu; obtain ⟨x, _, rfl⟩ := List.mem_map.1 hu; rfl) (by unfold maxLen; omega) (by omega) (by show w6.heap.size ≤ (w6.alloc (.cells #[] 3)).heap.size; simp) ?_
                      intro vw7 w7 hownw7 hgrw7 _
                      obtain ⟨aw7, cw7, rfl⟩ := own_form hownw7
                      have hBw7 : Below w6.heap.size w6 w7 := (hBWB.drew).grown hgrw7 (by show w6.heap.size ≤ (w6.alloc (.cells #[] 3)).heap.size; simp) (fun kk hk => by simp [Value.ownBlock] at hk; omega)
                      have HOw7 := Lib.hid hownw7
                      clear hownw7 hgrw7)
                   | (refine step_append_own (by rfl) _ _ _ (by rfl) w6.heap.size 3 i3 _ 1 8 Try.underlying27 JI.out JZ0.out JZ1.out JZ2.out rfl (by omega) (.slice aw7 (0 + q) cw7) (0 + q) _ (by simp [Act.eval, Act.put]) (by exact HOw7.out)
                        adB (j - (q + 1)) (tc - (q + 1)) (((ts D).drop (q + 1)).map zi) (by simp [Act.eval, Act.put]) hldB.out (HCEB.out _ hBw7) (by intro u hu; obtain ⟨x, _, rfl⟩ := List.mem_map.1 hu; rfl) (by unfold maxLen; omega) (by omega) (by have := hBw7.size; omega) ?_
                      intro vw8 w8 hownw8 hgrw8 _
                      have hBw8 : Below w6.heap.size w6 w8 := hBw7.grown hgrw8 (by have := hBw7.size; omega) (fun kk hk => own_ge HOw7.out kk hk)
                      have HOw8 := Lib.hid hownw8
                      clear hownw8 hgrw8))
                have hB38 : Below w3.heap.size w3 w8 := HB36.out.trans (hBw8.mono HB36.out.size)
                have hs6 := HB36.out.size
                have hs8 := hBw8.size
                have hlnD : (D.take q ++ D.drop (q + 1)).length = 0 + q + (j - (q + 1)) := by simp only [List.length_append, List.length_take, List.length_drop, HDL.out]; omega
                have HS8 : Hid (St H w8 (w.heap.size + 1) w.heap.size most last vw6 vw8 (D.take q ++ D.drop (q + 1))) := by
                  refine ⟨HM3.out.below hB38, ?_, ?_, fun b hb hb2 => ?_, by rw [hlnD]; omega⟩
                  · rw [hlnD, show (hs (D.take q ++ D.drop (q + 1))).map zi = [] ++ ((hs D).take q).map zi ++ ((hs D).drop (q + 1)).map zi by simp [hs, List.map_take, List.map_drop]]
                    exact own_base (own_below HOw6.out hBw8) (by omega)
                  · rw [hlnD, show (ts (D.take q ++ D.drop (q + 1))).map zi = [] ++ ((ts D).take q).map zi ++ ((ts D).drop (q + 1)).map zi by simp [ts, List.map_take, List.map_drop]]
                    exact own_base HOw8.out (by omega)
                  · have h1 := (own_lt HOw6.out b hb).1
                    have h2 := own_ge HOw8.out b hb2
                    omega
                have hB8 : Below w.heap.size w w8 := hB3.trans (hB38.mono hB3.size)
                have hH8 : H ≤ w8.heap.size := by omega
                clear hlnD hBw8 hB38 hadB
                go_wp2
                go_meet
                exact ⟨last, _, rfl, by omega, hB8, hH8, HS8.out⟩
      case rest =>
        obtain ⟨last', D', rfl, hll, hB2, hH2, hS2⟩ := hcut
        have HS2 := Lib.hid hS2
        obtain ⟨oa2, oc2, rfl⟩ := own_form hS2.ho
        obtain ⟨ta2, tc2, rfl⟩ := own_form hS2.tmo
        have hDl2 := hS2.room
        have HNd2 := Lib.hid hS2.book.pure.nodup
        clear hS2
        generalize hdl2 : D'.length = dl2 at *
        have HDL2 := Lib.hid hdl2; clear hdl2
        have hs2 := hB2.size
        go_wp2_with fail
        go_loopw [16] (fun jv wr2 => ∃ j : Nat, j ≤ dl2 ∧ jv = .int .i64 j ∧ wr2 = wc) (fun jv _ => dl2 - (intOf jv).toNat)
        case atStart => exact ⟨0, Nat.zero_le _, rfl, rfl⟩
        case round =>
          obtain ⟨j, hj, rfl, rfl⟩ := hrel
          by_cases hjl : j < dl2
          · have hp : D'[j]? = some (D'[j]'(by rw [HDL2.out]; exact hjl)) := List.getElem?_eq_getElem _
            generalize D'[j]'(by rw [HDL2.out]; exact hjl) = p at hp
            obtain ⟨ob, hoa, hob1, hob2, hob3, hob4, hobc⟩ := row_slot (HDL2.out ▸ HS2.out.ho) (by omega)
            obtain ⟨tb, hta, htb1, htb2, htb3, htb4, htbc⟩ := row_slot (HDL2.out ▸ HS2.out.tmo) (by omega)
            subst hoa; subst hta
            have f0 := hobc j p.1 (by unfold hs; rw [List.getElem?_map, hp]; rfl)
            have f1 := htbc j p.2 (by unfold ts; rw [List.getElem?_map, hp]; rfl)
            have htm := tm_at HNd2.out j p hp
            have AT := at_any p.1 wr HS2.out.book
            rw [htm] at AT
            have HAT := Lib.hid AT
            clear hobc htbc htm AT hp
            obtain ⟨ph, pt⟩ := p
            simp only at f0 f1
            have t6 : (pt != pt) = false := by simp
            go_wp2_with fail
            refine HAT.out.mono ?_
            rintro e w5 ⟨rfl, rfl⟩
            go_wp2
            go_roundw
            case rel => exact ⟨j + 1, by omega, by go_num, by first | rfl | trivial⟩
            case measure => simp [intOf]; omega
          · have LI := Lib.hid (list_any wr HS2.out.book)
            go_wp2_with fail
            refine LI.out.mono ?_
            rintro e w5 ⟨a5, c5, rfl, hB5, hown5⟩
            have hho := HS2.out.ho
            rw [HDL2.out] at hho hown5
            have IE := ints_any a5 oa2 c5 oc2 (hs D') (hs D') w5 (by rw [hs_len, HDL2.out]; omega) (by rw [hs_len, HDL2.out]; omega) (Rd.of_own hown5).2 ((Rd.of_own hho).2.below hB5)
            rw [hs_len, HDL2.out, decide_eq_true rfl] at IE
            have HIE := Lib.hid IE
            have HS5 := Lib.hid (HS2.out.below hB5)
            have hs5 := hB5.size
            clear hho IE hown5
            go_wp2_with fail
            rw [HDL2.out]
            refine HIE.out.mono ?_
            rintro e w6 ⟨rfl, hB6⟩
            have hs6 := hB6.size
            go_wp2
            go_roundw
            case rel => exact ⟨i + 1, last', D', by omega, by go_num, rfl, by omega, (hB2.trans (hB5.mono hs2)).trans (hB6.mono (by omega)), by omega, HDL2.out.symm ▸ HS5.out.below hB6⟩
            case measure => simp [intOf]; omega
    · go_wp2_with fail
      refine (HAW.out _).mono ?_
      rintro e w5 ⟨rfl, hB5⟩
      go_wp2
      go_ret
      exact ⟨rfl, hB.trans (hB5.mono hB.size)⟩
end Go.Proofs.Ytfmjkpobphjgkaa
