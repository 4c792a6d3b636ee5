import Derived.Deep.RegionLaw
import Derived.Deep.CutBlock
import Derived.Deep.DeepCutAuto
import Derived.BigRegion
import Derived.Test.YtfmjkpobphjgkaaPr1
namespace Go.Proofs.Ytfmjkpobphjgkaa
open Go.RowKit
open BigFrame Lib

def ROut (B g : Nat) (w : World) (most last : Int) (D : BD) (t : Int) (w' : World) : Prop :=
  Chg (· = g) w w' ∧ ∃ ov tv, RefB B w' g most (olast most last D.length t) (omore most last D t) ov tv

theorem ts_len' (D : BD) : (ts D).length = D.length := by simp [ts]
theorem news_row {w : World} {B n cap : Nat} {a : Option Addr} {xs : List Int} (h : w.ownsRow B 3 1 (.slice a n cap) n (xs.map zi)) : ∀ W, Below w.heap.size w W → ∀ ad, a = some ad → ∀ (jj : Nat) (u : Value), (xs.map zi)[jj]? = some u → W.cell? (ad.add jj) = some u := by
  rintro W hW ad rfl jj u hu
  have hn : 0 < n := by
    have h1 := h.1
    have h2 := (List.getElem?_eq_some_iff.1 hu).1
    omega
  obtain ⟨b, hb, _, hlt, _, _, hc⟩ := row_slot h hn
  cases hb
  rw [List.getElem?_map] at hu
  cases hv : xs[jj]? with
  | none => rw [hv] at hu; cases hu
  | some v =>
    rw [hv] at hu; cases hu
    rw [show (⟨b, 0, none⟩ : Addr).add jj = ⟨b, 0 + jj, none⟩ from add_none, Nat.zero_add]
    exact (hW.cell (p := ⟨b, jj, none⟩) hlt).trans (hc jj v hv)
theorem one_cells {l : List Int} : ∀ u ∈ l.map zi, u.oneCell' = true := by
  intro u hu; obtain ⟨x, _, rfl⟩ := List.mem_map.1 hu; rfl

set_option maxRecDepth 100000 in
set_option maxHeartbeats 600000 in
theorem ropen_any {B g : Nat} {most last : Int} {D : BD} {ov tv : Value} (t : Int) (w : World) (hR : RefB B w g most last D ov tv) (hl : last < 1000000) (hBw : B ≤ w.heap.size) :
    Calls Try.prog 11 #[.pointer (some ⟨g, 0, none⟩), .int .i64 t] w fun e w' => e = .returned (.tuple #[.int .i64 (if ocode most D.length t = 0 then last + 1 else 0), .int .i64 (ocode most D.length t)]) ∧ ROut B g w most last D t w' := by
  unfold ROut
  by_cases ht : t < 0 ∨ 1099511627776 < t
  · have hc : ocode most D.length t = 1 := by unfold ocode; rw [if_pos ht]
    unfold omore olast
    rw [hc]
    simp only [show ((1 : Int) = 0) = False from by decide, if_false]
    have HR := Lib.hid hR
    clear hR hc
    by_cases h1 : t < 0
    · go_enter Try.func11, Try.ntmps11
      go_wp2
      go_ret2
      exact ⟨rfl, Chg.refl _ _, _, _, HR.out⟩
    · have h2 : 1099511627776 < t := by omega
      have t1 : decide (t < 0) = false := by simpa using h1
      have t2 : decide (1099511627776 < t) = true := by simpa using h2
      clear ht
      go_enter Try.func11, Try.ntmps11
      go_wp2
      go_ret2
      exact ⟨rfl, Chg.refl _ _, _, _, HR.out⟩
  · have t1 : decide (t < 0) = false := by simp; omega
    have t2 : decide (1099511627776 < t) = false := by simp; omega
    obtain ⟨i3, hi0, hz0, hz1, hz2⟩ := info_parts info3P
    have JI := Lib.hid hi0; have JZ0 := Lib.hid hz0; have JZ1 := Lib.hid hz1; have JZ2 := Lib.hid hz2
    clear hi0 hz0 hz1 hz2
    have c0 := hR.c0
    have c1 := hR.c1
    have c3 := hR.c3
    have hlen := hR.pure.len
    have hl0 := hR.pure.l0
    obtain ⟨oa, oc, rfl⟩ := own_form hR.ho
    obtain ⟨ta, tc, rfl⟩ := own_form hR.tmo
    have HR := Lib.hid hR
    by_cases hroom : most ≤ (D.length : Int)
    · have hc : ocode most D.length t = 6 := by unfold ocode; rw [if_neg ht, if_pos hroom]
      unfold omore olast
      rw [hc]
      simp only [show ((6 : Int) = 0) = False from by decide, if_false]
      clear hR hc ht
      generalize hdl : D.length = dl at *
      have HDL := Lib.hid hdl; clear hdl
      have t3 : decide (most ≤ (dl : Int)) = true := by simpa using hroom
      go_enter Try.func11, Try.ntmps11
      go_wp2_with fail
      go_quiet (fail)
      go_wp2
      go_ret2
      exact ⟨rfl, Chg.of_below (below_drewN (Below.refl _ _) _), _, _, HR.out.below (below_drewN (Below.refl _ _) _)⟩
    · have hc : ocode most D.length t = 0 := by unfold ocode; rw [if_neg ht, if_neg hroom]
      unfold omore olast
      rw [hc]
      simp only [if_true]
      have ht0 : 0 ≤ t := by omega
      have ht1 : t ≤ 1099511627776 := by omega
      clear hR hc ht
      generalize hdl : D.length = dl at *
      have HDL := Lib.hid hdl; clear hdl
      have t3 : decide (most ≤ (dl : Int)) = false := by simpa using hroom
      go_enter Try.func11, Try.ntmps11
      go_wp2_with fail
      go_quiet (fail)
      have HR1 := Lib.hid (HR.out.below (below_drewN (Below.refl _ w) nq))
      have hC1 : Hid (Chg (· = g) w (w.drewN nq)) := Chg.of_below (below_drewN (Below.refl _ w) nq)
      have hs1 : w.heap.size ≤ (w.drewN nq).heap.size := (below_drewN (Below.refl w.heap.size w) nq).size
      clear c0 c1 c3
      generalize w.drewN nq = w1 at *
      have c3 := HR1.out.c3
      have f3 : w1.frozen? ⟨g, 3, none⟩ = false := free_heap HR1.out.cell
      have hcell2 : (w1.setCell ⟨g, 3, none⟩ (.int .i64 (last + 1))).heap[g]? = some (.cells ([.int .i64 most, .slice oa dl oc, .slice ta dl tc, .int .i64 (last + 1)] : List Value).toArray 29 (0, 0)) := set_heap HR1.out.cell
      have hC2' : Chg (· = g) w1 (w1.setCell ⟨g, 3, none⟩ (.int .i64 (last + 1))) := Chg.setCell (S := (· = g)) (Chg.refl _ _) (p := ⟨g, 3, none⟩) (.inl rfl) _
      have hC2 : Hid (Chg (· = g) w (w1.setCell ⟨g, 3, none⟩ (.int .i64 (last + 1)))) := hC1.out.trans hC2'
      have hho := HR1.out.ho; have htm := HR1.out.tmo
      rw [HDL.out] at hho htm
      have HH2 := Lib.hid (own_chg hho hC2' (fun b hb e => own_no hho (by rw [e]; exact noRow_type HR1.out.cell (by decide)) hb))
      have HT2 := Lib.hid (own_chg htm hC2' (fun b hb e => own_no htm (by rw [e]; exact noRow_type HR1.out.cell (by decide)) hb))
      have hs2 : w1.heap.size ≤ (w1.setCell ⟨g, 3, none⟩ (.int .i64 (last + 1))).heap.size := hC2'.size
      go_upto_region 6 with (fail)
      have HCELL2 := Lib.hid hcell2
      clear hC2' hho htm hcell2 f3
      generalize w1.setCell ⟨g, 3, none⟩ (.int .i64 (last + 1)) = w2 at *
      clear c3
      have hgp := lt_heap HCELL2.out
      have k1p : w2.cell? ⟨g, 1, none⟩ = some (.slice oa dl oc) := cell_heap HCELL2.out rfl
      have k3p : w2.cell? ⟨g, 3, none⟩ = some (.int .i64 (last + 1)) := cell_heap HCELL2.out rfl
      have f1p : w2.frozen? ⟨g, 1, none⟩ = false := free_heap HCELL2.out
      have HNEWSp := Lib.hid (news_row HH2.out)
      have HNNp := Lib.hid (row_none HH2.out).2.2
      have bAp : Below w2.heap.size w2 (w2.alloc (.cells #[] 3)) := (Below.refl _ w2).alloc (Nat.le_refl _) _
      have bBp : Below w2.heap.size w2 ((w2.alloc (.cells #[] 3)).alloc (.cells #[.int .i64 (last + 1)] 3)) := bAp.alloc (by simp) _
      have bCp : Below w2.heap.size w2 (w2.alloc (.cells #[.int .i64 (last + 1)] 3)) := (Below.refl _ w2).alloc (Nat.le_refl _) _
      have bDp : Below w2.heap.size w2 ((w2.alloc (.cells #[.int .i64 (last + 1)] 3)).alloc (.cells #[] 3)) := bCp.alloc (by simp) _
      have how1p : Hid ((w2.alloc (.cells #[] 3)).ownsRow w2.heap.size 3 1 (.slice (some ⟨w2.heap.size, 0, none⟩) 0 0) 0 []) := World.ownsRow_lit _ _ 0 (Nat.le_refl _) (by unfold maxLen; omega) rfl
      have how2p : Hid (((w2.alloc (.cells #[] 3)).alloc (.cells #[.int .i64 (last + 1)] 3)).ownsRow w2.heap.size 3 1 (.slice (some ⟨w2.heap.size, 0, none⟩) 0 0) 0 []) := how1p.out.alloc _
      have how3p : Hid (((w2.alloc (.cells #[.int .i64 (last + 1)] 3)).alloc (.cells #[] 3)).ownsRow w2.heap.size 3 1 (.slice (some ⟨w2.heap.size + 1, 0, none⟩) 0 0) 0 []) := by
        have := World.ownsRow_lit (e := 3) (size := 1) (base := w2.heap.size) (w2.alloc (.cells #[.int .i64 (last + 1)] 3)) #[] 0 (by simp) (by unfold maxLen; omega) rfl
        simp at this
        exact this
      have e1p : ((w2.alloc (.cells #[] 3)).alloc (.cells #[.int .i64 (last + 1)] 3)).heap[w2.heap.size + 1]? = some (.cells #[.int .i64 (last + 1)] 3 (0, 0)) := alloc_new (by simp)
      have e2p : ((w2.alloc (.cells #[.int .i64 (last + 1)] 3)).alloc (.cells #[] 3)).heap[w2.heap.size]? = some (.cells #[.int .i64 (last + 1)] 3 (0, 0)) := (alloc_heap (by simp)).trans (alloc_new rfl)
      have E1p := Lib.hid e1p; have E2p := Lib.hid e2p
      have lA := (bAp.cell (p := ⟨g, 1, none⟩) hgp).trans k1p
      have lB := (bBp.cell (p := ⟨g, 1, none⟩) hgp).trans k1p
      have lC := (bCp.cell (p := ⟨g, 1, none⟩) hgp).trans k1p
      have lD := (bDp.cell (p := ⟨g, 1, none⟩) hgp).trans k1p
      have mA := (bAp.cell (p := ⟨g, 3, none⟩) hgp).trans k3p
      have mB := (bBp.cell (p := ⟨g, 3, none⟩) hgp).trans k3p
      have mC := (bCp.cell (p := ⟨g, 3, none⟩) hgp).trans k3p
      have mD := (bDp.cell (p := ⟨g, 3, none⟩) hgp).trans k3p
      clear e1p e2p
      go_cut [4] (fun _ wx => ∃ v6 : Value, Chg (· = g) w2 wx ∧ wx.heap[g]? = some (.cells ([.int .i64 most, v6, .slice ta dl tc, .int .i64 (last + 1)] : List Value).toArray 29 (0, 0)) ∧ wx.ownsRow w2.heap.size 3 1 v6 (dl + 1) ((hs D).map zi ++ [.int .i64 (last + 1)]) ∧ ∃ a6 c6, v6 = .slice a6 (dl + 1) c6)
      case first =>
        go_region_law
          (first
           | (refine step_append_x (by rfl) _ _ _ (by rfl) w2.heap.size 3 i3 _ 1 8 Try.underlying27 JI.out JZ0.out JZ1.out JZ2.out rfl (by omega) (.slice (some ⟨w2.heap.size, 0, none⟩) 0 0) 0 [] (by simp [Act.eval, Act.put]) (by exact how1p.out)
                  oa dl oc ((hs D).map zi) (by simp [Act.eval, Act.put]) HNNp.out (by simp [hs_len, ts_len', HDL.out]) (HNEWSp.out _ (bAp.drew)) one_cells (by unfold maxLen; omega) (by omega) (by have := bAp.size; exact this) ?_
              intro v5 w5 hown5 hgr5 hb5
              obtain ⟨a5, c5, rfl⟩ := own_form hown5
              have hB5 : Below w2.heap.size w2 w5 := (bAp.drew).grown hgr5 (by have := bAp.size; exact this) (fun kk hk => by simp [Value.ownBlock] at hk; omega)
              have p1 := (hB5.cell (p := ⟨g, 1, none⟩) hgp).trans k1p
              have p3 := (hB5.cell (p := ⟨g, 3, none⟩) hgp).trans k3p
              have s1 := (((Below.refl w5.heap.size w5).alloc (Nat.le_refl _) (.cells #[.int .i64 (last + 1)] 3)).cell (p := ⟨g, 3, none⟩) (Nat.lt_of_lt_of_le hgp hB5.size)).trans p3
              have hEL : Hid ((w5.alloc (.cells #[.int .i64 (last + 1)] 3)).heap[w5.heap.size]? = some (.cells #[.int .i64 (last + 1)] 3 (0, 0))) := alloc_new rfl
              have HB5x : Hid (Below w2.heap.size w2 (w5.alloc (.cells #[.int .i64 (last + 1)] 3))) := hB5.alloc hB5.size _
              have HO5 := Lib.hid (hown5.alloc (.cells #[.int .i64 (last + 1)] 3))
              have HO5p := Lib.hid hown5
              clear hown5 hgr5)
           | (refine step_append_x (by rfl) _ _ _ (by rfl) w2.heap.size 3 i3 _ 1 8 Try.underlying27 JI.out JZ0.out JZ1.out JZ2.out rfl (by omega) (.slice (some ⟨w2.heap.size, 0, none⟩) 0 0) 0 [] (by simp [Act.eval, Act.put]) (by exact how2p.out)
                  oa dl oc ((hs D).map zi) (by simp [Act.eval, Act.put]) HNNp.out (by simp [hs_len, ts_len', HDL.out]) (HNEWSp.out _ (bBp.drew)) one_cells (by unfold maxLen; omega) (by omega) (by have := bBp.size; exact this) ?_
              intro v5 w5 hown5 hgr5 hb5
              obtain ⟨a5, c5, rfl⟩ := own_form hown5
              have hB5 : Below w2.heap.size w2 w5 := (bBp.drew).grown hgr5 (by have := bBp.size; exact this) (fun kk hk => by simp [Value.ownBlock] at hk; omega)
              have p1 := (hB5.cell (p := ⟨g, 1, none⟩) hgp).trans k1p
              have p3 := (hB5.cell (p := ⟨g, 3, none⟩) hgp).trans k3p
              have hEL2 : Hid (w5.heap[w2.heap.size + 1]? = some (.cells #[.int .i64 (last + 1)] 3 (0, 0))) := (hgr5.block _ (lt_heap E1p.out) (by simp [Value.ownBlock])).trans E1p.out
              have HB5x := Lib.hid hB5
              have HO5 := Lib.hid hown5
              clear hown5 hgr5)
           | (refine step_append_x (by rfl) _ _ _ (by rfl) w2.heap.size 3 i3 _ 1 8 Try.underlying27 JI.out JZ0.out JZ1.out JZ2.out rfl (by omega) (.slice (some ⟨w2.heap.size + 1, 0, none⟩) 0 0) 0 [] (by simp [Act.eval, Act.put]) (by exact how3p.out)
                  oa dl oc ((hs D).map zi) (by simp [Act.eval, Act.put]) HNNp.out (by simp [hs_len, ts_len', HDL.out]) (HNEWSp.out _ (bDp.drew)) one_cells (by unfold maxLen; omega) (by omega) (by have := bDp.size; exact this) ?_
              intro v5 w5 hown5 hgr5 hb5
              obtain ⟨a5, c5, rfl⟩ := own_form hown5
              have hB5 : Below w2.heap.size w2 w5 := (bDp.drew).grown hgr5 (by have := bDp.size; exact this) (fun kk hk => by simp [Value.ownBlock] at hk; omega)
              have p1 := (hB5.cell (p := ⟨g, 1, none⟩) hgp).trans k1p
              have p3 := (hB5.cell (p := ⟨g, 3, none⟩) hgp).trans k3p
              have hEL3 : Hid (w5.heap[w2.heap.size]? = some (.cells #[.int .i64 (last + 1)] 3 (0, 0))) := (hgr5.block _ (lt_heap E2p.out) (by simp [Value.ownBlock])).trans E2p.out
              have HB5x := Lib.hid hB5
              have HO5 := Lib.hid hown5
              clear hown5 hgr5)
           | (refine step_append_x (by rfl) _ _ _ (by rfl) w2.heap.size 3 i3 _ 1 8 Try.underlying27 JI.out JZ0.out JZ1.out JZ2.out rfl (by omega) (.slice a5 (0 + dl) c5) (0 + dl) _ (by simp [Act.eval, Act.put]) (by exact HO5.out)
                  (some ⟨w5.heap.size, 0, none⟩) 1 1 [.int .i64 (last + 1)] (by simp [Act.eval, Act.put]) (by simp) rfl (fun ad had => by cases had; exact World.news_of_block hEL.out) (by intro u hu; simp at hu; subst hu; rfl) (by unfold maxLen; omega) (by omega) (by have := hB5.size; first | omega | (simp; omega)) ?_
              intro v6 w6 hown6 hgr6 hb6
              obtain ⟨a6, c6, rfl⟩ := own_form hown6
              have hB6 : Below w2.heap.size w2 w6 := (HB5x.out).grown hgr6 (by have := HB5x.out.size; omega) (fun kk hk => own_ge HO5.out kk hk)
              have hs6 := hB6.size
              have q1 := (hB6.cell (p := ⟨g, 1, none⟩) hgp).trans k1p
              have q3 := (hB6.cell (p := ⟨g, 3, none⟩) hgp).trans k3p
              have q5 : w6.frozen? ⟨g, 1, none⟩ = false := (hB6.frozen (p := ⟨g, 1, none⟩) hgp).trans f1p
              have hcl6 : w6.heap[g]? = some (.cells ([.int .i64 most, .slice oa dl oc, .slice ta dl tc, .int .i64 (last + 1)] : List Value).toArray 29 (0, 0)) := (hB6.block g hgp).trans HCELL2.out
              have r3 : (w6.setCell ⟨g, 1, none⟩ (.slice a6 (dl + 1) c6)).cell? ⟨g, 3, none⟩ = some (.int .i64 (last + 1)) := cell_heap (set_heap hcl6) rfl
              have HB6 := Lib.hid hB6; have HO6 := Lib.hid hown6; have HCL6 := Lib.hid hcl6
              clear hcl6)
           | (refine step_append_x (by rfl) _ _ _ (by rfl) w2.heap.size 3 i3 _ 1 8 Try.underlying27 JI.out JZ0.out JZ1.out JZ2.out rfl (by omega) (.slice a5 (0 + dl) c5) (0 + dl) _ (by simp [Act.eval, Act.put]) (by exact HO5.out)
                  (some ⟨w2.heap.size + 1, 0, none⟩) 1 1 [.int .i64 (last + 1)] (by simp [Act.eval, Act.put]) (by simp) rfl (fun ad had => by cases had; exact World.news_of_block hEL2.out) (by intro u hu; simp at hu; subst hu; rfl) (by unfold maxLen; omega) (by omega) (by have := hB5.size; first | omega | (simp; omega)) ?_
              intro v6 w6 hown6 hgr6 hb6
              obtain ⟨a6, c6, rfl⟩ := own_form hown6
              have hB6 : Below w2.heap.size w2 w6 := (HB5x.out).grown hgr6 (by have := HB5x.out.size; omega) (fun kk hk => own_ge HO5.out kk hk)
              have hs6 := hB6.size
              have q1 := (hB6.cell (p := ⟨g, 1, none⟩) hgp).trans k1p
              have q3 := (hB6.cell (p := ⟨g, 3, none⟩) hgp).trans k3p
              have q5 : w6.frozen? ⟨g, 1, none⟩ = false := (hB6.frozen (p := ⟨g, 1, none⟩) hgp).trans f1p
              have hcl6 : w6.heap[g]? = some (.cells ([.int .i64 most, .slice oa dl oc, .slice ta dl tc, .int .i64 (last + 1)] : List Value).toArray 29 (0, 0)) := (hB6.block g hgp).trans HCELL2.out
              have r3 : (w6.setCell ⟨g, 1, none⟩ (.slice a6 (dl + 1) c6)).cell? ⟨g, 3, none⟩ = some (.int .i64 (last + 1)) := cell_heap (set_heap hcl6) rfl
              have HB6 := Lib.hid hB6; have HO6 := Lib.hid hown6; have HCL6 := Lib.hid hcl6
              clear hcl6)
           | (refine step_append_x (by rfl) _ _ _ (by rfl) w2.heap.size 3 i3 _ 1 8 Try.underlying27 JI.out JZ0.out JZ1.out JZ2.out rfl (by omega) (.slice a5 (0 + dl) c5) (0 + dl) _ (by simp [Act.eval, Act.put]) (by exact HO5.out)
                  (some ⟨w2.heap.size, 0, none⟩) 1 1 [.int .i64 (last + 1)] (by simp [Act.eval, Act.put]) (by simp) rfl (fun ad had => by cases had; exact World.news_of_block hEL3.out) (by intro u hu; simp at hu; subst hu; rfl) (by unfold maxLen; omega) (by omega) (by have := hB5.size; first | omega | (simp; omega)) ?_
              intro v6 w6 hown6 hgr6 hb6
              obtain ⟨a6, c6, rfl⟩ := own_form hown6
              have hB6 : Below w2.heap.size w2 w6 := (HB5x.out).grown hgr6 (by have := HB5x.out.size; omega) (fun kk hk => own_ge HO5.out kk hk)
              have hs6 := hB6.size
              have q1 := (hB6.cell (p := ⟨g, 1, none⟩) hgp).trans k1p
              have q3 := (hB6.cell (p := ⟨g, 3, none⟩) hgp).trans k3p
              have q5 : w6.frozen? ⟨g, 1, none⟩ = false := (hB6.frozen (p := ⟨g, 1, none⟩) hgp).trans f1p
              have hcl6 : w6.heap[g]? = some (.cells ([.int .i64 most, .slice oa dl oc, .slice ta dl tc, .int .i64 (last + 1)] : List Value).toArray 29 (0, 0)) := (hB6.block g hgp).trans HCELL2.out
              have r3 : (w6.setCell ⟨g, 1, none⟩ (.slice a6 (dl + 1) c6)).cell? ⟨g, 3, none⟩ = some (.int .i64 (last + 1)) := cell_heap (set_heap hcl6) rfl
              have HB6 := Lib.hid hB6; have HO6 := Lib.hid hown6; have HCL6 := Lib.hid hcl6
              clear hcl6))
        all_goals
          (go_wp2_with fail
           go_meet
           exact ⟨_, (Chg.of_below HB6.out).trans (Chg.setCell (S := (· = g)) (Chg.refl _ _) (p := ⟨g, 1, none⟩) (.inl rfl) _), set_heap HCL6.out, own_chg (by simpa using HO6.out) (Chg.setCell (S := (· = g)) (Chg.refl _ _) (p := ⟨g, 1, none⟩) (.inl rfl) _) (fun b hb e => own_no HO6.out (k := b) (by rw [e]; exact noRow_type HCL6.out (by decide)) (by simpa using hb)), _, _, rfl⟩)
      case rest =>
        obtain ⟨v6, hC3, hcell3, hown3, av, cv, rfl⟩ := hcut
        have hC3 := hC3
        have HC3 := Lib.hid hC3; have HCELL3 := Lib.hid hcell3; have HO3 := Lib.hid hown3
        have HT3 := Lib.hid (own_chg HT2.out hC3 (fun b hb e => own_no HT2.out (by rw [e]; exact noRow_type HCELL2.out (by decide)) hb))
        have hs3 := hC3.size
        clear hC3 hcell3 hown3 lA lB lC lD mA mB mC mD bAp bBp bCp bDp k1p k3p f1p hgp
        have hgr := lt_heap HCELL3.out
        have k1r : wc.cell? ⟨g, 2, none⟩ = some (.slice ta dl tc) := cell_heap HCELL3.out rfl
        have k3r : wc.cell? ⟨g, 3, none⟩ = some (.int .i64 (last + 1)) := cell_heap HCELL3.out rfl
        have HNEWSr := Lib.hid (news_row HT3.out)
        have HNNr := Lib.hid (row_none HT3.out).2.2
        have bAr : Below wc.heap.size wc (wc.alloc (.cells #[] 3)) := (Below.refl _ wc).alloc (Nat.le_refl _) _
        have how1r : Hid ((wc.alloc (.cells #[] 3)).ownsRow wc.heap.size 3 1 (.slice (some ⟨wc.heap.size, 0, none⟩) 0 0) 0 []) := World.ownsRow_lit _ _ 0 (Nat.le_refl _) (by unfold maxLen; omega) rfl
        have lA := (bAr.cell (p := ⟨g, 2, none⟩) hgr).trans k1r
        have hlT : Hid (((ts D).map zi).length = dl * 1) := by show _ = _; simp only [List.length_map, ts_len', HDL.out]; omega
        go_wp2_with (at_builtin; refine wpList_append_x rfl _ _ 27 rfl wc.heap.size 3 i3 (.int .i64 0) 1 8 Try.underlying27 JI.out JZ0.out JZ1.out JZ2.out rfl (by decide) _ _ _ rfl how1r.out ta dl tc ((ts D).map zi) rfl HNNr.out hlT.out (HNEWSr.out _ bAr) one_cells (by unfold maxLen; omega) (by omega) bAr.size ?_)
        intro v5 w5 hown5 hgr5 hb5
        obtain ⟨a5, c5, rfl⟩ := own_form hown5
        have hB5 : Below wc.heap.size wc w5 := bAr.grown hgr5 bAr.size (fun kk hk => by simp [Value.ownBlock] at hk; omega)
        have hs5 := hB5.size
        have HO5 := Lib.hid hown5
        clear hgr5 hown5
        go_wp2_with (at_builtin; refine wpList_append_x rfl _ _ 27 rfl wc.heap.size 3 i3 (.int .i64 0) 1 8 Try.underlying27 JI.out JZ0.out JZ1.out JZ2.out rfl (by decide) _ _ _ rfl (HO5.out.alloc _) (some ⟨w5.heap.size, 0, none⟩) 1 1 [.int .i64 t] rfl (by simp) rfl ?d0 ?d2 ?d3 ?d4 ?d5 ?_)
        case d0 => exact fun ad had => by cases had; exact World.news_of_block (cs := #[.int .i64 t]) (t := 3) (fr := (0, 0)) (alloc_new rfl)
        case d2 => intro u hu; simp at hu; subst hu; rfl
        case d3 => unfold maxLen; omega
        case d4 => omega
        case d5 => simp; omega
        intro v6 w6 hown6 hgr6 hb6
        obtain ⟨a6, c6, rfl⟩ := own_form hown6
        have hB6 : Below wc.heap.size wc w6 := (hB5.alloc hs5 _).grown hgr6 (by simp; omega) (fun kk hk => own_ge HO5.out kk hk)
        have HCELL6 : Hid (w6.heap[g]? = some (.cells ([.int .i64 most, .slice av (dl + 1) cv, .slice ta dl tc, .int .i64 (last + 1)] : List Value).toArray 29 (0, 0))) := (hB6.block g hgr).trans HCELL3.out
        have k6 : w6.cell? ⟨g, 2, none⟩ = some (.slice ta dl tc) := cell_heap HCELL6.out rfl
        have f6 : w6.frozen? ⟨g, 2, none⟩ = false := free_heap HCELL6.out
        have hown6' : w6.ownsRow wc.heap.size 3 1 (.slice a6 (dl + 1) c6) (dl + 1) ((ts D).map zi ++ [.int .i64 t]) := by simpa using hown6
        have hcell7 : (w6.setCell ⟨g, 2, none⟩ (.slice a6 (dl + 1) c6)).heap[g]? = some (.cells ([.int .i64 most, .slice av (dl + 1) cv, .slice a6 (dl + 1) c6, .int .i64 (last + 1)] : List Value).toArray 29 (0, 0)) := set_heap HCELL6.out
        have hC67 : Chg (· = g) w6 (w6.setCell ⟨g, 2, none⟩ (.slice a6 (dl + 1) c6)) := Chg.setCell (S := (· = g)) (Chg.refl _ _) (p := ⟨g, 2, none⟩) (.inl rfl) _
        have k7 : (w6.setCell ⟨g, 2, none⟩ (.slice a6 (dl + 1) c6)).cell? ⟨g, 3, none⟩ = some (.int .i64 (last + 1)) := cell_heap hcell7 rfl
        have HCF : Hid (Chg (· = g) w (w6.setCell ⟨g, 2, none⟩ (.slice a6 (dl + 1) c6))) := ((hC2.out.trans HC3.out).trans (Chg.of_below hB6)).trans hC67
        have hho7 := own_chg (own_below HO3.out hB6) hC67 (fun b hb e => own_no (own_below HO3.out hB6) (k := b) (by rw [e]; exact noRow_type HCELL6.out (by decide)) hb)
        have htm7 := own_chg hown6' hC67 (fun b hb e => own_no hown6' (k := b) (by rw [e]; exact noRow_type HCELL6.out (by decide)) hb)
        have HFIN : Hid (RefB B (w6.setCell ⟨g, 2, none⟩ (.slice a6 (dl + 1) c6)) g most (last + 1) (D ++ [(last + 1, t)]) (.slice av (dl + 1) cv) (.slice a6 (dl + 1) c6)) := by
          have hlnD : (D ++ [(last + 1, t)]).length = dl + 1 := by rw [List.length_append, HDL.out]; rfl
          refine ⟨hcell7, ?_, ?_, HR.out.bg, HR.out.pure.opened ht0 ht1 hl⟩
          · rw [hlnD, show (hs (D ++ [(last + 1, t)])).map zi = (hs D).map zi ++ [.int .i64 (last + 1)] by simp [hs]]
            exact own_base hho7 (by omega)
          · rw [hlnD, show (ts (D ++ [(last + 1, t)])).map zi = (ts D).map zi ++ [.int .i64 t] by simp [ts]]
            exact own_base htm7 (by omega)
        clear hgr6 hown6 hown6' hcell7 hC67 hho7 htm7 hB6
        go_wp2
        go_ret2
        exact ⟨rfl, HCF.out, _, _, HFIN.out⟩
end Go.Proofs.Ytfmjkpobphjgkaa
