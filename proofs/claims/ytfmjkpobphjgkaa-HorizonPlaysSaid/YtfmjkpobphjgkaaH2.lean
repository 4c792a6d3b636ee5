import Derived.Test.YtfmjkpobphjgkaaH1
namespace Go.Proofs.Ytfmjkpobphjgkaa
open Go.RowKit
open BigFrame Lib
open Go.ChangeMaps (setBlock)

def ocode (most : Int) (n : Nat) (t : Int) : Int := if t < 0 ∨ 1099511627776 < t then 1 else if most ≤ (n : Int) then 6 else 0
def omore (most last : Int) (D : BD) (t : Int) : BD := if ocode most D.length t = 0 then D ++ [(last + 1, t)] else D
def olast (most last : Int) (n : Nat) (t : Int) : Int := if ocode most n t = 0 then last + 1 else last

theorem open_arg (p : Option Addr) (t : Int) (w : World) (ht : t < 0 ∨ 1099511627776 < t) : Calls Try.prog 10 #[.pointer p, .int .i64 t] w fun e w' => e = .returned (.tuple #[.int .i64 0, .int .i64 1]) ∧ w = w' := by
  by_cases h1 : t < 0
  · go_enter Try.func10, Try.ntmps10
    go_wp2
    go_ret2
    exact ⟨rfl, rfl⟩
  · have h2 : 1099511627776 < t := by omega
    clear ht
    go_enter Try.func10, Try.ntmps10
    go_wp2
    go_ret2
    exact ⟨rfl, rfl⟩
theorem open_nil (t : Int) (w : World) (h0 : 0 ≤ t) (h1 : t ≤ 1099511627776) : Calls Try.prog 10 #[.pointer none, .int .i64 t] w fun e w' => e = .returned (.tuple #[.int .i64 0, .int .i64 6]) ∧ w = w' := by
  have t1 : decide (t < 0) = false := by simp; omega
  have t2 : decide (1099511627776 < t) = false := by simp; omega
  go_enter Try.func10, Try.ntmps10
  go_wp2_with fail
  refine (count_nil _).mono ?_
  rintro e w' ⟨rfl, rfl⟩
  go_wp2_with fail
  refine (room_nil _).mono ?_
  rintro e w' ⟨rfl, rfl⟩
  go_wp2
  go_ret2
  exact ⟨rfl, rfl⟩

theorem mput_bm {last : Int} {D : BD} (hP : BP last D) (t : Int) : mput (bm D) (last + 1) (.int .i64 t) = bm (D ++ [(last + 1, t)]) := by
  rw [mput_none]
  · simp [bm]
  · rw [List.findIdx?_eq_none_iff]
    intro p hp
    obtain ⟨q, hq, rfl⟩ := List.mem_map.1 hp
    have := hP.top q hq
    simp; omega
theorem BP.opened {last : Int} {D : BD} (hP : BP last D) {t : Int} (h0 : 0 ≤ t) (h1 : t ≤ 1099511627776) (hl : last < 1000000) : BP (last + 1) (D ++ [(last + 1, t)]) := by
  have := hP.l0
  refine ⟨by omega, by omega, ?_, ?_, ?_⟩
  · simp only [hs, List.map_append, List.map_cons, List.map_nil]
    rw [List.pairwise_append]
    refine ⟨hP.rise, List.pairwise_singleton _ _, fun a ha b hb => ?_⟩
    simp at hb; subst hb
    obtain ⟨q, hq, rfl⟩ := List.mem_map.1 ha
    have := hP.top q hq
    omega
  · intro p hp
    rcases List.mem_append.1 hp with hp | hp
    · have := hP.top p hp; omega
    · simp at hp; subst hp; constructor <;> simp <;> omega
  · intro p hp
    rcases List.mem_append.1 hp with hp | hp
    · exact hP.tim p hp
    · simp at hp; subst hp; exact ⟨h0, h1⟩

set_option maxRecDepth 100000 in
theorem open_any {g r : Nat} {most last : Int} {D : BD} (t : Int) (w : World) (hM : BookAt w g r most last D) (hl : last < 1000000) :
    Calls Try.prog 10 #[.pointer (some ⟨g, 0, none⟩), .int .i64 t] w fun e w' => e = .returned (.tuple #[.int .i64 (if ocode most D.length t = 0 then last + 1 else 0), .int .i64 (ocode most D.length t)]) ∧
      Chg (fun k => k = g ∨ k = r) w w' ∧ BookAt w' g r most (olast most last D.length t) (omore most last D t) := by
  by_cases ht : t < 0 ∨ 1099511627776 < t
  · have hc : ocode most D.length t = 1 := by unfold ocode; rw [if_pos ht]
    unfold omore olast
    rw [hc]
    refine (open_arg _ t w ht).mono ?_
    rintro e w' ⟨rfl, rfl⟩
    exact ⟨rfl, Chg.refl _ _, hM⟩
  · have CO := Lib.hid (count_any w hM)
    have RO := Lib.hid (fun W (hW : Below w.heap.size w W) => room_any W (hM.below hW))
    have t1 : decide (t < 0) = false := by simp; omega
    have t2 : decide (1099511627776 < t) = false := by simp; omega
    have ht0 : 0 ≤ t := by omega
    have ht1 : t ≤ 1099511627776 := by omega
    have HM := Lib.hid hM
    have l0 := hM.pure.l0
    by_cases hf : most ≤ (D.length : Int)
    · have hc : Hid (ocode most D.length t = 6) := by show _ = _; unfold ocode; rw [if_neg ht, if_pos hf]
      unfold omore olast
      rw [hc.out]
      clear ht hM
      generalize D.length = n at *
      go_enter Try.func10, Try.ntmps10
      go_wp2_with fail
      refine CO.out.mono ?_
      rintro e w1 ⟨rfl, hB1⟩
      go_wp2_with fail
      refine (RO.out _ hB1).mono ?_
      rintro e w' ⟨rfl, rfl⟩
      go_wp2
      go_ret2
      exact ⟨rfl, Chg.of_below hB1, HM.out.below hB1⟩
    · have hc : Hid (ocode most D.length t = 0) := by show _ = _; unfold ocode; rw [if_neg ht, if_neg hf]
      unfold omore olast
      rw [hc.out]
      have t3 : decide (most ≤ (D.length : Int)) = false := by simpa using hf
      have hf2 : (D.length : Int) < most := by omega
      have hgs := lt_heap hM.cell
      have hrs := hM.map.lt
      have hne := hM.ne
      clear ht hM hf
      generalize D.length = n at *
      go_enter Try.func10, Try.ntmps10
      go_wp2_with fail
      refine CO.out.mono ?_
      rintro e w1 ⟨rfl, hB1⟩
      go_wp2_with fail
      refine (RO.out _ hB1).mono ?_
      rintro e w' ⟨rfl, rfl⟩
      have hM1 := Lib.hid (HM.out.below hB1)
      have c1 := hM1.out.c1
      have hcell := Lib.hid (set_heap (o := 1) (u := .int .i64 (last + 1)) hM1.out.cell)
      have hfz : w1.frozen? ⟨g, 1, none⟩ = false := free_heap hM1.out.cell
      have hC2 : Chg (fun k => k = g ∨ k = r) w1 (w1.setCell ⟨g, 1, none⟩ (.int .i64 (last + 1))) := (Chg.refl _ _).setCell (p := ⟨g, 1, none⟩) (.inl (.inl rfl)) _
      have hm2 := (hM1.out.map.of_eq (w' := w1.setCell ⟨g, 1, none⟩ (.int .i64 (last + 1))) (set_heap_ne (fun e => hne e.symm)))
      go_wp2_with fail
      have d1 : (w1.setCell ⟨g, 1, none⟩ (.int .i64 (last + 1))).cell? ⟨g, 1, none⟩ = some (.int .i64 (last + 1)) := cell_heap hcell.out rfl
      have d2 : (w1.setCell ⟨g, 1, none⟩ (.int .i64 (last + 1))).cell? ⟨g, 2, none⟩ = some (.map (some r)) := cell_heap hcell.out rfl
      generalize hw2 : w1.setCell ⟨g, 1, none⟩ (.int .i64 (last + 1)) = w2 at *
      have hm2d : MapIs w2.drew r (bm D) := hm2.of_eq rfl
      obtain ⟨o, ho, hm3⟩ := map_update (P := Try.prog) (k := last + 1) (v := .int .i64 t) hm2d Try.underlying48 Try.underlying3
      have HM3 := Lib.hid hm3
      have hcell' := hcell.out
      have hc3 := Lib.hid ((setBlock_other (w := w2.drew) (o := o) hne).trans hcell')
      have d3 : (setBlock w2.drew r o).cell? ⟨g, 1, none⟩ = some (.int .i64 (last + 1)) := cell_heap hc3.out rfl
      have hC3 : Chg (fun k => k = g ∨ k = r) w2 (setBlock w2.drew r o) := ((Chg.refl _ w2).drew).trans ((setBlock_chg o).mono (fun _ _ h => .inr h))
      clear hw2 hm3 hcell' hm2 hm2d
      go_region
      go_wp2
      go_ret2
      refine ⟨rfl, (Chg.of_below hB1).trans (hC2.trans hC3), hc3.out, ?_, HM.out.pure.opened ht0 ht1 hl⟩
      have := HM3.out
      rw [mput_bm HM.out.pure t] at this
      exact this
end Go.Proofs.Ytfmjkpobphjgkaa
