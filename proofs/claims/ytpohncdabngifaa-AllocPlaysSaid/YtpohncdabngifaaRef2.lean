import Derived.Test.YtpohncdabngifaaRef
import Derived.Test.YtpohncdabngifaaPlain2
namespace Go.Proofs.Ytpohncdabngifaa
open Go.RowKit
open BigFrame

/-- n ints are read where the slice leads -/
def RdInts (w : World) (a : Option Addr) (l : List Nat) : Prop :=
  ∀ (i x : Nat), l[i]? = some x → ∃ b o, a = some ⟨b, o, none⟩ ∧ b < w.heap.size ∧ w.cell? ⟨b, o + i, none⟩ = some (.int .i64 (x : Int))
theorem RdInts.below {w w' : World} {a : Option Addr} {l : List Nat} (h : RdInts w a l) (hB : Below w.heap.size w w') : RdInts w' a l := fun i x hi => by
  obtain ⟨b, o, h1, h2, h3⟩ := h i x hi
  exact ⟨b, o, h1, Nat.lt_of_lt_of_le h2 hB.size, (hB.cell (p := ⟨b, o + i, none⟩) h2).trans h3⟩
theorem rd_of_own {w : World} {B n c : Nat} {a : Option Addr} {l : List Nat} (h : w.ownsRow B 3 1 (.slice a n c) l.length (ints l)) : n = l.length ∧ RdInts w a l := by
  rcases h.2 with ⟨h1, h2⟩ | ⟨g, cap, cur, h1, h2, h3, h4, h5, h6, h7⟩
  · simp at h1
    obtain ⟨rfl, rfl, rfl⟩ := h1
    refine ⟨h2.symm, fun i x hi => ?_⟩
    rw [List.eq_nil_of_length_eq_zero h2] at hi; simp at hi
  · simp at h1
    obtain ⟨rfl, rfl, rfl⟩ := h1
    refine ⟨rfl, fun i x hi => ⟨g, 0, rfl, lt_heap h3, ?_⟩⟩
    have hl : i < l.length := by
      rcases Nat.lt_or_ge i l.length with h | h
      · exact h
      · rw [List.getElem?_eq_none h] at hi; cases hi
    rw [Nat.zero_add, h.cellAt i (by omega)]
    simp [ints, hi]

set_option maxHeartbeats 400000 in
/-- two lists of one content -/
theorem ints_same (a1 a2 : Option Addr) (c1 c2 : Nat) (l : List Nat) (w : World) (hn : l.length ≤ 1000000) (h1 : RdInts w a1 l) (h2 : RdInts w a2 l) :
    Calls Try.prog 21 #[.slice a1 l.length c1, .slice a2 l.length c2] w fun e w' => e = .returned (.bool true) ∧ Below w.heap.size w w' := by
  have t1 : ((l.length : Int) != (l.length : Int)) = false := by simp
  have H1 := Lib.hid h1; have H2 := Lib.hid h2; clear h1 h2
  generalize hm : l.length = n at *
  have HM := Lib.hid hm; clear hm
  go_enter Try.func21, Try.ntmps21
  go_wp2_with fail
  go_loopw [5] (fun iv wr => ∃ i : Nat, i ≤ n ∧ iv = .int .i64 i ∧ Below w.heap.size w wr) (fun iv _ => n - (intOf iv).toNat)
  case atStart => exact ⟨0, Nat.zero_le _, rfl, Below.refl _ _⟩
  case round =>
    obtain ⟨i, hi, rfl, hB⟩ := hrel
    by_cases hlt : i < n
    · have hx : l[i]? = some (l[i]'(by rw [HM.out]; exact hlt)) := List.getElem?_eq_getElem _
      generalize l[i]'(by rw [HM.out]; exact hlt) = x at hx
      obtain ⟨b1, o1, rfl, e1, d1⟩ := H1.out.below hB i x hx
      obtain ⟨b2, o2, rfl, e2, d2⟩ := H2.out.below hB i x hx
      have t2 : ((x : Int) != (x : Int)) = false := by simp
      clear hx
      go_wp2_with fail
      go_quiet (fail)
      go_wp2
      go_roundw
      case rel => exact ⟨i + 1, by omega, by go_num, below_drewN hB _⟩
      case measure => simp [intOf]; omega
    · go_wp2
      go_ret
      exact ⟨rfl, hB⟩

theorem newr_bad (z s : Int) (w : World) (hbad : z < 1 ∨ 64 < z ∨ s < 0 ∨ z < s) : Calls Try.prog 15 #[.int .i64 z, .int .i64 s] w fun e w' => e = .returned (.tuple #[.pointer none, .int .i64 1]) ∧ w = w' := by
  have hc : z < 1 ∨ (1 ≤ z ∧ 64 < z) ∨ (1 ≤ z ∧ z ≤ 64 ∧ s < 0) ∨ (1 ≤ z ∧ z ≤ 64 ∧ 0 ≤ s ∧ z < s) := by omega
  clear hbad
  rcases hc with h1 | ⟨h1, h2⟩ | ⟨h1, h2, h3⟩ | ⟨h1, h2, h3, h4⟩
  all_goals
    go_enter Try.func15, Try.ntmps15
    go_wp2
    go_ret2
    exact ⟨rfl, rfl⟩

/-- the first i of z set free -/
def gz (z i : Nat) : List Z := (List.range z).map fun j => (decide (¬ j < i), 0)
theorem gz_len (z i : Nat) : (gz z i).length = z := by simp [gz]
theorem gz_succ (z i : Nat) : (gz z i).set i (false, 0) = gz z (i + 1) := by
  apply List.ext_getElem?
  intro j
  by_cases hj : j < z
  · rw [List.getElem?_set]
    by_cases e : i = j
    · subst e
      rw [if_pos rfl, if_pos (by rw [gz_len]; exact hj)]
      simp [gz, hj]
    · rw [if_neg e]
      simp only [gz, List.getElem?_map, List.getElem?_range hj, Option.map_some]
      by_cases h2 : j < i
      · rw [show decide (¬ j < i) = false by simp [h2], show decide (¬ j < i + 1) = false by simp; omega]
      · rw [show decide (¬ j < i) = true by simp [h2], show decide (¬ j < i + 1) = true by simp; omega]
  · rw [List.getElem?_eq_none (by simpa [gz] using Nat.le_of_not_lt hj), List.getElem?_eq_none (by simpa [gz] using Nat.le_of_not_lt hj)]
theorem gz_zero (z : Nat) : gz z 0 = List.replicate z (true, 0) := by
  apply List.ext_getElem?
  intro j
  by_cases h : j < z <;> simp [gz, h]
theorem gz_all (z : Nat) : gz z z = List.replicate z (false, 0) := by
  apply List.ext_getElem?
  intro j
  by_cases h : j < z <;> simp [gz, h]

set_option maxHeartbeats 1000000 in
theorem newr_ok (z : Nat) (s : Int) (w : World) (h1 : 1 ≤ z) (h2 : z ≤ 64) (h3 : 0 ≤ s) (h4 : s ≤ z) : Calls Try.prog 15 #[.int .i64 z, .int .i64 s] w fun e w' =>
    ∃ b1 b2 : Nat, w.heap.size ≤ b1 ∧ w.heap.size ≤ b2 ∧ e = .returned (.tuple #[.pointer (some ⟨w.heap.size + 2, 0, none⟩), .int .i64 0]) ∧ RefAt w' (w.heap.size + 2) b1 b2 (List.replicate z (false, 0)) s ∧ Below w.heap.size w w' := by
  have hm1 : ∀ W : World, (Instr.makeSlice 28 (.int .i64 z) (.int .i64 z)).run Try.prog W = .ok (.slice (some ⟨W.heap.size, 0, none⟩) z z) (W.alloc (.cells ((List.replicate z ()).flatMap fun _ => [Value.bool false]).toArray 4)) :=
    make_run (fun _ : Unit => [Value.bool false]) () Try.underlying28 (show (Try.prog.info? 4).map (fun i => (i.zero, i.size, i.bytes)) = some (some (.bool false), 1, 1) by kernel_rfl) rfl rfl (by omega) z (by omega) (by omega)
  have hm2 : ∀ W : World, (Instr.makeSlice 44 (.int .i64 z) (.int .i64 z)).run Try.prog W = .ok (.slice (some ⟨W.heap.size, 0, none⟩) z z) (W.alloc (.cells ((List.replicate z ()).flatMap fun _ => [Value.int .i64 0]).toArray 3)) :=
    make_run (fun _ : Unit => [Value.int .i64 0]) () Try.underlying44 Try.info3 rfl rfl (by omega) z (by omega) (by omega)
  generalize hx1 : ((List.replicate z ()).flatMap fun _ => [Value.bool false]) = X1 at hm1
  generalize hx2 : ((List.replicate z ()).flatMap fun _ => [Value.int .i64 0]) = X2 at hm2
  have HX1 : Hid (X1 = isf (gz z 0)) := by
    show X1 = _
    rw [← hx1, gz_zero]
    clear hm1 hm2 hx1 hx2 h1 h2 h4
    induction z with
    | zero => rfl
    | succ n ih => rw [List.replicate_succ, List.replicate_succ, List.flatMap_cons, ih]; rfl
  have HX2 : Hid (X2 = wrs (gz z 0)) := by
    show X2 = _
    rw [← hx2, gz_zero]
    clear hm1 hm2 hx1 hx2 h1 h2 h4 HX1
    induction z with
    | zero => rfl
    | succ n ih => rw [List.replicate_succ, List.replicate_succ, List.flatMap_cons, ih]; rfl
  clear hx1 hx2
  have t1 : decide ((z : Int) < 1) = false := by simp; omega
  have t2 : decide (64 < (z : Int)) = false := by simp; omega
  have t3 : decide (s < 0) = false := by simp; omega
  have t4 : decide ((z : Int) < s) = false := by simp; omega
  go_enter Try.func15, Try.ntmps15
  go_wp2_with fail
  go_region
  · go_wp2_with fail
    go_loopw [7] (fun iv wr => ∃ i : Nat, i ≤ z ∧ iv = .int .i64 i ∧ Below w.heap.size w wr ∧ RefAt wr (w.heap.size + 2) w.heap.size (w.heap.size + 1) (gz z i) s) (fun iv _ => z - (intOf iv).toNat)
    case atStart =>
      refine ⟨0, Nat.zero_le _, rfl, ((((Below.refl _ _).alloc (Nat.le_refl _) _).alloc (by simp) _).alloc (by simp; omega) _).drew, ?_, ?_, ?_, by omega, by omega, by omega, by rw [gz_len]; exact h2⟩
      · rw [gz_len]; show (World.alloc _ _).heap[_]? = _; rw [alloc_new (by simp)]
      · rw [← HX1.out]; show (World.alloc _ _).heap[_]? = _; rw [alloc_heap (by simp; try omega)]; rw [alloc_heap (by simp), alloc_new rfl]
      · rw [← HX2.out]; show (World.alloc _ _).heap[_]? = _; rw [alloc_heap (by simp; try omega)]; rw [alloc_new (by simp)]
    case round =>
      clear hm1 hm2 HX1 HX2 t1 t2 t3 t4
      obtain ⟨i, hi, rfl, hB, hA⟩ := hrel
      by_cases hlt : i < z
      · have d0 : wr.cell? ⟨w.heap.size + 2, 0, none⟩ = some (.slice (some ⟨w.heap.size, 0, none⟩) z z) := by have := hA.hg; rw [gz_len] at this; exact cell_heap this rfl
        have d1 := cell_heap hA.h1 (isf_get (gz z i) i (by rw [gz_len]; exact hlt))
        have f1 : wr.frozen? ⟨w.heap.size, i, none⟩ = false := free_heap hA.h1
        have hA2 : RefAt (wr.setCell ⟨w.heap.size, i, none⟩ (.bool true)) (w.heap.size + 2) w.heap.size (w.heap.size + 1) (gz z (i + 1)) s := by
          refine ⟨?_, ?_, ?_, hA.n1, hA.n2, hA.n3, by rw [gz_len]; exact h2⟩
          · rw [set_heap_ne hA.n1.symm, hA.hg, gz_len, gz_len]
          · rw [set_heap hA.h1, ← gz_succ]; exact congrArg (fun l : List Value => some (Obj.cells l.toArray 4 (0, 0))) (isf_set (gz z i) i false 0)
          · have : wear (gz z i) i = 0 := by simp [wear, gz, List.getD, hlt]
            rw [set_heap_ne hA.n3.symm, hA.h2, ← gz_succ, ← this, wrs_own]
        have HA := Lib.hid hA2
        have HB := Lib.hid (hB.setCell (p := ⟨w.heap.size, i, none⟩) (by show w.heap.size ≤ w.heap.size; omega) (.bool true))
        clear hA hA2 hB
        go_wp2
        go_roundw
        case rel => exact ⟨i + 1, by omega, by go_num, HB.out, HA.out⟩
        case measure => simp [intOf]; omega
      · have hiz : i = z := by omega
        subst hiz
        go_wp2
        go_ret2
        exact ⟨w.heap.size, (w.heap.size + 1), by omega, by omega, rfl, by rw [← gz_all]; exact hA, hB⟩
  · go_wp2_with fail
    go_loopw [7] (fun iv wr => ∃ i : Nat, i ≤ z ∧ iv = .int .i64 i ∧ Below w.heap.size w wr ∧ RefAt wr (w.heap.size + 2) (w.heap.size + 1) w.heap.size (gz z i) s) (fun iv _ => z - (intOf iv).toNat)
    case atStart =>
      refine ⟨0, Nat.zero_le _, rfl, ((((Below.refl _ _).alloc (Nat.le_refl _) _).alloc (by simp) _).alloc (by simp; omega) _).drew, ?_, ?_, ?_, by omega, by omega, by omega, by rw [gz_len]; exact h2⟩
      · rw [gz_len]; show (World.alloc _ _).heap[_]? = _; rw [alloc_new (by simp)]
      · rw [← HX1.out]; show (World.alloc _ _).heap[_]? = _; rw [alloc_heap (by simp; try omega)]; rw [alloc_new (by simp)]
      · rw [← HX2.out]; show (World.alloc _ _).heap[_]? = _; rw [alloc_heap (by simp; try omega)]; rw [alloc_heap (by simp), alloc_new rfl]
    case round =>
      clear hm1 hm2 HX1 HX2 t1 t2 t3 t4
      obtain ⟨i, hi, rfl, hB, hA⟩ := hrel
      by_cases hlt : i < z
      · have d0 : wr.cell? ⟨w.heap.size + 2, 0, none⟩ = some (.slice (some ⟨(w.heap.size + 1), 0, none⟩) z z) := by have := hA.hg; rw [gz_len] at this; exact cell_heap this rfl
        have d1 := cell_heap hA.h1 (isf_get (gz z i) i (by rw [gz_len]; exact hlt))
        have f1 : wr.frozen? ⟨(w.heap.size + 1), i, none⟩ = false := free_heap hA.h1
        have hA2 : RefAt (wr.setCell ⟨(w.heap.size + 1), i, none⟩ (.bool true)) (w.heap.size + 2) (w.heap.size + 1) w.heap.size (gz z (i + 1)) s := by
          refine ⟨?_, ?_, ?_, hA.n1, hA.n2, hA.n3, by rw [gz_len]; exact h2⟩
          · rw [set_heap_ne hA.n1.symm, hA.hg, gz_len, gz_len]
          · rw [set_heap hA.h1, ← gz_succ]; exact congrArg (fun l : List Value => some (Obj.cells l.toArray 4 (0, 0))) (isf_set (gz z i) i false 0)
          · have : wear (gz z i) i = 0 := by simp [wear, gz, List.getD, hlt]
            rw [set_heap_ne hA.n3.symm, hA.h2, ← gz_succ, ← this, wrs_own]
        have HA := Lib.hid hA2
        have HB := Lib.hid (hB.setCell (p := ⟨(w.heap.size + 1), i, none⟩) (by show w.heap.size ≤ (w.heap.size + 1); omega) (.bool true))
        clear hA hA2 hB
        go_wp2
        go_roundw
        case rel => exact ⟨i + 1, by omega, by go_num, HB.out, HA.out⟩
        case measure => simp [intOf]; omega
      · have hiz : i = z := by omega
        subst hiz
        go_wp2
        go_ret2
        exact ⟨(w.heap.size + 1), w.heap.size, by omega, by omega, rfl, by rw [← gz_all]; exact hA, hB⟩
end Go.Proofs.Ytpohncdabngifaa
