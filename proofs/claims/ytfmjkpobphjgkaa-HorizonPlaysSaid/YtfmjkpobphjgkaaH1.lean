import Derived.BigRegion
import Derived.Test.YtfmjkpobphjgkaaSk
namespace Go.Proofs.Ytfmjkpobphjgkaa
open Go.RowKit
open BigFrame Lib
open Go.ChangeMaps (setBlock)

theorem run_mkmap {P : Program} (t : TypeId) (w : World) : (Instr.makeMap t none).run P w = .ok (.map (some w.heap.size)) (w.alloc (.map #[] 0)) := rfl
theorem below_chg' {B : Nat} {S : Nat → Prop} {a b : World} (h : Chg S a b) (hB : B ≤ a.heap.size) (hs : ∀ k, S k → B ≤ k) : Below B a b :=
  h.below hB (fun k hk hS => by have := hs k hS; omega)

/-- handles and times, by rising handle -/
abbrev BD := List (Int × Int)
def bm (D : BD) : IM := D.map fun p => (p.1, .int .i64 p.2)
def hs (D : BD) : List Int := D.map (·.1)
def tm (D : BD) (h : Int) : Option Int := (D.find? fun p => p.1 == h).map (·.2)
theorem mget_bm (D : BD) (h : Int) : mget (bm D) h = (tm D h).map (Value.int .i64) := by
  unfold mget bm tm
  rw [List.find?_map]
  cases hf : D.find? (fun p => p.1 == h) with
  | none => simp [Function.comp_def, hf]
  | some p => simp [Function.comp_def, hf]
theorem keys_bm (D : BD) : keysOf (bm D) = hs D := by simp [keysOf, bm, hs, Function.comp_def]
theorem len_bm (D : BD) : (bm D).length = D.length := by simp [bm]

structure BP (last : Int) (D : BD) : Prop where
  l0 : 0 ≤ last
  l1 : last ≤ 1000000
  rise : (hs D).Pairwise (· < ·)
  top : ∀ p ∈ D, 1 ≤ p.1 ∧ p.1 ≤ last
  tim : ∀ p ∈ D, 0 ≤ p.2 ∧ p.2 ≤ 1099511627776
structure BookAt (w : World) (g r : Nat) (most last : Int) (D : BD) : Prop where
  cell : w.heap[g]? = some (.cells ([.int .i64 most, .int .i64 last, .map (some r)] : List Value).toArray 50 (0, 0))
  map : MapIs w r (bm D)
  pure : BP last D

theorem rise_len : ∀ (l : List Int) (lo hi : Int), l.Pairwise (· < ·) → (∀ x ∈ l, lo < x ∧ x ≤ hi) → lo ≤ hi → (l.length : Int) ≤ hi - lo
  | [], lo, hi, _, _, h => by simp; omega
  | x :: l, lo, hi, hp, hb, h => by
    rw [List.pairwise_cons] at hp
    have hx := hb x (by simp)
    have := rise_len l x hi hp.2 (fun y hy => ⟨hp.1 y hy, (hb y (by simp [hy])).2⟩) hx.2
    simp only [List.length_cons]
    omega
theorem BP.len {last : Int} {D : BD} (h : BP last D) : (D.length : Int) ≤ last := by
  have := rise_len (hs D) 0 last h.rise (fun x hx => by
    obtain ⟨p, hp, rfl⟩ := List.mem_map.1 hx
    have := h.top p hp; omega) h.l0
  simp [hs] at this; omega
theorem BP.sorted {last : Int} {D : BD} (h : BP last D) : sortI (hs D) = hs D := by
  unfold sortI
  apply List.mergeSort_of_pairwise
  exact h.rise.imp (fun h => by simpa using Int.le_of_lt h)
theorem BookAt.chg {S : Nat → Prop} {w w' : World} {g r : Nat} {most last : Int} {D : BD} (h : BookAt w g r most last D) (hC : Chg S w w') (hg : ¬ S g) (hr : ¬ S r) : BookAt w' g r most last D :=
  ⟨(hC.block g (lt_heap h.cell) hg).trans h.cell, h.map.of_eq (hC.block r h.map.lt hr), h.pure⟩
theorem BookAt.below {w w' : World} {g r : Nat} {most last : Int} {D : BD} (h : BookAt w g r most last D) (hB : Below w.heap.size w w') : BookAt w' g r most last D :=
  h.chg (S := fun _ => False) (Chg.of_below hB) id id
theorem BookAt.ne {w : World} {g r : Nat} {most last : Int} {D : BD} (h : BookAt w g r most last D) : g ≠ r := by
  rintro rfl
  obtain ⟨es, cl, hb, _⟩ := h.map
  rw [h.cell] at hb; cases hb
theorem BookAt.c0 {w : World} {g r : Nat} {most last : Int} {D : BD} (h : BookAt w g r most last D) : w.cell? ⟨g, 0, none⟩ = some (.int .i64 most) := cell_heap h.cell rfl
theorem BookAt.c1 {w : World} {g r : Nat} {most last : Int} {D : BD} (h : BookAt w g r most last D) : w.cell? ⟨g, 1, none⟩ = some (.int .i64 last) := cell_heap h.cell rfl
theorem BookAt.c2 {w : World} {g r : Nat} {most last : Int} {D : BD} (h : BookAt w g r most last D) : w.cell? ⟨g, 2, none⟩ = some (.map (some r)) := cell_heap h.cell rfl

theorem new_any (most : Int) (w : World) : Calls Try.prog 9 #[.int .i64 most] w fun e w' =>
    e = .returned (.pointer (some ⟨w.heap.size + 1, 0, none⟩)) ∧ Below w.heap.size w w' ∧ BookAt w' (w.heap.size + 1) w.heap.size most 0 [] := by
  go_enter Try.func9, Try.ntmps9
  go_wp2_with fail
  rw [run_mkmap]
  go_wp2
  go_ret
  refine ⟨by simp, ((Below.refl _ w).alloc (Nat.le_refl _) _).alloc (by simp) _, ?_, (MapIs.new w).of_eq (alloc_heap (by simp)), ⟨by omega, by omega, List.Pairwise.nil, fun p hp => by simp at hp, fun p hp => by simp at hp⟩⟩
  rw [alloc_new (by simp)]

theorem list_nil (w : World) : Calls Try.prog 20 #[.pointer none] w fun e w' => e = .returned (.slice none 0 0) ∧ w = w' := by
  go_enter Try.func20, Try.ntmps20
  go_wp2
  go_ret
  exact ⟨rfl, rfl⟩
theorem list_any {g r : Nat} {most last : Int} {D : BD} (w : World) (hM : BookAt w g r most last D) :
    Calls Try.prog 20 #[.pointer (some ⟨g, 0, none⟩)] w fun e w' => ∃ a c, e = .returned (.slice a D.length c) ∧ Below w.heap.size w w' ∧ w'.ownsRow w.heap.size 3 1 (.slice a D.length c) D.length ((hs D).map (Value.int .i64)) := by
  have c2 := hM.c2
  have hl := hM.pure.len
  have hl1 := hM.pure.l1
  have hB1 : Below w.heap.size w (w.alloc (.cells #[.map (some r)] 48)) := (Below.refl _ w).alloc (Nat.le_refl _) _
  have hK : ∀ x ∈ keysOf (bm D), -9223372036854775808 ≤ x ∧ x ≤ 9223372036854775807 := by
    intro x hx
    rw [keys_bm] at hx
    obtain ⟨p, hp, rfl⟩ := List.mem_map.1 hx
    have := hM.pure.top p hp
    omega
  have hS := sorted_any r w.heap.size (bm D) (w.alloc (.cells #[.map (some r)] 48)) (hM.map.of_eq (alloc_heap hM.map.lt)) (cell_heap (c := [.map (some r)]) (alloc_new rfl) rfl) hK (by rw [len_bm]; omega)
  rw [keys_bm, hM.pure.sorted, len_bm] at hS
  have HS := Lib.hid hS
  clear hS hK hM
  go_enter Try.func20, Try.ntmps20
  go_wp2_with fail
  refine (keys_any r w).mono ?_
  rintro e w1 ⟨rfl, rfl⟩
  go_wp2_with fail
  refine HS.out.mono ?_
  rintro e w2 ⟨a, c, rfl, hB2, hown⟩
  have HO := Lib.hid hown; clear hown
  go_wp2
  go_ret
  refine ⟨a, c, rfl, hB1.trans (hB2.mono (by simp)), ?_⟩
  have h := HO.out
  refine ⟨h.1, ?_⟩
  rcases h.2 with h1 | ⟨g', cap, cur, h1, h2, h3⟩
  · exact .inl h1
  · exact .inr ⟨g', cap, cur, h1, by have : w.heap.size + 1 ≤ g' := by simpa using h2
                                     omega, h3⟩
theorem count_nil (w : World) : Calls Try.prog 18 #[.pointer none] w fun e w' => e = .returned (.int .i64 0) ∧ w = w' := by
  go_enter Try.func18, Try.ntmps18
  go_wp2_with (go_at_call 20; refine (list_nil _).mono ?_; rintro e w' ⟨rfl, rfl⟩)
  go_ret
  exact ⟨rfl, rfl⟩
theorem count_any {g r : Nat} {most last : Int} {D : BD} (w : World) (hM : BookAt w g r most last D) :
    Calls Try.prog 18 #[.pointer (some ⟨g, 0, none⟩)] w fun e w' => e = .returned (.int .i64 D.length) ∧ Below w.heap.size w w' := by
  have HL := Lib.hid (list_any w hM)
  clear hM
  go_enter Try.func18, Try.ntmps18
  go_wp2_with fail
  refine HL.out.mono ?_
  rintro e w2 ⟨a, c, rfl, hB2, hown⟩
  clear hown
  go_wp2
  go_ret
  exact ⟨rfl, hB2⟩
theorem room_nil (w : World) : Calls Try.prog 22 #[.pointer none] w fun e w' => e = .returned (.int .i64 0) ∧ w = w' := by
  go_enter Try.func22, Try.ntmps22
  go_wp2
  go_ret
  exact ⟨rfl, rfl⟩
theorem room_any {g r : Nat} {most last : Int} {D : BD} (w : World) (hM : BookAt w g r most last D) :
    Calls Try.prog 22 #[.pointer (some ⟨g, 0, none⟩)] w fun e w' => e = .returned (.int .i64 most) ∧ w = w' := by
  have c0 := hM.c0
  clear hM
  go_enter Try.func22, Try.ntmps22
  go_wp2
  go_ret
  exact ⟨rfl, rfl⟩
theorem at_nil (h : Int) (w : World) : Calls Try.prog 14 #[.pointer none, .int .i64 h] w fun e w' => e = .returned (.tuple #[.int .i64 0, .int .i64 14]) ∧ w = w' := by
  go_enter Try.func14, Try.ntmps14
  go_wp2
  go_ret2
  exact ⟨rfl, rfl⟩
theorem at_any {g r : Nat} {most last : Int} {D : BD} (h : Int) (w : World) (hM : BookAt w g r most last D) :
    Calls Try.prog 14 #[.pointer (some ⟨g, 0, none⟩), .int .i64 h] w fun e w' => e = .returned (match tm D h with | some t => .tuple #[.int .i64 t, .int .i64 0] | none => .tuple #[.int .i64 0, .int .i64 14]) ∧ w = w' := by
  have c2 := hM.c2
  have hL := map_lookup_ok (P := Try.prog) (k := h) hM.map Try.underlying48 Try.underlying3 (Try.zeroValue3 w)
  rw [mget_bm] at hL
  clear hM
  cases ht : tm D h with
  | none =>
    rw [ht] at hL
    have HL := Lib.hid hL
    clear hL ht
    go_enter Try.func14, Try.ntmps14
    go_wp2_with fail
    rw [HL.out]
    go_wp2
    go_ret2
    exact ⟨rfl, rfl⟩
  | some t =>
    rw [ht] at hL
    have HL := Lib.hid hL
    clear hL ht
    go_enter Try.func14, Try.ntmps14
    go_wp2_with fail
    rw [HL.out]
    go_wp2
    go_ret2
    exact ⟨rfl, rfl⟩

/-- what Close leaves -/
def cl (D : BD) (h : Int) : BD := D.filter fun p => p.1 != h
theorem mdel_bm {D : BD} (hn : (hs D).Nodup) (h : Int) : mdel (bm D) h = bm (cl D h) := by
  induction D with
  | nil => rfl
  | cons p D ih =>
    simp only [hs, List.map_cons, List.nodup_cons] at hn
    simp only [bm, List.map_cons, mdel, cl, List.filter_cons]
    by_cases e : p.1 = h
    · subst e
      have hd : D.filter (fun q => q.1 != p.1) = D := by
        rw [List.filter_eq_self]
        intro q hq
        simp
        intro e
        exact hn.1 (List.mem_map.2 ⟨q, hq, e⟩)
      simp [hd]
    · have e1 : (p.1 != h) = true := by simpa using e
      rw [if_neg e, e1]
      simp only [if_true, List.map_cons, List.cons.injEq, true_and]
      exact ih hn.2
theorem BP.nodup {last : Int} {D : BD} (h : BP last D) : (hs D).Nodup := h.rise.imp (fun h => by omega)
theorem BP.close {last : Int} {D : BD} (h : BP last D) (k : Int) : BP last (cl D k) :=
  ⟨h.l0, h.l1, h.rise.sublist ((List.filter_sublist).map _), fun p hp => h.top p ((List.mem_filter.1 hp).1), fun p hp => h.tim p ((List.mem_filter.1 hp).1)⟩
theorem cl_none {D : BD} {h : Int} (ht : tm D h = none) : cl D h = D := by
  unfold cl
  rw [List.filter_eq_self]
  intro q hq
  unfold tm at ht
  simp only [Option.map_eq_none_iff, List.find?_eq_none] at ht
  simpa using ht q hq

theorem close_nil (h : Int) (w : World) : Calls Try.prog 12 #[.pointer none, .int .i64 h] w fun e w' => e = .returned (.int .i64 14) ∧ w = w' := by
  go_enter Try.func12, Try.ntmps12
  go_wp2_with (go_at_call 14; refine (at_nil _ _).mono ?_; rintro e w' ⟨rfl, rfl⟩)
  go_ret
  exact ⟨rfl, rfl⟩
theorem close_any {g r : Nat} {most last : Int} {D : BD} (k : Int) (w : World) (hM : BookAt w g r most last D) :
    Calls Try.prog 12 #[.pointer (some ⟨g, 0, none⟩), .int .i64 k] w fun e w' => e = .returned (.int .i64 (if (tm D k).isSome then 0 else 14)) ∧ Chg (· = r) w w' ∧ BookAt w' g r most last (cl D k) := by
  have HA := Lib.hid (at_any k w hM)
  have HM := Lib.hid hM
  have c2 := hM.c2
  obtain ⟨o, ho, hm⟩ := map_delete (P := Try.prog) (k := k) (ty := 0) hM.map Try.underlying48 Try.underlying3 3
  have hm := Lib.hid hm
  clear hM
  cases ht : tm D k with
  | none =>
    have HT := Lib.hid ht
    rw [ht] at HA
    clear ht
    go_enter Try.func12, Try.ntmps12
    go_wp2_with fail
    refine HA.out.mono ?_
    rintro e w' ⟨rfl, rfl⟩
    go_wp2
    go_ret
    rw [cl_none HT.out]
    exact ⟨rfl, Chg.refl _ _, HM.out⟩
  | some t =>
    have HT := Lib.hid ht
    rw [ht] at HA
    clear ht
    go_enter Try.func12, Try.ntmps12
    go_wp2_with fail
    refine HA.out.mono ?_
    rintro e w' ⟨rfl, rfl⟩
    go_wp2
    go_ret
    refine ⟨rfl, setBlock_chg o, (setBlock_other HM.out.ne).trans HM.out.cell, ?_, HM.out.pure.close k⟩
    rw [← mdel_bm HM.out.pure.nodup]; exact hm.out
end Go.Proofs.Ytfmjkpobphjgkaa
