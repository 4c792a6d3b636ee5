import Derived.Test.YtpohncdabngifaaOnce
namespace Go.Proofs.Ytpohncdabngifaa
open Go.RowKit
open BigFrame

def isf (zs : List Z) : List Value := zs.map fun z => Value.bool (!z.1)
def wrs (zs : List Z) : List Value := zs.map fun z => Value.int .i64 z.2
theorem isf_get (zs : List Z) (k : Nat) (hk : k < zs.length) : (isf zs)[k]? = some (.bool (!tk zs k)) := by simp [isf, tk, List.getD, hk]
theorem wrs_get (zs : List Z) (k : Nat) (hk : k < zs.length) : (wrs zs)[k]? = some (.int .i64 (wear zs k)) := by simp [wrs, wear, List.getD, hk]
theorem isf_set (zs : List Z) (k : Nat) (b : Bool) (x : Int) : (isf zs).set k (.bool (!b)) = isf (zs.set k (b, x)) := by simp [isf, List.map_set]
theorem wrs_set (zs : List Z) (k : Nat) (b : Bool) (x : Int) : (wrs zs).set k (.int .i64 x) = wrs (zs.set k (b, x)) := by simp [wrs, List.map_set]
theorem set_own (zs : List Z) (k : Nat) : zs.set k (tk zs k, wear zs k) = zs := by
  apply List.ext_getElem?
  intro j
  rw [List.getElem?_set]
  by_cases e : k = j
  · subst e
    by_cases h : k < zs.length
    · simp [h, tk, wear, List.getD]
    · simp [h]
  · simp [e]
theorem wrs_own (zs : List Z) (k : Nat) (b : Bool) : wrs (zs.set k (b, wear zs k)) = wrs zs := by
  rw [← wrs_set, wrs_set zs k (tk zs k), set_own]

/-- the document's allocator of the zones zs: its struct in g, its rows in b1 and b2 -/
structure RefAt (w : World) (g b1 b2 : Nat) (zs : List Z) (spare : Int) : Prop where
  hg : w.heap[g]? = some (.cells (#[.slice (some ⟨b1, 0, none⟩) zs.length zs.length, .slice (some ⟨b2, 0, none⟩) zs.length zs.length, .int .i64 spare] : Array Value) 46 (0, 0))
  h1 : w.heap[b1]? = some (.cells (isf zs).toArray 4 (0, 0))
  h2 : w.heap[b2]? = some (.cells (wrs zs).toArray 3 (0, 0))
  n1 : b1 ≠ g
  n2 : b2 ≠ g
  n3 : b1 ≠ b2
  hn : zs.length ≤ 64
theorem RefAt.of_eq {w w' : World} {g b1 b2 : Nat} {zs : List Z} {spare : Int} (h : RefAt w g b1 b2 zs spare) (e0 : w'.heap[g]? = w.heap[g]?) (e1 : w'.heap[b1]? = w.heap[b1]?) (e2 : w'.heap[b2]? = w.heap[b2]?) : RefAt w' g b1 b2 zs spare :=
  ⟨e0.trans h.hg, e1.trans h.h1, e2.trans h.h2, h.n1, h.n2, h.n3, h.hn⟩
theorem RefAt.below {w w' : World} {g b1 b2 : Nat} {zs : List Z} {spare : Int} (h : RefAt w g b1 b2 zs spare) (hB : Below w.heap.size w w') : RefAt w' g b1 b2 zs spare :=
  h.of_eq (hB.block g (lt_heap h.hg)) (hB.block b1 (lt_heap h.h1)) (hB.block b2 (lt_heap h.h2))

set_option maxHeartbeats 400000 in
theorem rlist_any (g b1 b2 : Nat) (zs : List Z) (sp : Int) (w : World) (hA : RefAt w g b1 b2 zs sp) :
    Calls Try.prog 23 #[.pointer (some ⟨g, 0, none⟩)] w fun e w' => ∃ v, e = .returned v ∧ Below w.heap.size w w' ∧ w'.ownsRow w.heap.size 3 1 v (frees zs zs.length).length (ints (frees zs zs.length)) := by
  obtain ⟨i0, hi, hz0, hz1, hz2⟩ := info_parts Try.info3
  have hgl := lt_heap hA.hg
  have hn := hA.hn
  have HA := Lib.hid hA; clear hA
  generalize hm : zs.length = n at *
  have HM := Lib.hid hm; clear hm
  go_enter Try.func23, Try.ntmps23
  go_wp2_with fail
  go_loopw [3, 4] (fun v i wr => ∃ k : Nat, k ≤ n ∧ i = .int .i64 k ∧ Below w.heap.size w wr ∧ wr.ownsRow w.heap.size 3 1 v (frees zs k).length (ints (frees zs k))) (fun _ i _ => n - (intOf i).toNat)
  case atStart => exact ⟨0, Nat.zero_le _, rfl, Below.refl _ _, by simpa [frees, ints] using World.ownsRow_nil w _ 3 1⟩
  case round =>
    obtain ⟨k, hk, rfl, hB, hown⟩ := hrel
    have hsz := hB.size
    have h0 : wr.cell? ⟨g, 0, none⟩ = some (.slice (some ⟨b1, 0, none⟩) n n) := by rw [← HM.out]; exact cell_heap (HA.out.below hB).hg rfl
    by_cases hlt : k < n
    · have d0 := cell_heap (HA.out.below hB).h1 (isf_get zs k (by rw [HM.out]; exact hlt))
      have hl := frees_len zs k
      cases ht : tk zs k with
      | false =>
        rw [ht] at d0
        have HT := Lib.hid ht; clear ht
        go_wp2_with (at_builtin; refine wpList_append_own _ rfl _ _ 44 rfl w.heap.size 3 i0 (.int .i64 0) 1 8 Try.underlying44 hi hz0 hz1 hz2 rfl (by decide) _ _ _ rfl (hown.alloc _) ⟨wr.heap.size, 0, none⟩ 1 1 [.int .i64 (k:Int)] rfl rfl ?c1 ?c2 ?c3 ?c4 ?c5 ?_)
        case c1 => exact cellA rfl
        case c2 => intro u hu; simp at hu; subst hu; rfl
        case c3 => unfold maxLen; omega
        case c4 => omega
        case c5 => simp; omega
        intro v' w1 hown' hgr _
        have hB1 : Below w.heap.size w w1 := (hB.alloc hsz _).grown hgr (by simp; omega) (fun k hk => (hown.lt k hk).1)
        clear hB hown hgr d0
        go_wp2
        go_roundw
        case rel => exact ⟨k + 1, by omega, by go_num, hB1, by rw [frees_succ_f _ _ HT.out, ints_snoc, List.length_append]; exact hown'⟩
        case measure => simp [intOf]; omega
      | true =>
        rw [ht] at d0
        have HT := Lib.hid ht; clear ht
        go_wp2
        go_roundw
        case rel => exact ⟨k + 1, by omega, by go_num, hB, by rw [frees_succ_t _ _ HT.out]; exact hown⟩
        case measure => simp [intOf]; omega
    · have : k = n := by omega
      subst this
      go_wp2
      go_ret
      exact ⟨_, rfl, hB, hown⟩

theorem rcount_any (g b1 b2 : Nat) (zs : List Z) (sp : Int) (w : World) (hA : RefAt w g b1 b2 zs sp) :
    Calls Try.prog 20 #[.pointer (some ⟨g, 0, none⟩)] w fun e w' => e = .returned (.int .i64 (cnt zs : Nat)) ∧ Below w.heap.size w w' := by
  go_enter Try.func20, Try.ntmps20
  go_wp2_with fail
  refine (rlist_any g b1 b2 zs sp w hA).mono ?_
  rintro e w' ⟨v, rfl, hB, hown⟩
  obtain ⟨a, c, rfl⟩ := own_form hown
  have HC : Hid (cnt zs = (frees zs zs.length).length) := rfl
  go_wp2
  go_ret
  exact ⟨rfl, hB⟩

theorem rmark_out (g b1 b2 : Nat) (zs : List Z) (sp : Int) (i : Int) (w : World) (hA : RefAt w g b1 b2 zs sp) (h : i < 0 ∨ (zs.length : Int) ≤ i) : Calls Try.prog 19 #[.pointer (some ⟨g, 0, none⟩), .int .i64 i] w fun e w' => e = .returned (.int .i64 1) ∧ w = w' := by
  have h0 : w.cell? ⟨g, 0, none⟩ = some (.slice (some ⟨b1, 0, none⟩) zs.length zs.length) := cell_heap hA.hg rfl
  have hc : i < 0 ∨ (0 ≤ i ∧ (zs.length : Int) ≤ i) := by omega
  clear h hA
  rcases hc with h6 | ⟨h6, h7⟩
  all_goals
    go_enter Try.func19, Try.ntmps19
    go_wp2
    go_ret
    exact ⟨rfl, rfl⟩
theorem rfree_out (g b1 b2 : Nat) (zs : List Z) (sp : Int) (i : Int) (w : World) (hA : RefAt w g b1 b2 zs sp) (h : i < 0 ∨ (zs.length : Int) ≤ i) : Calls Try.prog 17 #[.pointer (some ⟨g, 0, none⟩), .int .i64 i] w fun e w' => e = .returned (.int .i64 1) ∧ w = w' := by
  have h0 : w.cell? ⟨g, 0, none⟩ = some (.slice (some ⟨b1, 0, none⟩) zs.length zs.length) := cell_heap hA.hg rfl
  have hc : i < 0 ∨ (0 ≤ i ∧ (zs.length : Int) ≤ i) := by omega
  clear h hA
  rcases hc with h6 | ⟨h6, h7⟩
  all_goals
    go_enter Try.func17, Try.ntmps17
    go_wp2
    go_ret
    exact ⟨rfl, rfl⟩
theorem rmark_in (g b1 b2 : Nat) (zs : List Z) (sp : Int) (i : Nat) (w : World) (hA : RefAt w g b1 b2 zs sp) (hl : i < zs.length) : Calls Try.prog 19 #[.pointer (some ⟨g, 0, none⟩), .int .i64 i] w fun e w' =>
    e = .returned (.int .i64 (if tk zs i = true then 14 else 0)) ∧ RefAt w' g b1 b2 (if tk zs i = true then zs else zs.set i (true, wear zs i)) sp ∧ Chg (fun k => k = b1 ∨ k = b2) w w' := by
  have h0 : w.cell? ⟨g, 0, none⟩ = some (.slice (some ⟨b1, 0, none⟩) zs.length zs.length) := cell_heap hA.hg rfl
  have d0 := cell_heap hA.h1 (isf_get zs i hl)
  have f0 : w.frozen? ⟨b1, i, none⟩ = false := free_heap hA.h1
  have hl' : (i : Int) < zs.length := by omega
  have HA := Lib.hid hA; clear hA
  cases ht : tk zs i with
  | true =>
    rw [ht] at d0; clear ht
    go_enter Try.func19, Try.ntmps19
    go_wp2
    go_ret
    exact ⟨rfl, HA.out, Chg.refl _ _⟩
  | false =>
    rw [ht] at d0; clear ht
    go_enter Try.func19, Try.ntmps19
    go_wp2
    go_ret
    refine ⟨rfl, ⟨?_, ?_, ?_, HA.out.n1, HA.out.n2, HA.out.n3, by simpa using HA.out.hn⟩, (Chg.refl (fun k => k = b1 ∨ k = b2) _).setCell (p := ⟨b1, _, none⟩) (Or.inl (Or.inl rfl)) _⟩
    · rw [set_heap_ne HA.out.n1.symm, HA.out.hg]; simp
    · rw [set_heap HA.out.h1]; exact congrArg (fun l : List Value => some (Obj.cells l.toArray 4 (0, 0))) (isf_set zs i true (wear zs i))
    · rw [set_heap_ne HA.out.n3.symm, HA.out.h2, wrs_own]
theorem rfree_in (g b1 b2 : Nat) (zs : List Z) (sp : Int) (i : Nat) (w : World) (hA : RefAt w g b1 b2 zs sp) (hl : i < zs.length) (hw0 : 0 ≤ wear zs i) (hw1 : wear zs i ≤ 1000000) : Calls Try.prog 17 #[.pointer (some ⟨g, 0, none⟩), .int .i64 i] w fun e w' =>
    e = .returned (.int .i64 (if tk zs i = true then 0 else 14)) ∧ RefAt w' g b1 b2 (if tk zs i = true then zs.set i (false, wear zs i + 1) else zs) sp ∧ Chg (fun k => k = b1 ∨ k = b2) w w' := by
  have h0 : w.cell? ⟨g, 0, none⟩ = some (.slice (some ⟨b1, 0, none⟩) zs.length zs.length) := cell_heap hA.hg rfl
  have h1 : w.cell? ⟨g, 1, none⟩ = some (.slice (some ⟨b2, 0, none⟩) zs.length zs.length) := cell_heap hA.hg rfl
  have d0 := cell_heap hA.h1 (isf_get zs i hl)
  have d1 := cell_heap hA.h2 (wrs_get zs i hl)
  have f0 : w.frozen? ⟨b1, i, none⟩ = false := free_heap hA.h1
  have f1 : w.frozen? ⟨b2, i, none⟩ = false := free_heap hA.h2
  have hl' : (i : Int) < zs.length := by omega
  have n1 := hA.n1; have n2 := hA.n2; have n3 := hA.n3
  have HA := Lib.hid hA; clear hA
  cases ht : tk zs i with
  | false =>
    rw [ht] at d0; clear ht
    go_enter Try.func17, Try.ntmps17
    go_wp2
    go_ret
    exact ⟨rfl, HA.out, Chg.refl _ _⟩
  | true =>
    rw [ht] at d0; clear ht
    have d2 : (w.setCell ⟨b1, i, none⟩ (.bool true)).cell? ⟨g, 1, none⟩ = some (.slice (some ⟨b2, 0, none⟩) zs.length zs.length) := cell_heap ((set_heap_ne n1.symm).trans HA.out.hg) rfl
    have d3 : (w.setCell ⟨b1, i, none⟩ (.bool true)).cell? ⟨b2, i, none⟩ = some (.int .i64 (wear zs i)) := cell_heap ((set_heap_ne n3.symm).trans HA.out.h2) (wrs_get zs i hl)
    go_enter Try.func17, Try.ntmps17
    go_wp2
    go_ret
    refine ⟨rfl, ⟨?_, ?_, ?_, HA.out.n1, HA.out.n2, HA.out.n3, by simpa using HA.out.hn⟩, ((Chg.refl (fun k => k = b1 ∨ k = b2) _).setCell (p := ⟨b1, _, none⟩) (Or.inl (Or.inl rfl)) _).setCell (p := ⟨b2, _, none⟩) (Or.inl (Or.inr rfl)) _⟩
    · rw [set_heap_ne HA.out.n2.symm, set_heap_ne HA.out.n1.symm, HA.out.hg]; simp
    · rw [set_heap_ne HA.out.n3, set_heap HA.out.h1]; exact congrArg (fun l : List Value => some (Obj.cells l.toArray 4 (0, 0))) (isf_set zs i false (wear zs i + 1))
    · rw [set_heap ((set_heap_ne HA.out.n3.symm).trans HA.out.h2), wrs_set zs i false]
end Go.Proofs.Ytpohncdabngifaa
