import Derived.Test.YtdgnhimiamchmaaSo8
import Derived.Test.YtdgnhimiamchmaaRp
namespace Go.Proofs.Ytdgnhimiamchmaa
open Go.RowKit
open BigFrame Lib

/-! ### who wrote -/
theorem wroteH_eq (h : HistV) : (decide (h.st = 3) && decide (0 < h.pl.length)) = wroteH h := by
  unfold wroteH
  cases h.pl with
  | nil => simp
  | cons x l => simp
theorem wrote48_any (h : HistV) (w : World) : Calls Try.prog 48 #[aggH h] w fun e w' => e = .returned (.bool (wroteH h)) ∧ Below w.heap.size w w' := by
  have HW := Lib.hid (wroteH_eq h)
  unfold aggH
  generalize h.rl.length = rn at *
  generalize h.pl.length = pn at *
  by_cases h1 : h.st = 3
  · have t1 : (h.st == 3) = true := by simpa using h1
    have HD : Hid (decide (0 < pn) = wroteH h) := by show _ = _; rw [← HW.out, decide_eq_true h1]; rfl
    by_cases h2 : 0 < pn
    · have HE : Hid (wroteH h = true) := by show _ = _; rw [← HD.out]; exact decide_eq_true h2
      go_enter Try.func48, Try.ntmps48
      go_wp2
      go_ret
      exact ⟨by rw [HE.out]; rfl, (Below.refl _ w).alloc (Nat.le_refl _) _⟩
    · have HE : Hid (wroteH h = false) := by show _ = _; rw [← HD.out]; exact decide_eq_false h2
      have t2 : decide ((pn : Int) > 0) = false := by simp; omega
      go_enter Try.func48, Try.ntmps48
      go_wp2
      go_ret
      exact ⟨by rw [HE.out]; rfl, (Below.refl _ w).alloc (Nat.le_refl _) _⟩
  · have t1 : (h.st == 3) = false := by simpa using h1
    have HE : Hid (wroteH h = false) := by show _ = _; rw [← HW.out, decide_eq_false h1]; rfl
    go_enter Try.func48, Try.ntmps48
    go_wp2
    go_ret
    exact ⟨by rw [HE.out]; rfl, (Below.refl _ w).alloc (Nat.le_refl _) _⟩
theorem wrote81_any (h : HistV) (w : World) : Calls Try.prog 81 #[aggH h] w fun e w' => e = .returned (.bool (wroteH h)) ∧ Below w.heap.size w w' := by
  have HW := Lib.hid (wroteH_eq h)
  unfold aggH
  generalize h.rl.length = rn at *
  generalize h.pl.length = pn at *
  by_cases h1 : h.st = 3
  · have t1 : (h.st == 3) = true := by simpa using h1
    have HD : Hid (decide (0 < pn) = wroteH h) := by show _ = _; rw [← HW.out, decide_eq_true h1]; rfl
    by_cases h2 : 0 < pn
    · have HE : Hid (wroteH h = true) := by show _ = _; rw [← HD.out]; exact decide_eq_true h2
      go_enter Try.func81, Try.ntmps81
      go_wp2
      go_ret
      exact ⟨by rw [HE.out]; rfl, (Below.refl _ w).alloc (Nat.le_refl _) _⟩
    · have HE : Hid (wroteH h = false) := by show _ = _; rw [← HD.out]; exact decide_eq_false h2
      have t2 : decide ((pn : Int) > 0) = false := by simp; omega
      go_enter Try.func81, Try.ntmps81
      go_wp2
      go_ret
      exact ⟨by rw [HE.out]; rfl, (Below.refl _ w).alloc (Nat.le_refl _) _⟩
  · have t1 : (h.st == 3) = false := by simpa using h1
    have HE : Hid (wroteH h = false) := by show _ = _; rw [← HW.out, decide_eq_false h1]; rfl
    go_enter Try.func81, Try.ntmps81
    go_wp2
    go_ret
    exact ⟨by rw [HE.out]; rfl, (Below.refl _ w).alloc (Nat.le_refl _) _⟩

/-! ### their numbers, by their times -/
def hget (l : List HistV) (i : Nat) : HistV := l.getD i default
def wroteI (l : List HistV) : List Nat := (List.range l.length).filter fun i => wroteH (hget l i)
def ordL (l : List HistV) : List Nat := stab (fun i => (hget l i).tm) (wroteI l)
theorem hget_of {l : List HistV} {i : Nat} {x : HistV} (h : l[i]? = some x) : hget l i = x := by
  unfold hget; rw [List.getD_eq_getElem?_getD, h]; rfl
theorem wroteI_lt (l : List HistV) : ∀ i ∈ wroteI l, i < l.length := fun i hi => by
  have := (List.mem_filter.1 hi).1
  simpa using this
theorem ordL_lt (l : List HistV) : ∀ i ∈ ordL l, i < l.length := fun i hi => wroteI_lt l i ((stab_perm _ _).mem_iff.1 hi)
theorem wroteI_map (l : List HistV) : (wroteI l).map (hget l) = wroteL l := by
  have : ∀ (l : List HistV), l = (List.range l.length).map (hget l) := by
    intro l
    apply List.ext_getElem?
    intro i
    rw [List.getElem?_map]
    by_cases h : i < l.length
    · rw [List.getElem?_range h, Option.map_some, hget_of (List.getElem?_eq_getElem h), List.getElem?_eq_getElem h]
    · rw [List.getElem?_eq_none (by omega), List.getElem?_eq_none (by simp; omega)]; rfl
  conv => rhs; rw [wroteL, this l, List.filter_map]
  rfl
theorem ordL_map (l : List HistV) : (ordL l).map (hget l) = stab HistV.tm (wroteL l) := by
  unfold ordL
  rw [stab_map HistV.tm (hget l), wroteI_map]
/-- the first i of them -/
def wroteN (l : List HistV) (i : Nat) : List Nat := (List.range i).filter fun i => wroteH (hget l i)
theorem wroteN_snoc (l : List HistV) (i : Nat) : wroteN l (i + 1) = wroteN l i ++ if wroteH (hget l i) = true then [i] else [] := by
  unfold wroteN
  rw [List.range_succ, List.filter_append]
  congr 1
  simp [List.filter_cons]
end Go.Proofs.Ytdgnhimiamchmaa
