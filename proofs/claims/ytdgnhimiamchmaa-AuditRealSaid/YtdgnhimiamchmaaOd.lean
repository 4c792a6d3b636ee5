import Derived.Deep.DeepCutAuto
import Derived.Test.YtdgnhimiamchmaaOr
namespace Go.Proofs.Ytdgnhimiamchmaa
open Go.RowKit Go.Sort Go.Lib Go.Shelf
open BigFrame Lib

theorem HRow.chg {S : Nat → Prop} {w w' : World} {a : Option Addr} {l : List HistV} (h : HRow w a l) (hC : Chg S w w') (hS : ∀ b o, a = some ⟨b, o, none⟩ → ¬ S b) : HRow w' a l := fun i x hi => by
  obtain ⟨b, o, h1, h2, h3⟩ := h i x hi
  have hb := hS b o h1
  have hc : ∀ (q : Nat) (v : Value), w.cell? ⟨b, q, none⟩ = some v → w'.cell? ⟨b, q, none⟩ = some v := fun q v hv => (World.cell?_of_block (a := ⟨b, q, none⟩) (hC.block b h2 hb)).trans hv
  exact ⟨b, o, h1, Nat.lt_of_lt_of_le h2 hC.size, hc _ _ h3.1, hc _ _ h3.2.1, hc _ _ h3.2.2.1, hc _ _ h3.2.2.2.1, hc _ _ h3.2.2.2.2.1, hc _ _ h3.2.2.2.2.2.1, hc _ _ h3.2.2.2.2.2.2⟩

/-- the closure of Order -/
theorem ocmp_any (bl : Nat) (a : Option Addr) (c n : Nat) (l : List HistV) (i j : Nat) (w : World) (hb : w.cell? ⟨bl, 0, none⟩ = some (.slice a n c)) (hn : l.length = n) (h1 : HRow w a l) (hi : i < n) (hj : j < n) (hnn : n ≤ 100000) :
    Calls Try.prog 50 (#[.int .i64 i, .int .i64 j] ++ #[.pointer (some ⟨bl, 0, none⟩)]) w fun e w' => e = .returned (.int .i64 (cmpI (hget l i).tm (hget l j).tm)) ∧ ∃ q os', w' = grow (w.drewN q) os' := by
  show Calls Try.prog 50 #[.int .i64 i, .int .i64 j, .pointer (some ⟨bl, 0, none⟩)] w _
  have hx : l[i]? = some (l[i]'(by omega)) := List.getElem?_eq_getElem _
  have hy : l[j]? = some (l[j]'(by omega)) := List.getElem?_eq_getElem _
  rw [hget_of hx, hget_of hy]
  generalize l[i]'(by omega) = x at hx
  generalize l[j]'(by omega) = y at hy
  obtain ⟨b, o, rfl, e1, _, _, k2, _⟩ := h1 i x hx
  obtain ⟨b', o', hbb, e1', _, _, k2', _⟩ := h1 j y hy
  cases hbb
  have HC := Lib.hid (fun (n : Nat) => Calls.quiet_of_same ((cmp_any x.tm y.tm (w.drewN n)).mono fun e w' ⟨q1, q2⟩ => ⟨q1, q2.symm⟩))
  have hii : (i : Int) < (n : Int) := by omega
  have hjj : (j : Int) < (n : Int) := by omega
  clear hx hy h1 hn
  go_enter Try.func50, Try.ntmps50
  go_wp2_with fail
  go_quiet (exact HC.out _)
  go_wp2
  go_ret
  exact ⟨rfl, _, #[], by rw [grow_empty]⟩

theorem insN_i (a : Option Addr) (c : Nat) (f : Value) (w : World) : Calls Try.prog 83 #[.slice a 0 c, .int .i64 0, .int .i64 0, f] w fun e w' => e = .returned (.tuple #[]) ∧ w = w' := by
  go_enter Try.func83, Try.ntmps83
  go_wp2_with fail
  go_loopw [8] (fun iv wr => iv = .int .i64 1 ∧ wr = w) (fun _ _ => 0)
  case atStart => exact ⟨rfl, rfl⟩
  case round =>
    obtain ⟨rfl, rfl⟩ := hrel
    go_wp2
    go_end0
    exact ⟨rfl, rfl⟩
theorem stabN_i (a : Option Addr) (c : Nat) (f : Value) (w : World) : Calls Try.prog 67 #[.slice a 0 c, .int .i64 0, f] w fun e w' => e = .returned (.tuple #[]) ∧ w = w' := by
  go_enter Try.func67, Try.ntmps67
  go_wp2_with fail
  go_loopw [7, 8] (fun av bv wr => av = .int .i64 0 ∧ bv = .int .i64 20 ∧ wr = w) (fun _ _ _ => 0)
  case atStart => exact ⟨rfl, rfl, rfl⟩
  case round =>
    obtain ⟨rfl, rfl, rfl⟩ := hrel
    go_wp2_with (go_at_call 83; refine (insN_i _ _ _ _).mono ?_; rintro e w1 ⟨rfl, rfl⟩)
    go_loopw [6] (fun bv wr2 => bv = .int .i64 20 ∧ wr2 = wr) (fun _ _ => 0)
    case atStart => exact ⟨rfl, rfl⟩
    case round =>
      obtain ⟨rfl, rfl⟩ := hrel
      go_wp2
      go_end0
      exact ⟨rfl, rfl⟩
theorem sortN_i (a : Option Addr) (c : Nat) (f : Value) (w : World) : Calls Try.prog 49 #[.slice a 0 c, f] w fun e w' => e = .returned (.tuple #[]) ∧ w = w' := by
  go_enter Try.func49, Try.ntmps49
  go_wp2_with (go_at_call 67; refine (stabN_i _ _ _ _).mono ?_; rintro e w1 ⟨rfl, rfl⟩)
  go_end0
  exact ⟨rfl, rfl⟩

def i64n (x : Nat) : Value := .int .i64 (x : Int)
/-- slices.SortStableFunc at numbers of histories, by their times -/
theorem sortI_any (bl : Nat) (a : Option Addr) (c N : Nat) (l : List HistV) (g cap n : Nat) (xs : List Nat) (w : World) (B : Nat) (hb : w.cell? ⟨bl, 0, none⟩ = some (.slice a N c)) (hN : l.length = N) (h1 : HRow w a l) (hNN : N ≤ 100000)
    (h : w.ownsRow B 3 1 (.slice (some ⟨g, 0, none⟩) n cap) n (xs.map i64n)) (hx : ∀ x ∈ xs, x < N) (hn : n ≤ 100000) (hblg : bl ≠ g) (hag : 0 < N → ∀ b o, a = some ⟨b, o, none⟩ → b ≠ g) :
    Calls Try.prog 49 #[.slice (some ⟨g, 0, none⟩) n cap, .func (.func 50) #[] #[.pointer (some ⟨bl, 0, none⟩)]] w fun e w' => e = .returned (.tuple #[]) ∧ Chg (· = g) w w' ∧ Rd i64n w' (some ⟨g, 0, none⟩) (stab (fun i => (hget l i).tm) xs) := by
  obtain ⟨hnl, hr⟩ := Rd.of_own h
  rcases h.2 with ⟨q1, _⟩ | ⟨g', cap', cur, q1, q2, q3, q4, q5, q6, q7⟩
  · simp at q1
  simp at q1
  obtain ⟨rfl, rfl⟩ := q1
  have hgl := lt_heap q3
  by_cases hn0 : n = 0
  · subst hn0
    have hxs : xs = [] := List.length_eq_zero_iff.1 hnl.symm
    subst hxs
    refine (sortN_i _ _ _ _).mono ?_
    rintro e w' ⟨rfl, rfl⟩
    exact ⟨rfl, Chg.refl _ _, fun i x hi => by simp [stab] at hi⟩
  have hN1 : 0 < N := by
    cases xs with
    | nil => simp at hnl; omega
    | cons x xs => have := hx x (by simp); omega
  haveI : Inhabited (Fin N × Nat) := ⟨⟨⟨0, hN1⟩, 0⟩⟩
  let val : Fin N × Nat → Int := fun p => ((p.1.val : Nat) : Int)
  let key : Fin N × Nat → Int := fun p => (hget l p.1.val).tm
  obtain ⟨fs, hfs⟩ : ∃ fs : List (Fin N), fs.map (·.val) = xs := ⟨xs.attach.map fun p => ⟨p.1, hx p.1 p.2⟩, by simp⟩
  have hfl : fs.length = n := by rw [hnl, ← hfs, List.length_map]
  have hget0 : ∀ (i : Nat), i < fs.zipIdx.length → ∃ x, fs[i]? = some x ∧ fs.zipIdx.toArray[i]! = (x, i) := by
    intro i hi
    rw [List.length_zipIdx] at hi
    refine ⟨fs[i], List.getElem?_eq_getElem hi, ?_⟩
    rw [getElem!_pos _ _ (by simpa using hi)]
    simp
  have hH : Holds (eI val) w g 0 fs.zipIdx.toArray := by
    intro t ht
    obtain ⟨x, hx1, hx2⟩ := hget0 t (by simpa using ht)
    rw [hx2]
    constructor
    · obtain ⟨b, o, e1, e2, e3⟩ := hr t x.val (by rw [← hfs, List.getElem?_map, hx1]; rfl)
      cases e1
      exact e3
    · exact free_heap q3
  have hcf : ∀ x y : Fin N × Nat, cmpI (key x) (key y) < 0 ↔ key x < key y := fun x y => cmpI_lt _ _
  have hcmp : CmpLays1 Try.prog 50 #[.pointer (some ⟨bl, 0, none⟩)] (eI val) (fun x y => cmpI (key x) (key y)) g 0 n w := by
    intro m os dk _ x y
    have hC : Chg (· = g) w (sortWorld (eI val) w g 0 m dk os) := sw_chg ⟨m, os, rfl⟩
    have hbb := World.block_lt_of_cell? w _ hb
    exact ocmp_any bl a c N l x.1.val y.1.val _ ((World.cell?_of_block (a := ⟨bl, 0, none⟩) (hC.block bl hbb hblg)).trans hb) hN (h1.chg hC (fun b o e s => hag hN1 b o e s)) x.1.isLt y.1.isLt hNN
  have R : Row1 (eI val) w g 0 fs.zipIdx.toArray := ⟨eI_one val, hH, hgl⟩
  have hinc := zipIdx_inc fs 0
  refine (sortStable_i val key (fun p => p.2) (fun x y => cmpI (key x) (key y)) hcf 50 #[.pointer (some ⟨bl, 0, none⟩)] g 0 cap n fs.zipIdx w
    (enters_of Try.func50 (by kernel_rfl) rfl) hcmp R (by simp [hfl]) hn hinc).mono ?_
  rintro e w' ⟨rfl, l', hp, hs, hW⟩
  have hl' := stab_unique hinc hp hs
  refine ⟨rfl, sw_chg hW, fun i x hi => ?_⟩
  have hst : l'.map (fun p => p.1.val) = stab (fun i => (hget l i).tm) xs := by
    rw [hl', ← hfs]
    have := stab_zip (fun p : Fin N => (hget l p.val).tm) fs
    rw [← stab_map (fun i => (hget l i).tm) (fun p : Fin N => p.val), ← this, List.map_map]
    rfl
  have hHW := hW.holds hgl hH (by simpa using hp.length_eq)
  rw [← hst, List.getElem?_map] at hi
  have hil : i < l'.length := by
    rcases Nat.lt_or_ge i l'.length with h | h
    · exact h
    · rw [List.getElem?_eq_none h] at hi; simp at hi
  rw [List.getElem?_eq_getElem hil] at hi
  simp at hi
  refine ⟨g, 0, rfl, Nat.lt_of_lt_of_le hgl (sw_chg hW).size, ?_⟩
  have := (hHW i (by simpa using hil)).1
  rw [this, getElem!_pos l'.toArray i (by simpa using hil)]
  simp only [List.getElem_toArray]
  show some (Value.int .i64 ((l'[i].1.val : Nat) : Int)) = _
  rw [hi]; rfl
end Go.Proofs.Ytdgnhimiamchmaa
