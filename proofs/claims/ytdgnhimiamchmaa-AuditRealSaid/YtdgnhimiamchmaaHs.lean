import Derived.Test.YtdgnhimiamchmaaSh8
import Derived.Test.YtdgnhimiamchmaaHi
namespace Go.Proofs.Ytdgnhimiamchmaa
open Go.RowKit Go.Sort Go.Lib Go.Shelf
open BigFrame Lib

theorem swk_chg {α : Type} [Inhabited α] {enc : α → List Value} {k : Nat} {w W : World} {blk off : Nat} {d : Array α} (h : SWK enc k w blk off d W) : Chg (· = blk) w W := by
  obtain ⟨m, os, rfl⟩ := h
  refine ⟨rfl, rfl, rfl, ?_, fun i hi hn => ?_⟩
  · unfold sortWorldK; rw [size_grow, size_putRowK]; show w.heap.size ≤ w.heap.size + _; omega
  · show ((putRowK enc k (Sort.ahead w m) blk off d).heap ++ os)[i]? = _
    rw [Array.getElem?_append_left (by rw [size_putRowK]; exact hi)]
    show (mapBlock (Sort.ahead w m) blk _).heap[i]? = _
    simp only [mapBlock]
    first
      | (rw [Array.getElem?_modify, if_neg (fun e => hn e.symm)]; rfl)
      | (simp [Array.getElem?_modify, fun e => hn (Eq.symm e)])
theorem sw_chg {α : Type} [Inhabited α] {enc : α → Value} {w W : World} {blk off : Nat} {d : Array α} (h : SW enc w blk off d W) : Chg (· = blk) w W := by
  obtain ⟨m, os, rfl⟩ := h
  refine ⟨rfl, rfl, rfl, ?_, fun i hi hn => ?_⟩
  · unfold sortWorld; rw [size_grow, size_putRow]; show w.heap.size ≤ w.heap.size + _; omega
  · show ((putRow enc (Sort.ahead w m) blk off d).heap ++ os)[i]? = _
    rw [Array.getElem?_append_left (by rw [size_putRow]; exact hi)]
    show (mapBlock (Sort.ahead w m) blk _).heap[i]? = _
    simp only [mapBlock]
    first
      | (rw [Array.getElem?_modify, if_neg (fun e => hn e.symm)]; rfl)
      | (simp [Array.getElem?_modify, fun e => hn (Eq.symm e)])

/-- slices.SortStableFunc at histories, by their times -/
theorem sortH_any (g cap n : Nat) (l : List HistV) (w : World) (B : Nat) (h : w.ownsRow B 53 7 (.slice (some ⟨g, 0, none⟩) n cap) n (l.flatMap encH)) (hn : n ≤ 100000) :
    Calls Try.prog 59 #[.slice (some ⟨g, 0, none⟩) n cap, .func (.func 60) #[] #[]] w fun e w' => e = .returned (.tuple #[]) ∧ Chg (· = g) w w' ∧ HRow w' (some ⟨g, 0, none⟩) (stab HistV.tm l) := by
  obtain ⟨hnl, hr⟩ := HRow.of_own h
  rcases h.2 with ⟨h1, _⟩ | ⟨g', cap', cur, h1, h2, h3, h4, h5, h6, h7⟩
  · simp at h1
  simp at h1
  obtain ⟨rfl, rfl⟩ := h1
  have hgl := lt_heap h3
  have hgt : ∀ (i : Nat), i < l.zipIdx.length → ∃ x, l[i]? = some x ∧ l.zipIdx.toArray[i]! = (x, i) := by
    intro i hi
    rw [List.length_zipIdx] at hi
    refine ⟨l[i], List.getElem?_eq_getElem hi, ?_⟩
    rw [getElem!_pos _ _ (by simpa using hi)]
    simp
  have hH : HoldsK (fun p : HistV × Nat => encH p.1) 7 w g 0 l.zipIdx.toArray := by
    intro t ht
    rw [size_flatK] at ht
    rw [get_flatK _ _ _ _ ht]
    have hi : t / 7 < l.zipIdx.length := by simp at ht ⊢; omega
    obtain ⟨x, hx, he⟩ := hgt (t / 7) hi
    rw [he]
    have hlen : t % 7 < (encH x).length := by rw [encH_len]; omega
    constructor
    · have hg := flat_get encH_len l (t / 7) (t % 7) (by omega)
      rw [hx, Option.bind_some, show t / 7 * 7 + t % 7 = t by omega, List.getElem?_eq_getElem hlen] at hg
      have hlt : t < n * 7 := by simp at hi; omega
      have h8 : cur.toList[t]? = some (encH x)[t % 7] := by rw [← hg, ← h7, List.getElem?_take_of_lt hlt]
      rw [Nat.zero_add, getElem!_pos (encH x) (t % 7) hlen]
      simp [World.cell?, h3]
      simpa using h8
    · exact free_heap h3
  have hcmp : CmpLays Try.prog 60 #[] (fun p : HistV × Nat => encH p.1) 7 (fun x y => cmpI x.1.tm y.1.tm) g 0 n w := by
    intro m os dk _ x y
    have := hcmp_any x.1 y.1 (sortWorldK (fun p : HistV × Nat => encH p.1) 7 w g 0 m dk os)
    simpa [encH_agg] using this
  have R : RowK (fun p : HistV × Nat => encH p.1) 7 w g 0 l.zipIdx.toArray := ⟨fun _ => rfl, fun x v hv => by
    simp [encH] at hv
    rcases hv with rfl | rfl | rfl | rfl | rfl | rfl | rfl <;> rfl, hH, hgl⟩
  have hinc := zipIdx_inc l 0
  refine (sortStable_h (fun p : HistV × Nat => encH p.1) 7 Try.sizeOf53 (fun p => p.1.tm) (fun p => p.2) (fun x y => cmpI x.1.tm y.1.tm) (fun x y => cmpI_lt _ _) 60 #[] g 0 cap n l.zipIdx w
    (enters_of Try.func60 (by kernel_rfl) rfl) hcmp R (by simp [hnl]) hn hinc).mono ?_
  rintro e w' ⟨rfl, l', hp, hs, hW⟩
  have hl' := stab_unique hinc hp hs
  refine ⟨rfl, swk_chg hW, fun i x hi => ?_⟩
  have hst : l'.map (·.1) = stab HistV.tm l := by rw [hl']; exact stab_zip HistV.tm l
  have hHW := hW.holds hgl hH (by simpa using hp.length_eq)
  rw [← hst, List.getElem?_map] at hi
  have hil : i < l'.length := by
    rcases Nat.lt_or_ge i l'.length with h | h
    · exact h
    · rw [List.getElem?_eq_none h] at hi; simp at hi
  rw [List.getElem?_eq_getElem hil] at hi
  simp at hi
  refine ⟨g, 0, rfl, Nat.lt_of_lt_of_le hgl (swk_chg hW).size, CellsH.of_enc fun j u hj => ?_⟩
  have hj7 : j < 7 := by
    rcases Nat.lt_or_ge j 7 with h | h
    · exact h
    · rw [List.getElem?_eq_none (by rw [encH_len]; exact h)] at hj; cases hj
  have := (hHW.cell (i := i) (c := j) (by simpa using hil) hj7).1
  rw [this, getElem!_pos l'.toArray i (by simpa using hil)]
  simp only [List.getElem_toArray, hi]
  rw [getElem!_pos (encH x) j (by rw [encH_len]; exact hj7)]
  rw [List.getElem?_eq_getElem (by rw [encH_len]; exact hj7)] at hj
  exact hj

theorem insN_h (f : Value) (w : World) : Calls Try.prog 90 #[.slice none 0 0, .int .i64 0, .int .i64 0, f] w fun e w' => e = .returned (.tuple #[]) ∧ w = w' := by
  go_enter Try.func90, Try.ntmps90
  go_wp2_with fail
  go_loopw [8] (fun iv wr => iv = .int .i64 1 ∧ wr = w) (fun _ _ => 0)
  case atStart => exact ⟨rfl, rfl⟩
  case round =>
    obtain ⟨rfl, rfl⟩ := hrel
    go_wp2
    go_end0
    exact ⟨rfl, rfl⟩
theorem stabN_h (f : Value) (w : World) : Calls Try.prog 77 #[.slice none 0 0, .int .i64 0, f] w fun e w' => e = .returned (.tuple #[]) ∧ w = w' := by
  go_enter Try.func77, Try.ntmps77
  go_wp2_with fail
  go_loopw [7, 8] (fun av bv wr => av = .int .i64 0 ∧ bv = .int .i64 20 ∧ wr = w) (fun _ _ _ => 0)
  case atStart => exact ⟨rfl, rfl, rfl⟩
  case round =>
    obtain ⟨rfl, rfl, rfl⟩ := hrel
    go_wp2_with (go_at_call 90; refine (insN_h _ _).mono ?_; rintro e w1 ⟨rfl, rfl⟩)
    go_loopw [6] (fun bv wr2 => bv = .int .i64 20 ∧ wr2 = wr) (fun _ _ => 0)
    case atStart => exact ⟨rfl, rfl⟩
    case round =>
      obtain ⟨rfl, rfl⟩ := hrel
      go_wp2
      go_end0
      exact ⟨rfl, rfl⟩
theorem sortN_h (f : Value) (w : World) : Calls Try.prog 59 #[.slice none 0 0, f] w fun e w' => e = .returned (.tuple #[]) ∧ w = w' := by
  go_enter Try.func59, Try.ntmps59
  go_wp2_with (go_at_call 77; refine (stabN_h _ _).mono ?_; rintro e w1 ⟨rfl, rfl⟩)
  go_end0
  exact ⟨rfl, rfl⟩
end Go.Proofs.Ytdgnhimiamchmaa
