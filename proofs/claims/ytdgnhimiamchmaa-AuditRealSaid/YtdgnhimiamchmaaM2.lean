import Derived.Test.YtdgnhimiamchmaaM1
namespace Go.Proofs.Ytdgnhimiamchmaa
open Go.RowKit
open BigFrame Lib

/-- a put: its block, where its data lie, and what they are -/
structure PutV where
  lba : Int
  a : Option Addr
  c : Nat
  d : List Int
instance : Inhabited PutV := ⟨⟨0, none, 0, []⟩⟩

def PutOk (w : World) (p : PutV) : Prop := -9223372036854775808 ≤ p.lba ∧ p.lba ≤ 9223372036854775807 ∧ p.d.length ≤ maxLen ∧ p.c ≤ maxLen ∧ Rd u8 w p.a p.d

/-- a row of puts -/
def PutsAt (w : World) (a : Option Addr) (l : List PutV) : Prop :=
  ∀ (i : Nat) (x : PutV), l[i]? = some x → ∃ b o, a = some ⟨b, o, none⟩ ∧ b < w.heap.size ∧ w.cell? ⟨b, o + i * 2, none⟩ = some (.int .i64 x.lba) ∧ w.cell? ⟨b, o + i * 2 + 1, none⟩ = some (.slice x.a x.d.length x.c) ∧ PutOk w x

theorem PutOk.below {w w' : World} {p : PutV} (h : PutOk w p) (hB : Below w.heap.size w w') : PutOk w' p := ⟨h.1, h.2.1, h.2.2.1, h.2.2.2.1, h.2.2.2.2.below hB⟩
theorem PutsAt.below {w w' : World} {a : Option Addr} {l : List PutV} (h : PutsAt w a l) (hB : Below w.heap.size w w') : PutsAt w' a l := fun i x hi => by
  obtain ⟨b, o, h1, h2, h3, h4, h5⟩ := h i x hi
  exact ⟨b, o, h1, Nat.lt_of_lt_of_le h2 hB.size, (hB.cell (p := ⟨b, o + i * 2, none⟩) h2).trans h3, (hB.cell (p := ⟨b, o + i * 2 + 1, none⟩) h2).trans h4, h5.below hB⟩
/-- maps that change are no row -/
theorem Rd.chg_map {α : Type} {f : α → Value} {S : Nat → Prop} {w w' : World} {a : Option Addr} {l : List α} (h : Rd f w a l) (hC : Chg S w w') (hS : ∀ k, S k → ∃ m, MapIs w k m) : Rd f w' a l := by
  by_cases h0 : 0 < l.length
  · refine h.chg hC (fun b o e s => ?_)
    obtain ⟨m, hm⟩ := hS b s
    exact h.no_map h0 hm b o e rfl
  · intro i x hi
    have : l = [] := by cases l with | nil => rfl | cons => simp at h0
    subst this
    simp at hi
theorem PutOk.chg {S : Nat → Prop} {w w' : World} {p : PutV} (h : PutOk w p) (hC : Chg S w w') (hS : ∀ k, S k → ∃ m, MapIs w k m) : PutOk w' p :=
  ⟨h.1, h.2.1, h.2.2.1, h.2.2.2.1, h.2.2.2.2.chg_map hC hS⟩
theorem PutsAt.chg {S : Nat → Prop} {w w' : World} {a : Option Addr} {l : List PutV} (h : PutsAt w a l) (hC : Chg S w w') (hS : ∀ k, S k → ∃ m, MapIs w k m) : PutsAt w' a l := fun i x hi => by
  obtain ⟨b, o, h1, h2, h3, h4, h5⟩ := h i x hi
  have hb : ¬ S b := by
    intro s
    obtain ⟨m, es, cl, hm, _⟩ := hS b s
    simp [World.cell?, hm] at h3
  exact ⟨b, o, h1, Nat.lt_of_lt_of_le h2 hC.size, (World.cell?_of_block (a := ⟨b, o + i * 2, none⟩) (hC.block b h2 hb)).trans h3, (World.cell?_of_block (a := ⟨b, o + i * 2 + 1, none⟩) (hC.block b h2 hb)).trans h4, h5.chg hC hS⟩

def lbaOk (n : Int) (p : PutV) : Bool := decide (0 ≤ p.lba ∧ p.lba < n)
def anyBad (n : Int) (l : List PutV) : Bool := l.any fun p => !lbaOk n p

/-- the closure of Run -/
theorem clos_any {g r bm : Nat} {n : Int} {d : Int → List Int} (p : PutV) (w : World) (hM : MAt w g r n d) (hm : w.cell? ⟨bm, 0, none⟩ = some (.pointer (some ⟨g, 0, none⟩))) :
    Calls Try.prog 42 #[.agg #[.int .i64 p.lba, .slice p.a p.d.length p.c], .pointer (some ⟨bm, 0, none⟩)] w fun e w' => e = .returned (.bool (!lbaOk n p)) ∧ Below w.heap.size w w' := by
  have hb := World.block_lt_of_cell? w _ hm
  have H := Lib.hid (fun W (hW : Below w.heap.size w W) => block_any p.lba W (hM.below hW))
  clear hM
  go_enter Try.func42, Try.ntmps42
  go_wp2_with fail
  refine (H.out _ ((Below.refl _ w).alloc (Nat.le_refl _) _)).mono ?_
  rintro e w' ⟨rfl, rfl⟩
  go_wp2
  go_ret
  refine ⟨?_, (Below.refl _ w).alloc (Nat.le_refl _) _⟩
  have e : (!decide (0 ≤ p.lba) || !decide (p.lba < n)) = !lbaOk n p := by
    unfold lbaOk
    by_cases h1 : 0 ≤ p.lba <;> by_cases h2 : p.lba < n <;> simp [h1, h2]
  rw [← e]; rfl

set_option maxHeartbeats 400000 in
theorem idxP_any {g r bm : Nat} {n : Int} {d : Int → List Int} (a : Option Addr) (c : Nat) (l : List PutV) (w : World) (hn : l.length ≤ 140737488351232) (h1 : PutsAt w a l) (hM : MAt w g r n d) (hm : w.cell? ⟨bm, 0, none⟩ = some (.pointer (some ⟨g, 0, none⟩))) :
    Calls Try.prog 64 #[.slice a l.length c, .func (.func 42) #[] #[.pointer (some ⟨bm, 0, none⟩)]] w fun e w' => (∃ i : Int, e = .returned (.int .i64 i) ∧ (0 ≤ i ↔ anyBad n l = true) ∧ -1 ≤ i ∧ i ≤ 140737488351232) ∧ Below w.heap.size w w' := by
  have hb := World.block_lt_of_cell? w _ hm
  have HP := Lib.hid (fun W (hW : Below w.heap.size w W) p => clos_any p W (hM.below hW) ((hW.cell (p := ⟨bm, 0, none⟩) hb).trans hm))
  have H1 := Lib.hid h1; clear h1 hM hm
  generalize hq : l.length = m at *
  have HM := Lib.hid hq; clear hq
  go_enter Try.func64, Try.ntmps64
  go_wp2_with fail
  go_loopw [8] (fun iv wr => ∃ i : Nat, i ≤ m ∧ iv = .int .i64 i ∧ Below w.heap.size w wr ∧ anyBad n (l.take i) = false) (fun iv _ => m - (intOf iv).toNat)
  case atStart => exact ⟨0, Nat.zero_le _, rfl, Below.refl _ _, rfl⟩
  case round =>
    obtain ⟨i, hi, rfl, hB, ht⟩ := hrel
    have HT := Lib.hid ht; clear ht
    by_cases hlt : i < m
    · have hx : l[i]? = some (l[i]'(by rw [HM.out]; exact hlt)) := List.getElem?_eq_getElem _
      generalize l[i]'(by rw [HM.out]; exact hlt) = x at hx
      obtain ⟨b1, o1, rfl, e1, d1, d2, d3⟩ := H1.out.below hB i x hx
      have HX := Lib.hid hx; clear hx
      have D3 := Lib.hid d3; clear d3
      cases h0 : lbaOk n x with
      | true =>
        have H0 := Lib.hid h0; clear h0
        go_wp2_with (go_at_call 42; refine (HP.out _ hB _).mono ?_; rintro e w' ⟨rfl, hB2⟩; rw [H0.out])
        go_roundw
        case rel => exact ⟨i + 1, by omega, by go_num, below_below hB hB2 (Nat.le_refl _), by rw [List.take_add_one, HX.out]; simp only [anyBad, List.any_append]; rw [show (l.take i).any (fun p => !lbaOk n p) = false from HT.out]; simp [H0.out]⟩
        case measure => simp [intOf]; omega
      | false =>
        have hz : Hid (anyBad n l = true) := by
          show _ = _
          unfold anyBad
          rw [List.any_eq_true]
          exact ⟨x, List.mem_of_getElem? HX.out, by simp [h0]⟩
        have H0 := Lib.hid h0; clear h0
        go_wp2_with (go_at_call 42; refine (HP.out _ hB _).mono ?_; rintro e w' ⟨rfl, hB2⟩; rw [H0.out])
        go_ret
        exact ⟨⟨i, rfl, by simp [hz.out], by omega, by omega⟩, below_below hB hB2 (Nat.le_refl _)⟩
    · have hz : Hid (anyBad n l = false) := by
        show _ = _
        have := HT.out
        rwa [List.take_of_length_le (by rw [HM.out]; omega)] at this
      go_wp2
      go_ret
      exact ⟨⟨-1, rfl, by simp [hz.out], by omega, by omega⟩, hB⟩

theorem contP_any {g r bm : Nat} {n : Int} {d : Int → List Int} (a : Option Addr) (c : Nat) (l : List PutV) (w : World) (hn : l.length ≤ 140737488351232) (h1 : PutsAt w a l) (hM : MAt w g r n d) (hm : w.cell? ⟨bm, 0, none⟩ = some (.pointer (some ⟨g, 0, none⟩))) :
    Calls Try.prog 41 #[.slice a l.length c, .func (.func 42) #[] #[.pointer (some ⟨bm, 0, none⟩)]] w fun e w' => e = .returned (.bool (anyBad n l)) ∧ Below w.heap.size w w' := by
  have h := Lib.hid (idxP_any a c l w hn h1 hM hm)
  clear h1 hM hm
  go_enter Try.func41, Try.ntmps41
  go_wp2_with fail
  refine h.out.mono ?_
  rintro e w1 ⟨⟨i, rfl, hi, h2, h3⟩, hB⟩
  by_cases h0 : 0 ≤ i
  · have hz := Lib.hid (hi.1 h0)
    clear hi
    go_wp2
    go_ret
    exact ⟨by rw [hz.out]; rfl, hB⟩
  · have hz : Hid (anyBad n l = false) := by
      show _ = _
      cases h5 : anyBad n l with
      | false => rfl
      | true => exact (h0 (hi.2 h5)).elim
    clear hi
    have h6 : decide (0 ≤ i) = false := by simpa using h0
    have h7 : i < 0 := by omega
    go_wp2
    go_ret
    exact ⟨by rw [hz.out]; rfl, hB⟩
end Go.Proofs.Ytdgnhimiamchmaa
