import Derived.Laws.BytesArg
import Derived.Test.YtdgnhimiamchmaaLa
namespace Go.Proofs.Ytdgnhimiamchmaa
open Go.RowKit
open BigFrame Lib
open Go.ChangeMaps (setBlock)

/-! the document's own blocks -/
structure WE where
  a : Option Addr
  c : Nat
  d : List Int
instance : Inhabited WE := ⟨⟨none, 0, []⟩⟩
def vW (e : WE) : Value := .slice e.a e.d.length e.c
def want (es : List WE) (k : Int) : List Int := if 0 ≤ k then (es.getD k.toNat default).d else []
structure RefM (w : World) (gx lb : Nat) (n : Nat) (D : Int → List Int) : Prop where
  top : w.heap[gx]? = some (.cells ([.slice (some ⟨lb, 0, none⟩) n n] : List Value).toArray 94 (0, 0))
  ex : ∃ es : List WE, w.heap[lb]? = some (.cells (es.map vW).toArray 35 (0, 0)) ∧ es.length = n ∧ (∀ e ∈ es, Rd u8 w e.a e.d ∧ (e.d = [] ∨ e.d.length = 40) ∧ e.c ≤ maxLen) ∧ ∀ k, want es k = D k
  hi : n ≤ 1048576
  lo : 1 ≤ n

theorem want_out (es : List WE) (k : Int) (h : ¬ (0 ≤ k ∧ k < es.length)) : want es k = [] := by
  unfold want
  split
  · rw [List.getD_eq_getElem?_getD, List.getElem?_eq_none (by omega)]; rfl
  · rfl
theorem RefM.out {w : World} {gx lb n : Nat} {D : Int → List Int} (h : RefM w gx lb n D) (k : Int) (hk : ¬ (0 ≤ k ∧ k < n)) : D k = [] := by
  obtain ⟨es, _, hl, _, hw⟩ := h.ex
  rw [← hw]; exact want_out es k (by omega)
theorem RefM.len {w : World} {gx lb n : Nat} {D : Int → List Int} (h : RefM w gx lb n D) (k : Int) : D k = [] ∨ (D k).length = 40 := by
  obtain ⟨es, _, hl, ho, hw⟩ := h.ex
  by_cases hk : 0 ≤ k ∧ k < n
  · rw [← hw]
    unfold want
    rw [if_pos hk.1, List.getD_eq_getElem?_getD, List.getElem?_eq_getElem (by omega : k.toNat < es.length)]
    exact (ho _ (List.getElem_mem _)).2.1
  · exact .inl (h.out k hk)
theorem RefM.get {w : World} {gx lb n : Nat} {D : Int → List Int} (h : RefM w gx lb n D) (k : Nat) (hk : k < n) : ∃ e : WE, w.cell? ⟨lb, k, none⟩ = some (.slice e.a (D k).length e.c) ∧ Rd u8 w e.a (D k) ∧ e.c ≤ maxLen := by
  obtain ⟨es, hb, hl, ho, hw⟩ := h.ex
  have hlt : k < es.length := by omega
  have hD : D (k : Int) = es[k].d := by
    rw [← hw]; unfold want
    rw [if_pos (by omega), Int.toNat_natCast, List.getD_eq_getElem?_getD, List.getElem?_eq_getElem hlt]; rfl
  refine ⟨es[k], ?_, ?_, (ho _ (List.getElem_mem hlt)).2.2⟩
  · rw [hD]
    exact cell_heap hb (by rw [List.getElem?_map, List.getElem?_eq_getElem hlt]; rfl)
  · rw [hD]; exact (ho _ (List.getElem_mem hlt)).1
theorem RefM.ne {w : World} {gx lb n : Nat} {D : Int → List Int} (h : RefM w gx lb n D) : gx ≠ lb := by
  rintro rfl
  obtain ⟨es, hb, _⟩ := h.ex
  rw [h.top] at hb
  simp at hb
theorem RefM.c0 {w : World} {gx lb n : Nat} {D : Int → List Int} (h : RefM w gx lb n D) : w.cell? ⟨gx, 0, none⟩ = some (.slice (some ⟨lb, 0, none⟩) n n) := cell_heap h.top rfl
theorem RefM.chg {S : Nat → Prop} {w w' : World} {gx lb n : Nat} {D : Int → List Int} (h : RefM w gx lb n D) (hC : Chg S w w') (hS : ∀ k, S k → NoU8 w k) (h1 : ¬ S gx) (h2 : ¬ S lb) : RefM w' gx lb n D := by
  obtain ⟨es, hb, hl, ho, hw⟩ := h.ex
  exact ⟨(hC.block gx (lt_heap h.top) h1).trans h.top, ⟨es, (hC.block lb (lt_heap hb) h2).trans hb, hl, fun e he => ⟨(ho e he).1.chg_no hC hS, (ho e he).2⟩, hw⟩, h.hi, h.lo⟩
theorem RefM.below {w w' : World} {gx lb n : Nat} {D : Int → List Int} (h : RefM w gx lb n D) (hB : Below w.heap.size w w') : RefM w' gx lb n D :=
  h.chg (S := fun _ => False) (Chg.of_below hB) (fun _ h => h.elim) id id
theorem noU8_slices {w : World} {k : Nat} {es : List WE} (h : w.heap[k]? = some (.cells (es.map vW).toArray 35 (0, 0))) : NoU8 w k := by
  intro o x hc
  simp only [World.cell?, h, Option.isSome_none, Bool.false_eq_true, if_false, List.getElem?_toArray, List.getElem?_map, Option.map_eq_some_iff] at hc
  obtain ⟨y, _, hy⟩ := hc
  cases hy
theorem RefM.no {w : World} {gx lb n : Nat} {D : Int → List Int} (h : RefM w gx lb n D) : NoU8 w lb := by
  obtain ⟨es, hb, _⟩ := h.ex; exact noU8_slices hb

theorem Try.info35 : (Try.prog.info? 35).map (fun i => (i.zero, i.size, i.bytes)) = some (some (.slice none 0 0), 1, 24) := by kernel_rfl
def reps (n : Nat) : List WE := List.replicate n default
theorem reps_flat (n : Nat) : (List.replicate n ()).flatMap (fun _ => [Value.slice none 0 0]) = (reps n).map vW := by
  induction n with
  | zero => rfl
  | succ n ih =>
    unfold reps at *
    simp only [List.replicate_succ, List.flatMap_cons, List.map_cons]
    rw [ih]; rfl
set_option maxRecDepth 100000 in
theorem mkrows (n : Nat) (hn : n ≤ 1048576) (W : World) : (Instr.makeSlice 92 (.int .i64 n) (.int .i64 n)).run Try.prog W = .ok (.slice (some ⟨W.heap.size, 0, none⟩) n n) (W.alloc (.cells ((reps n).map vW).toArray 35)) := by
  have := make_run (P := Try.prog) (T := 92) (E := 35) (fun _ : Unit => [Value.slice none 0 0]) () Try.underlying92 Try.info35 rfl rfl (by omega) n (by omega) (by omega) W
  rw [reps_flat] at this
  exact this

theorem rnew_bad (n : Int) (w : World) (h : n < 1 ∨ 1048576 < n) : Calls Try.prog 27 #[.int .i64 n] w fun e w' => e = .returned (.tuple #[.pointer none, .int .i64 1]) ∧ w = w' := by
  by_cases h1 : n < 1
  · go_enter Try.func27, Try.ntmps27
    go_wp2
    go_ret2
    exact ⟨rfl, rfl⟩
  · have h2 : 1048576 < n := by omega
    clear h
    go_enter Try.func27, Try.ntmps27
    go_wp2
    go_ret2
    exact ⟨rfl, rfl⟩
set_option maxRecDepth 100000 in
theorem rnew_good (n : Nat) (w : World) (h1 : 1 ≤ n) (h2 : n ≤ 1048576) : Calls Try.prog 27 #[.int .i64 n] w fun e w' =>
    e = .returned (.tuple #[.pointer (some ⟨w.heap.size + 1, 0, none⟩), .int .i64 0]) ∧ Below w.heap.size w w' ∧ RefM w' (w.heap.size + 1) w.heap.size n (fun _ => []) := by
  have MK := Lib.hid (mkrows n h2 w)
  go_enter Try.func27, Try.ntmps27
  go_wp2_with fail
  rw [MK.out]
  go_wp2
  go_ret2
  refine ⟨by simp, ((Below.refl _ w).alloc (Nat.le_refl _) _).alloc (by simp) _, ?_, ⟨reps n, (alloc_heap (by simp)).trans (alloc_new rfl), by simp [reps], fun e he => by rw [List.eq_of_mem_replicate he]; exact ⟨Rd.nil _ _ _, .inl rfl, Nat.zero_le _⟩, fun k => ?_⟩, h2, h1⟩
  · rw [alloc_new (by simp)]
  · unfold want
    split
    · unfold reps; rw [List.getD_eq_getElem?_getD, List.getElem?_replicate]; split <;> rfl
    · rfl

set_option maxRecDepth 100000 in
/-- blank -/
theorem blank_any (a : Option Addr) (c : Nat) (l : List Int) (w : World) (hn : l.length ≤ 140737488351232) (h1 : Rd u8 w a l) :
    Calls Try.prog 53 #[.slice a l.length c] w fun e w' => e = .returned (.bool (allz l)) ∧ w = w' := by
  have H1 := Lib.hid h1; clear h1
  generalize hm : l.length = n at *
  have HM := Lib.hid hm; clear hm
  go_enter Try.func53, Try.ntmps53
  go_wp2_with fail
  go_loopw [3] (fun iv wr => ∃ i : Nat, i ≤ n ∧ iv = .int .i64 i ∧ w = wr ∧ allz (l.take i) = true) (fun iv _ => n - (intOf iv).toNat)
  case atStart => exact ⟨0, Nat.zero_le _, rfl, rfl, rfl⟩
  case round =>
    obtain ⟨i, hi, rfl, rfl, ht⟩ := hrel
    have HT := Lib.hid ht; clear ht
    by_cases hlt : i < n
    · have hx : l[i]? = some (l[i]'(by rw [HM.out]; exact hlt)) := List.getElem?_eq_getElem _
      generalize l[i]'(by rw [HM.out]; exact hlt) = x at hx
      obtain ⟨b1, o1, rfl, e1, d1⟩ := H1.out i x hx
      simp only [Go.Proofs.Ytdgnhimiamchmaa.u8] at d1
      have HX := Lib.hid hx; clear hx
      by_cases hxy : x = 0
      · have t2 : (x != 0) = false := by simpa using hxy
        have HXY := Lib.hid hxy; clear hxy
        go_wp2
        go_roundw
        case rel => exact ⟨i + 1, by omega, by go_num, by first | rfl | trivial, by
          rw [List.take_add_one, HX.out]
          have := HT.out
          unfold allz at this ⊢
          rw [List.all_append, this]; simp [HXY.out]⟩
        case measure => simp [intOf]; omega
      · have t2 : (x != 0) = true := by simpa using hxy
        have hne : Hid (allz l = false) := by
          show _ = _
          unfold allz
          rw [List.all_eq_false]
          exact ⟨x, List.mem_of_getElem? HX.out, by simpa using hxy⟩
        clear hxy
        go_wp2
        go_ret
        exact ⟨by rw [hne.out]; rfl, rfl⟩
    · have he : Hid (allz l = true) := by
        show _ = _
        have := HT.out
        rwa [List.take_of_length_le (by rw [HM.out]; omega)] at this
      go_wp2
      go_ret
      exact ⟨by rw [he.out]; rfl, rfl⟩
theorem noughts_nil : allz [] = true := rfl
def shown (d : List Int) : List Int := if d = [] then zeros else d
theorem shown_nil : shown [] = zeros := rfl
theorem shown_len {d : List Int} (h : d.length = 40) : shown d = d := by unfold shown; rw [if_neg (by intro e; rw [e] at h; cases h)]
theorem allz_shown {d : List Int} (h : d = [] ∨ d.length = 40) : allz d = true ↔ shown d = zeros := by
  rcases h with rfl | h
  · simp [shown, allz]
  · rw [shown_len h]
    exact ⟨allz_iff d h, fun e => by rw [e]; exact allz_zeros⟩

set_option maxRecDepth 100000 in
theorem rget_bad {gx lb n : Nat} {D : Int → List Int} (k : Int) (w : World) (hM : RefM w gx lb n D) (hk : ¬ (0 ≤ k ∧ k < n)) :
    Calls Try.prog 35 #[.pointer (some ⟨gx, 0, none⟩), .int .i64 k] w fun e w' => e = .returned (.tuple #[.slice none 0 0, .int .i64 2]) ∧ w = w' := by
  have c0 := hM.c0
  have h1 := hM.hi
  clear hM
  by_cases h0 : k < 0
  · go_enter Try.func35, Try.ntmps35
    go_wp2
    go_ret2
    exact ⟨rfl, rfl⟩
  · have t1 : decide (k < 0) = false := by simpa using h0
    have t2 : decide ((n : Int) ≤ k) = true := by simp; omega
    have t3 : (n : Int) ≤ k := by omega
    clear hk
    go_enter Try.func35, Try.ntmps35
    go_wp2
    go_ret2
    exact ⟨rfl, rfl⟩
set_option maxRecDepth 100000 in
theorem rget_any {gx lb n : Nat} {D : Int → List Int} (k : Int) (w : World) (hM : RefM w gx lb n D) (hk : 0 ≤ k ∧ k < n) :
    Calls Try.prog 35 #[.pointer (some ⟨gx, 0, none⟩), .int .i64 k] w fun e w' => ∃ a c, e = .returned (.tuple #[.slice a 40 c, .int .i64 0]) ∧ Below w.heap.size w w' ∧ Rd u8 w' a (shown (D k)) ∧ (shown (D k)).length = 40 := by
  have c0 := hM.c0
  have h1 := hM.hi
  obtain ⟨i, rfl⟩ : ∃ i : Nat, k = i := ⟨k.toNat, by omega⟩
  have hin : i < n := by omega
  obtain ⟨e, c1, hR, _⟩ := hM.get i hin
  have hl := hM.len (i : Int)
  clear hM hk
  have t1 : decide ((i : Int) < 0) = false := by simp
  have t2 : decide ((n : Int) ≤ (i : Int)) = false := by simp; omega
  rcases hl with hl | hl
  · rw [hl] at c1
    simp only [List.length_nil] at c1
    have HS : Hid (shown (D i) = zeros) := by show _ = _; rw [hl]; rfl
    clear hR hl
    go_enter Try.func35, Try.ntmps35
    go_wp2_with fail
    rw [mk40]
    go_wp2
    go_ret2
    rw [HS.out]
    exact ⟨_, _, rfl, (Below.refl _ w).alloc (Nat.le_refl _) _, (Rd.of_own (World.ownsRow_lit w _ 40 (Nat.le_refl _) (by unfold maxLen; omega) rfl)).2, rfl⟩
  · rw [hl] at c1
    have HS : Hid (shown (D i) = D i) := shown_len hl
    have HR := Lib.hid hR
    have HL := Lib.hid hl
    clear hR hl
    go_enter Try.func35, Try.ntmps35
    go_wp2
    go_ret2
    rw [HS.out]
    exact ⟨_, _, rfl, Below.refl _ _, HR.out, HL.out⟩
end Go.Proofs.Ytdgnhimiamchmaa
