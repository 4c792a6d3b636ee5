import Derived.WalkKit
import Derived.WalkSpells
import Derived.WalkLawsBesides
import Derived.Deep.QuietTactic
import Derived.BigQuiet
import Derived.Deep.LoopGhost
import Derived.Lib.Hide
import Derived.KernelRfl
namespace Go.Proofs.Ytdgnhimiamchmaa
open Go.RowKit

/-- Outside the blocks in S the world w' is as w was. -/
structure Chg (S : Nat → Prop) (w w' : World) : Prop where
  os : w'.os = w.os
  tape : w'.tape = w.tape
  output : w'.output = w.output
  size : w.heap.size ≤ w'.heap.size
  block : ∀ k, k < w.heap.size → ¬ S k → w'.heap[k]? = w.heap[k]?

theorem Chg.refl (S : Nat → Prop) (w : World) : Chg S w w := ⟨rfl, rfl, rfl, Nat.le_refl _, fun _ _ _ => rfl⟩
theorem Chg.trans {S : Nat → Prop} {a b c : World} (h : Chg S a b) (k : Chg S b c) : Chg S a c :=
  ⟨k.os.trans h.os, k.tape.trans h.tape, k.output.trans h.output, Nat.le_trans h.size k.size,
   fun i hi hn => (k.block i (Nat.lt_of_lt_of_le hi h.size) hn).trans (h.block i hi hn)⟩
theorem Chg.mono {S T : Nat → Prop} {w w' : World} (h : Chg S w w') (hs : ∀ k, k < w.heap.size → S k → T k) : Chg T w w' :=
  ⟨h.os, h.tape, h.output, h.size, fun k hk hn => h.block k hk (fun s => hn (hs k hk s))⟩
theorem Chg.of_below {S : Nat → Prop} {w w' : World} (h : Below w.heap.size w w') : Chg S w w' :=
  ⟨h.os, h.tape, h.output, h.size, fun k hk _ => h.block k hk⟩
theorem Chg.below {S : Nat → Prop} {B : Nat} {w w' : World} (h : Chg S w w') (hB : B ≤ w.heap.size) (hs : ∀ k, k < B → ¬ S k) : Below B w w' :=
  ⟨h.os, h.tape, h.output, h.size, fun k hk => h.block k (Nat.lt_of_lt_of_le hk hB) (hs k hk)⟩
theorem Chg.drew {S : Nat → Prop} {a w : World} (h : Chg S a w) : Chg S a w.drew := ⟨h.os, h.tape, h.output, h.size, h.block⟩
theorem Chg.alloc {S : Nat → Prop} {a w : World} (h : Chg S a w) (o : Obj) : Chg S a (w.alloc o) :=
  ⟨h.os, h.tape, h.output, by have := h.size; simp; omega, fun k hk hn => (Below.heap_alloc _ _ _ (Nat.lt_of_lt_of_le hk h.size)).trans (h.block k hk hn)⟩
theorem Chg.setCell {S : Nat → Prop} {a w : World} (h : Chg S a w) {p : Addr} (hp : S p.block ∨ a.heap.size ≤ p.block) (u : Value) : Chg S a (w.setCell p u) :=
  ⟨h.os, h.tape, h.output, by have := h.size; simp [World.setCell]; omega, fun k hk hn =>
    (Below.heap_setCell _ _ _ _ (by rintro rfl; rcases hp with hp | hp; exact hn hp; omega)).trans (h.block k hk hn)⟩
theorem Chg.grown {S : Nat → Prop} {a w w' : World} {row : Option Nat} (h : Chg S a w) (hg : w.grownBy w' row) (hr : ∀ k, row = some k → S k ∨ a.heap.size ≤ k) : Chg S a w' :=
  ⟨hg.os.trans h.os, hg.tape.trans h.tape, hg.output.trans h.output, Nat.le_trans h.size hg.size, fun k hk hn =>
    (hg.block k (Nat.lt_of_lt_of_le hk h.size) (by intro e; rcases hr k e.symm with h1 | h1; exact hn h1; omega)).trans (h.block k hk hn)⟩

theorem below_chg {B : Nat} {S : Nat → Prop} {a b c : World} (h : Below B a b) (hC : Chg S b c) (hB : B ≤ a.heap.size) (hs : ∀ k, S k → B ≤ k) : Below B a c :=
  h.trans (hC.below (Nat.le_trans hB h.size) (fun k hk hS => by have := hs k hS; omega))
theorem below_below {B : Nat} {a b c : World} (h : Below B a b) (hC : Below b.heap.size b c) (hB : B ≤ a.heap.size) : Below B a c :=
  h.trans (hC.mono (Nat.le_trans hB h.size))

/-- A world of a class, as a structure, so that the walk's simp does not take it apart. -/
structure InC (C : World → Prop) where
  w : World
  h : C w

theorem wp_region_class {P : Program} {id : Nat} {Q : Exit → Act → World → Prop} {a : Act} {w : World} {l : List Oper} (C : World → Prop) (hm : P.follows .mixedOrders = true) (hB : Region.lexB .any l.toArray = true) (h0 : C w.drew)
    (h : wpQuiet P l.toArray (fun w' => ∃ p : InC C, w' = p.w) (fun a' => ∀ p : InC C, Q .normal a' p.w) l a) : (Code.region id l.toArray true).wp P Q a w := by
  refine wp_region_quiet (C := fun w' => ∃ p : InC C, w' = p.w) hm hB ⟨⟨w.drew, h0⟩, rfl⟩ ?_
  have e : (fun a' => ∀ w', (∃ p : InC C, w' = p.w) → Q .normal a' w') = (fun a' => ∀ p : InC C, Q .normal a' p.w) := by
    funext a'
    exact propext ⟨fun h p => h p.w ⟨p, rfl⟩, fun h w' ⟨p, hp⟩ => hp ▸ h p⟩
  rw [e]
  simpa using h

theorem Calls.inC {P : Program} {f : FuncId} {args : Array Value} {w : World} {v : Value} {C : World → Prop}
    (h : Calls P f args w fun e w' => e = .returned v ∧ C w') : Calls P f args w fun e w'' => e = .returned v ∧ ∃ p : InC C, w'' = p.w :=
  h.mono fun _ w' ⟨he, hc⟩ => ⟨he, ⟨w', hc⟩, rfl⟩

theorem cell_heap {w : World} {b o : Nat} {c : List Value} {e : TypeId} {u : Value} (h : w.heap[b]? = some (.cells c.toArray e (0, 0))) (hu : c[o]? = some u) : w.cell? ⟨b, o, none⟩ = some u := by
  simp [World.cell?, h, hu]
theorem free_heap {w : World} {b o : Nat} {c : Array Value} {e : TypeId} (h : w.heap[b]? = some (.cells c e (0, 0))) : w.frozen? ⟨b, o, none⟩ = false := by
  simp [World.frozen?, h]
theorem lt_heap {w : World} {b : Nat} {o : Obj} (h : w.heap[b]? = some o) : b < w.heap.size := by
  rcases Nat.lt_or_ge b w.heap.size with h' | h'
  · exact h'
  · simp [Array.getElem?_eq_none h'] at h
theorem set_heap {w : World} {b o : Nat} {c : List Value} {e : TypeId} {u : Value} (h : w.heap[b]? = some (.cells c.toArray e (0, 0))) :
    (w.setCell ⟨b, o, none⟩ u).heap[b]? = some (.cells (c.set o u).toArray e (0, 0)) := by
  simp [World.setCell, Array.getElem?_modify, h]
theorem set_heap_ne {w : World} {b k o : Nat} {u : Value} (h : k ≠ b) : (w.setCell ⟨b, o, none⟩ u).heap[k]? = w.heap[k]? := Below.heap_setCell _ _ _ _ h
theorem alloc_heap {w : World} {k : Nat} {o : Obj} (h : k < w.heap.size) : (w.alloc o).heap[k]? = w.heap[k]? := Below.heap_alloc _ _ _ h
theorem alloc_new {w : World} {k : Nat} {o : Obj} (h : k = w.heap.size) : (w.alloc o).heap[k]? = some o := by
  subst h; show (w.heap.push o)[w.heap.size]? = _; simp

/-! ### rows of structs -/
section
variable {α : Type} {enc : α → List Value} {k : Nat}
theorem flat_len (hk : ∀ x, (enc x).length = k) (l : List α) : (l.flatMap enc).length = l.length * k := by
  induction l with
  | nil => simp
  | cons x l ih => simp [List.flatMap_cons, hk, ih, Nat.succ_mul]; omega
theorem flat_get (hk : ∀ x, (enc x).length = k) (l : List α) (i j : Nat) (hj : j < k) : (l.flatMap enc)[i * k + j]? = (l[i]?).bind (fun x => (enc x)[j]?) := by
  induction l generalizing i with
  | nil => simp
  | cons x l ih =>
    cases i with
    | zero => simp [List.flatMap_cons, List.getElem?_append, hk, hj]
    | succ i =>
      have e : (i + 1) * k + j = k + (i * k + j) := by rw [Nat.succ_mul]; omega
      rw [List.flatMap_cons, e, List.getElem?_append_right (by rw [hk]; omega), hk, Nat.add_sub_cancel_left, ih]
      simp
theorem flat_set (hk : ∀ x, (enc x).length = k) (l : List α) (i j : Nat) (hj : j < k) (v : Value) (x y : α) (hx : l[i]? = some x) (hy : enc y = (enc x).set j v) :
    (l.flatMap enc).set (i * k + j) v = (l.set i y).flatMap enc := by
  induction l generalizing i with
  | nil => simp at hx
  | cons z l ih =>
    cases i with
    | zero =>
      simp at hx; subst hx
      simp [List.flatMap_cons, hk, hj, hy]
    | succ i =>
      have e : (i + 1) * k + j = k + (i * k + j) := by rw [Nat.succ_mul]; omega
      simp only [List.getElem?_cons_succ] at hx
      rw [List.flatMap_cons, e, List.set_append, hk, if_neg (by omega), Nat.add_sub_cancel_left, ih i hx, List.set_cons_succ, List.flatMap_cons]
end
theorem made_flat {α : Type} (enc : α → List Value) (x : α) (k n : Nat) (hk : (enc x).length = k) (h0 : 0 < k) : madeCells (enc x).toArray (n * k) = ((List.replicate n x).flatMap enc).toArray := by
  have hh : ∀ m a r, r < k → a < m → ((List.replicate m x).flatMap enc)[a * k + r]? = (enc x)[r]? := by
    intro m
    induction m with
    | zero => intro a r hr ha; omega
    | succ m ih =>
      intro a r hr ha
      rw [List.replicate_succ, List.flatMap_cons]
      cases a with
      | zero => simp [List.getElem?_append, hk, hr]
      | succ a =>
        rw [List.getElem?_append_right (by rw [hk, Nat.succ_mul]; omega), hk, show (a + 1) * k + r - k = a * k + r by rw [Nat.succ_mul]; omega]
        exact ih a r hr (by omega)
  have hlen : ((List.replicate n x).flatMap enc).length = n * k := by
    clear hh
    induction n with
    | zero => simp
    | succ n ih => rw [List.replicate_succ, List.flatMap_cons, List.length_append, ih, hk, Nat.succ_mul]; omega
  apply Array.ext_getElem?
  intro i
  simp only [List.getElem?_toArray]
  by_cases h : i < n * k
  · have hd : i / k < n := (Nat.div_lt_iff_lt_mul h0).2 h
    have hlt : i % k < k := Nat.mod_lt _ h0
    have e := hh n (i / k) (i % k) hlt hd
    rw [Nat.div_add_mod' i k] at e
    rw [e]
    have hm : i % k < (enc x).length := by omega
    simp [madeCells, h, hk, List.getElem?_eq_getElem hm]
  · rw [List.getElem?_eq_none (by omega), Array.getElem?_eq_none (by rw [size_madeCells]; omega)]
theorem make_run {α : Type} {P : Program} {T E : TypeId} {zv : Value} {sz bytes : Nat} (enc : α → List Value) (x : α) (hT : P.underlying T = some (.slice E)) (hE : (P.info? E).map (fun i => (i.zero, i.size, i.bytes)) = some (some zv, sz, bytes))
    (hx : zv.cells = (enc x).toArray) (hsz : (enc x).length = sz) (h0 : 0 < sz) (n : Nat) (hn : bytes * n ≤ 140737488355328) (hm : n ≤ 140737488355328) (W : World) :
    (Instr.makeSlice T (.int .i64 n) (.int .i64 n)).run P W = .ok (.slice (some ⟨W.heap.size, 0, none⟩) n n) (W.alloc (.cells ((List.replicate n x).flatMap enc).toArray E)) := by
  obtain ⟨i0, hi, hz0, hz1, hz2⟩ := info_parts hE
  have hb : (i0.bytes : Int) * (n : Int) ≤ 281474976710656 := by
    rw [hz2]
    have : ((bytes * n : Nat) : Int) ≤ 140737488355328 := by omega
    rw [Int.natCast_mul] at this
    omega
  have hr := run_make (P := P) W T E i0 _ hT hi hz0 .i64 .i64 n n (by omega) (Int.le_refl _) hb (by omega)
  rw [hz1] at hr
  simp only [Int.toNat_natCast] at hr
  rw [hx, made_flat enc x sz n hsz h0] at hr
  exact hr
end Go.Proofs.Ytdgnhimiamchmaa
