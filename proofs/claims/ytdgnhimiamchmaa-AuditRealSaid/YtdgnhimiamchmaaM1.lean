import Derived.Test.YtdgnhimiamchmaaB2
namespace Go.Proofs.Ytdgnhimiamchmaa
open Go.RowKit
open BigFrame Lib

theorem run_mkmap {P : Program} (t : TypeId) (w : World) : (Instr.makeMap t none).run P w = .ok (.map (some w.heap.size)) (w.alloc (.map #[] 0)) := rfl
def zeros : List Int := List.replicate 40 0
theorem allz_zeros : allz zeros = true := by decide
theorem allz_iff (l : List Int) (h : l.length = 40) (hz : allz l = true) : l = zeros := by
  unfold zeros allz at *
  rw [List.eq_replicate_iff]
  refine ⟨h, fun x hx => ?_⟩
  have := List.all_eq_true.1 hz x hx
  simpa using this

/-- what a key's entry says -/
def Ent (w : World) (v : Option Value) (l : List Int) : Prop :=
  match v with
  | none => l = zeros
  | some v => ∃ ad c, v = .slice (some ad) 40 c ∧ Rd u8 w (some ad) l ∧ l.length = 40 ∧ allz l = false

/-- a model: its cells in block g, its map in block r; n blocks, which hold d -/
structure MAt (w : World) (g r : Nat) (n : Int) (d : Int → List Int) : Prop where
  cell : w.heap[g]? = some (.cells ([.int .i64 n, .map (some r)] : List Value).toArray 82 (0, 0))
  ex : ∃ m, MapIs w r m ∧ ∀ k, Ent w (mget m k) (d k)
  lo : 1 ≤ n
  hi : n ≤ 1048576

theorem Rd.head {α : Type} {f : α → Value} {w : World} {a : Option Addr} {l : List α} (h : Rd f w a l) (h0 : 0 < l.length) : ∃ b o, a = some ⟨b, o, none⟩ ∧ b < w.heap.size ∧ ∃ v, w.cell? ⟨b, o, none⟩ = some v := by
  obtain ⟨b, o, h1, h2, h3⟩ := h 0 _ (List.getElem?_eq_getElem h0)
  exact ⟨b, o, h1, h2, _, h3⟩
/-- a block that holds a map holds no row -/
theorem Rd.no_map {α : Type} {f : α → Value} {w : World} {a : Option Addr} {l : List α} (h : Rd f w a l) (h0 : 0 < l.length) {r : Nat} {m : IM} (hm : MapIs w r m) : ∀ b o, a = some ⟨b, o, none⟩ → b ≠ r := by
  obtain ⟨b, o, h1, _, v, h3⟩ := h.head h0
  rintro b' o' e rfl
  rw [h1] at e
  cases e
  obtain ⟨es, cl, hb, _⟩ := hm
  simp [World.cell?, hb] at h3
theorem Ent.chg {S : Nat → Prop} {w w' : World} {v : Option Value} {l : List Int} (h : Ent w v l) (hC : Chg S w w') (hS : ∀ k, S k → ∃ m, MapIs w k m) : Ent w' v l := by
  cases v with
  | none => exact h
  | some v =>
    obtain ⟨ad, c, h1, h2, h3, h4⟩ := h
    refine ⟨ad, c, h1, h2.chg hC (fun b o e s => ?_), h3, h4⟩
    obtain ⟨m, hm⟩ := hS b s
    exact h2.no_map (by omega) hm b o e rfl
theorem MAt.chg {S : Nat → Prop} {w w' : World} {g r : Nat} {n : Int} {d : Int → List Int} (h : MAt w g r n d) (hC : Chg S w w') (hS : ∀ k, S k → ∃ m, MapIs w k m) (hr : ¬ S r) : MAt w' g r n d := by
  obtain ⟨h1, ⟨m, h2, h3⟩, h4, h5⟩ := h
  refine ⟨(hC.block g (lt_heap h1) ?_).trans h1, ⟨m, h2.of_eq (hC.block r h2.lt hr), fun k => (h3 k).chg hC hS⟩, h4, h5⟩
  intro s
  obtain ⟨m', es, cl, hb, _⟩ := hS g s
  rw [h1] at hb
  cases hb
theorem MAt.below {w w' : World} {g r : Nat} {n : Int} {d : Int → List Int} (h : MAt w g r n d) (hB : Below w.heap.size w w') : MAt w' g r n d :=
  h.chg (S := fun _ => False) (Chg.of_below hB) (fun _ h => h.elim) id
theorem MAt.map {w : World} {g r : Nat} {n : Int} {d : Int → List Int} (h : MAt w g r n d) : ∃ m, MapIs w r m := by
  obtain ⟨_, ⟨m, h2, _⟩, _⟩ := h; exact ⟨m, h2⟩
theorem MAt.lt_r {w : World} {g r : Nat} {n : Int} {d : Int → List Int} (h : MAt w g r n d) : r < w.heap.size := by
  obtain ⟨m, h2⟩ := h.map; exact h2.lt
theorem MAt.c0 {w : World} {g r : Nat} {n : Int} {d : Int → List Int} (h : MAt w g r n d) : w.cell? ⟨g, 0, none⟩ = some (.int .i64 n) := cell_heap h.cell rfl
theorem MAt.c1 {w : World} {g r : Nat} {n : Int} {d : Int → List Int} (h : MAt w g r n d) : w.cell? ⟨g, 1, none⟩ = some (.map (some r)) := cell_heap h.cell rfl

theorem new_bad (n : Int) (w : World) (h : n < 1 ∨ 1048576 < n) : Calls Try.prog 18 #[.int .i64 n] w fun e w' => e = .returned (.tuple #[.pointer none, .int .i64 1]) ∧ w = w' := by
  by_cases h1 : n < 1
  · go_enter Try.func18, Try.ntmps18
    go_wp2
    go_ret2
    exact ⟨rfl, rfl⟩
  · have h2 : 1048576 < n := by omega
    clear h
    go_enter Try.func18, Try.ntmps18
    go_wp2
    go_ret2
    exact ⟨rfl, rfl⟩

theorem new_good (n : Int) (w : World) (h1 : 1 ≤ n) (h2 : n ≤ 1048576) : Calls Try.prog 18 #[.int .i64 n] w fun e w' =>
    e = .returned (.tuple #[.pointer (some ⟨w.heap.size + 1, 0, none⟩), .int .i64 0]) ∧ Below w.heap.size w w' ∧ MAt w' (w.heap.size + 1) w.heap.size n (fun _ => zeros) := by
  go_enter Try.func18, Try.ntmps18
  go_wp2_with fail
  rw [run_mkmap]
  go_wp2
  go_ret2
  refine ⟨by simp, ((Below.refl _ w).alloc (Nat.le_refl _) _).alloc (by simp) _, ?_, ⟨[], (MapIs.new w).of_eq (alloc_heap (by simp)), fun k => rfl⟩, h1, h2⟩
  rw [alloc_new (by simp)]

theorem block_nil (k : Int) (w : World) : Calls Try.prog 43 #[.pointer none, .int .i64 k] w fun e w' => e = .returned (.bool false) ∧ w = w' := by
  go_enter Try.func43, Try.ntmps43
  go_wp2
  go_ret
  exact ⟨rfl, rfl⟩

theorem block_any {g r : Nat} {n : Int} {d : Int → List Int} (k : Int) (w : World) (hM : MAt w g r n d) : Calls Try.prog 43 #[.pointer (some ⟨g, 0, none⟩), .int .i64 k] w fun e w' => e = .returned (.bool (decide (0 ≤ k ∧ k < n))) ∧ w = w' := by
  have c0 := hM.c0
  have h1 := hM.lo
  have h2 := hM.hi
  clear hM
  by_cases h3 : 0 ≤ k
  · by_cases h4 : k < n
    · go_enter Try.func43, Try.ntmps43
      go_wp2
      go_ret
      exact ⟨by simp [h3, h4], rfl⟩
    · have h5 : decide (k < n) = false := by simpa using h4
      go_enter Try.func43, Try.ntmps43
      go_wp2
      go_ret
      exact ⟨by simp [h3, h4], rfl⟩
  · have h5 : decide (0 ≤ k) = false := by simpa using h3
    go_enter Try.func43, Try.ntmps43
    go_wp2
    go_ret
    exact ⟨by simp [h3], rfl⟩
end Go.Proofs.Ytdgnhimiamchmaa
