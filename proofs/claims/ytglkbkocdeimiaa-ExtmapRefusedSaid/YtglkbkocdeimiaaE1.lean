import Derived.Test.YtglkbkocdeimiaaD
import Derived.Test.YtglkbkocdeimiaaS
namespace Go.Proofs.Ytglkbkocdeimiaa
open Go.RowKit
open BigFrame Lib
open Go.ChangeMaps (setBlock)

theorem own_below {w w' : World} {B : Nat} {e : TypeId} {s : Nat} {v : Value} {n : Nat} {xs : List Value} (h : w.ownsRow B e s v n xs) (hB : Below w.heap.size w w') : w'.ownsRow B e s v n xs := by
  refine ⟨h.1, ?_⟩
  rcases h.2 with h1 | ⟨g, cap, cur, h1, h2, h3, h4⟩
  · exact .inl h1
  · exact .inr ⟨g, cap, cur, h1, h2, (hB.block g (lt_heap h3)).trans h3, h4⟩
theorem own_chg {S : Nat → Prop} {w w' : World} {B : Nat} {e : TypeId} {s : Nat} {v : Value} {n : Nat} {xs : List Value} (h : w.ownsRow B e s v n xs) (hC : Chg S w w') (hS : ∀ b, v.ownBlock = some b → ¬ S b) : w'.ownsRow B e s v n xs := by
  refine ⟨h.1, ?_⟩
  rcases h.2 with h1 | ⟨g, cap, cur, h1, h2, h3, h4⟩
  · exact .inl h1
  · exact .inr ⟨g, cap, cur, h1, h2, (hC.block g (lt_heap h3) (hS g (by rw [h1]; rfl))).trans h3, h4⟩
theorem own_base {w : World} {B B' : Nat} {e : TypeId} {s : Nat} {v : Value} {n : Nat} {xs : List Value} (h : w.ownsRow B e s v n xs) (hB : B' ≤ B) : w.ownsRow B' e s v n xs := by
  refine ⟨h.1, ?_⟩
  rcases h.2 with h1 | ⟨g, cap, cur, h1, h2, h4⟩
  · exact .inl h1
  · exact .inr ⟨g, cap, cur, h1, Nat.le_trans hB h2, h4⟩
/-- a block that holds a map, or cells of another type, is no row's -/
def NoRow (w : World) (e : TypeId) (k : Nat) : Prop := ∀ cur, w.heap[k]? ≠ some (.cells cur e (0, 0))
theorem own_no {w : World} {B : Nat} {e : TypeId} {s : Nat} {v : Value} {n : Nat} {xs : List Value} (h : w.ownsRow B e s v n xs) {k : Nat} (hk : NoRow w e k) : v.ownBlock ≠ some k := by
  rcases h.2 with ⟨h1, _⟩ | ⟨g, cap, cur, h1, h2, h3, h4⟩
  · rw [h1]; simp [Value.ownBlock]
  · rw [h1]; simp only [Value.ownBlock]
    rintro e; cases e
    exact hk _ h3
theorem noRow_map {w : World} {e : TypeId} {k : Nat} {m : IM} (h : MapIs w k m) : NoRow w e k := by
  obtain ⟨es, cl, hb, _⟩ := h
  intro cur hc; rw [hb] at hc; cases hc
theorem noRow_type {w : World} {e e' : TypeId} {k : Nat} {cur : Array Value} {z : Nat × Nat} (h : w.heap[k]? = some (.cells cur e' z)) (hne : e' ≠ e) : NoRow w e k := by
  intro c hc; rw [h] at hc; cases hc; exact hne rfl

/-- a version: its time, where its data lie, and what they are -/
structure Ver where
  time : Int
  a : Option Addr
  c : Nat
  d : List Int
instance : Inhabited Ver := ⟨⟨0, none, 0, []⟩⟩
def encV (x : Ver) : List Value := [.int .i64 x.time, .slice x.a 40 x.c]
def VRow (B : Nat) (w : World) (v : Value) (l : List Ver) : Prop := w.ownsRow B 70 2 v l.length (l.flatMap encV) ∧ l ≠ [] ∧ ∀ x ∈ l, w.ownsRow B 5 1 (.slice x.a 40 x.c) 40 (x.d.map u8)
def VEnt (B : Nat) (w : World) (v : Option Value) (l : List Ver) : Prop :=
  match v with
  | none => l = []
  | some v => VRow B w v l
/-- what is read of versions -/
abbrev AV := Int × List Int
def absV (l : List Ver) : List AV := l.map fun x => (x.time, x.d)

/-- the map of an ext map: m is what lies in the block r, E the versions, A what is read of them -/
structure ExMap (B : Nat) (w : World) (r : Nat) (m : IM) (E : Int → List Ver) : Prop where
  map : MapIs w r m
  ent : ∀ k, VEnt B w (mget m k) (E k)
  apart : ∀ k k' v v', mget m k = some v → mget m k' = some v' → k ≠ k' → v.ownBlock ≠ v'.ownBlock
structure ExPure (n last : Int) (A : Int → List AV) : Prop where
  lo : 1 ≤ n
  hi : n ≤ 1048576
  l0 : 0 ≤ last
  l1 : last ≤ 1099511627776
  rise : ∀ k, (A k).Pairwise fun x y => x.1 < y.1
  top : ∀ k, ∀ x ∈ A k, 0 < x.1 ∧ x.1 ≤ last
  len : ∀ k, ∀ x ∈ A k, x.2.length = 40
  out : ∀ k, ¬ (0 ≤ k ∧ k < n) → A k = []
structure ExAt (B : Nat) (w : World) (g r : Nat) (n last : Int) (A : Int → List AV) : Prop where
  cell : w.heap[g]? = some (.cells ([.int .i64 n, .map (some r), .int .i64 last] : List Value).toArray 62 (0, 0))
  bg : B ≤ g
  br : B ≤ r
  ex : ∃ m E, ExMap B w r m E ∧ ∀ k, A k = absV (E k)
  pure : ExPure n last A

theorem VRow.chg {B : Nat} {S : Nat → Prop} {w w' : World} {v : Value} {l : List Ver} (h : VRow B w v l) (hC : Chg S w w') (h1 : ∀ b, v.ownBlock = some b → ¬ S b) (h2 : ∀ k, S k → NoRow w 5 k) : VRow B w' v l :=
  ⟨own_chg h.1 hC h1, h.2.1, fun x hx => own_chg (h.2.2 x hx) hC (fun b hb s => own_no (h.2.2 x hx) (h2 b s) hb)⟩
theorem ExMap.chg {B : Nat} {S : Nat → Prop} {w w' : World} {r : Nat} {m : IM} {E : Int → List Ver} (h : ExMap B w r m E) (hC : Chg S w w') (h1 : ∀ k, S k → NoRow w 5 k) (h2 : ∀ k, S k → NoRow w 70 k) (hr : ¬ S r) : ExMap B w' r m E := by
  refine ⟨h.map.of_eq (hC.block r h.map.lt hr), fun k => ?_, h.apart⟩
  have := h.ent k
  cases hg : mget m k with
  | none => rw [hg] at this; exact this
  | some v =>
    rw [hg] at this
    have hv : VRow B w v (E k) := this
    exact VRow.chg hv hC (fun b hb s => own_no hv.1 (h2 b s) hb) h1
theorem ExAt.chg {B : Nat} {S : Nat → Prop} {w w' : World} {g r : Nat} {n last : Int} {A : Int → List AV} (h : ExAt B w g r n last A) (hC : Chg S w w') (h1 : ∀ k, S k → NoRow w 5 k) (h2 : ∀ k, S k → NoRow w 70 k) (hr : ¬ S r) (hg : ¬ S g) : ExAt B w' g r n last A := by
  obtain ⟨m, E, hm, hA⟩ := h.ex
  exact ⟨(hC.block g (lt_heap h.cell) hg).trans h.cell, h.bg, h.br, ⟨m, E, hm.chg hC h1 h2 hr, hA⟩, h.pure⟩
theorem ExAt.below {B : Nat} {w w' : World} {g r : Nat} {n last : Int} {A : Int → List AV} (h : ExAt B w g r n last A) (hB : Below w.heap.size w w') : ExAt B w' g r n last A :=
  h.chg (S := fun _ => False) (Chg.of_below hB) (fun _ h => h.elim) (fun _ h => h.elim) id id
theorem ExAt.c0 {B : Nat} {w : World} {g r : Nat} {n last : Int} {A : Int → List AV} (h : ExAt B w g r n last A) : w.cell? ⟨g, 0, none⟩ = some (.int .i64 n) := cell_heap h.cell rfl
theorem ExAt.c1 {B : Nat} {w : World} {g r : Nat} {n last : Int} {A : Int → List AV} (h : ExAt B w g r n last A) : w.cell? ⟨g, 1, none⟩ = some (.map (some r)) := cell_heap h.cell rfl
theorem ExAt.c2 {B : Nat} {w : World} {g r : Nat} {n last : Int} {A : Int → List AV} (h : ExAt B w g r n last A) : w.cell? ⟨g, 2, none⟩ = some (.int .i64 last) := cell_heap h.cell rfl

theorem xnew_good (B : Nat) (n : Int) (w : World) (h1 : 1 ≤ n) (h2 : n ≤ 1048576) (hBw : B ≤ w.heap.size) : Calls Try.prog 10 #[.int .i64 n] w fun e w' =>
    e = .returned (.tuple #[.pointer (some ⟨w.heap.size + 1, 0, none⟩), .int .i64 0]) ∧ Below w.heap.size w w' ∧ ExAt B w' (w.heap.size + 1) w.heap.size n 0 (fun _ => []) := by
  go_enter Try.func10, Try.ntmps10
  go_wp2_with fail
  rw [run_mkmap]
  go_wp2
  go_ret2
  refine ⟨by simp, ((Below.refl _ w).alloc (Nat.le_refl _) _).alloc (by simp) _, ?_, by omega, hBw, ⟨[], fun _ => [], ⟨(MapIs.new w).of_eq (alloc_heap (by simp)), fun k => rfl, fun k k' v v' h => by cases h⟩, fun k => rfl⟩, ?_⟩
  · rw [alloc_new (by simp)]
  · exact ⟨h1, h2, by omega, by omega, fun k => List.Pairwise.nil, fun k x hx => by simp at hx, fun k x hx => by simp at hx, fun _ _ => rfl⟩

theorem gone_any {B g r : Nat} {n last : Int} {A : Int → List AV} (w : World) (hX : ExAt B w g r n last A) : Calls Try.prog 26 #[.pointer (some ⟨g, 0, none⟩)] w fun e w' => e = .returned (.bool false) ∧ w = w' := by
  have c0 := hX.c0
  have h1 := hX.pure.lo
  have h2 := hX.pure.hi
  have t1 : (n == 0) = false := by simp; omega
  clear hX
  go_enter Try.func26, Try.ntmps26
  go_wp2
  go_ret
  exact ⟨rfl, rfl⟩
theorem blocks_any {B g r : Nat} {n last : Int} {A : Int → List AV} (w : World) (hX : ExAt B w g r n last A) : Calls Try.prog 23 #[.pointer (some ⟨g, 0, none⟩)] w fun e w' => e = .returned (.int .i64 n) ∧ w = w' := by
  have c0 := hX.c0
  clear hX
  go_enter Try.func23, Try.ntmps23
  go_wp2
  go_ret
  exact ⟨rfl, rfl⟩
theorem last_any {B g r : Nat} {n last : Int} {A : Int → List AV} (w : World) (hX : ExAt B w g r n last A) : Calls Try.prog 12 #[.pointer (some ⟨g, 0, none⟩)] w fun e w' => e = .returned (.int .i64 last) ∧ w = w' := by
  have c0 := hX.c2
  clear hX
  go_enter Try.func12, Try.ntmps12
  go_wp2
  go_ret
  exact ⟨rfl, rfl⟩
theorem xblock_any {B g r : Nat} {n last : Int} {A : Int → List AV} (k : Int) (w : World) (hX : ExAt B w g r n last A) : Calls Try.prog 28 #[.pointer (some ⟨g, 0, none⟩), .int .i64 k] w fun e w' => e = .returned (.bool (decide (0 ≤ k ∧ k < n))) ∧ w = w' := by
  have H := Lib.hid (blocks_any w hX)
  have h1 := hX.pure.lo
  have h2 := hX.pure.hi
  clear hX
  by_cases h3 : 0 ≤ k
  · by_cases h4 : k < n
    · go_enter Try.func28, Try.ntmps28
      go_wp2_with fail
      refine H.out.mono ?_
      rintro e w' ⟨rfl, rfl⟩
      go_wp2
      go_ret
      exact ⟨by simp [h3, h4], rfl⟩
    · have h5 : decide (k < n) = false := by simpa using h4
      go_enter Try.func28, Try.ntmps28
      go_wp2_with fail
      refine H.out.mono ?_
      rintro e w' ⟨rfl, rfl⟩
      go_wp2
      go_ret
      exact ⟨by simp [h3, h4], rfl⟩
  · have h5 : decide (0 ≤ k) = false := by simpa using h3
    have h6 : k < 0 := by omega
    go_enter Try.func28, Try.ntmps28
    go_wp2
    go_ret
    exact ⟨by simp [h3], rfl⟩
end Go.Proofs.Ytglkbkocdeimiaa
