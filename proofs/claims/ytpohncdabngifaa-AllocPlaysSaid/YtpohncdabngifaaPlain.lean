import Derived.Test.YtpohncdabngifaaLib
namespace Go.Proofs.Ytpohncdabngifaa
open Go.RowKit

/-- a zone: is it taken, its wear -/
abbrev Z := Bool × Int
def encZ (z : Z) : List Value := [.bool z.1, .int .i64 z.2]
theorem encZ_len (z : Z) : (encZ z).length = 2 := rfl
def zcells (zs : List Z) : List Value := zs.flatMap encZ
def tk (zs : List Z) (i : Nat) : Bool := (zs.getD i (true, 0)).1
def wear (zs : List Z) (i : Nat) : Int := (zs.getD i (true, 0)).2
/-- the free ones among the first n -/
def frees (zs : List Z) : Nat → List Nat
  | 0 => []
  | n + 1 => if tk zs n = true then frees zs n else frees zs n ++ [n]
def ints (l : List Nat) : List Value := l.map fun (i : Nat) => Value.int .i64 (i : Int)
theorem frees_len (zs : List Z) (n : Nat) : (frees zs n).length ≤ n := by
  induction n with
  | zero => simp [frees]
  | succ n ih => simp only [frees]; split <;> (try simp) <;> omega
theorem ints_len (l : List Nat) : (ints l).length = l.length := by simp [ints]
theorem ints_snoc (l : List Nat) (k : Nat) : ints (l ++ [k]) = ints l ++ [.int .i64 (k : Int)] := by simp [ints]
theorem frees_succ_t (zs : List Z) (n : Nat) (h : tk zs n = true) : frees zs (n + 1) = frees zs n := by simp [frees, h]
theorem frees_succ_f (zs : List Z) (n : Nat) (h : tk zs n = false) : frees zs (n + 1) = frees zs n ++ [n] := by simp [frees, h]
/-- the free one that is worn least, the first of them -/
def bst (zs : List Z) : Nat → Option Nat
  | 0 => none
  | n + 1 => match bst zs n with
    | none => if tk zs n = true then none else some n
    | some b => if tk zs n = true ∨ wear zs b ≤ wear zs n then some b else some n
def opt : Option Nat → Int
  | none => -1
  | some b => b
theorem bst_lt (zs : List Z) (n b : Nat) (h : bst zs n = some b) : b < n := by
  induction n generalizing b with
  | zero => simp [bst] at h
  | succ n ih =>
    simp only [bst] at h
    split at h
    · split at h
      · cases h
      · cases h; omega
    · rename_i c hc
      split at h
      · cases h; have := ih b hc; omega
      · cases h; omega
theorem tk_get (zs : List Z) (i : Nat) (h : i < zs.length) : (zcells zs)[i * 2]? = some (.bool (tk zs i)) := by
  have := flat_get encZ_len zs i 0 (by omega)
  simp only [Nat.add_zero] at this
  simp [zcells, this, tk, encZ, List.getD, h]
theorem wear_get (zs : List Z) (i : Nat) (h : i < zs.length) : (zcells zs)[i * 2 + 1]? = some (.int .i64 (wear zs i)) := by
  simp [zcells, flat_get encZ_len zs i 1 (by omega), wear, encZ, List.getD, h]
theorem zset_tk (zs : List Z) (i : Nat) (b : Bool) (h : i < zs.length) : (zcells zs).set (i * 2) (.bool b) = zcells (zs.set i (b, wear zs i)) :=
  flat_set encZ_len zs i 0 (by omega) (.bool b) zs[i] (b, wear zs i) (by simp [h]) (by simp [encZ, wear, List.getD, h])
theorem zset_wear (zs : List Z) (i : Nat) (x : Int) (h : i < zs.length) : (zcells zs).set (i * 2 + 1) (.int .i64 x) = zcells (zs.set i (tk zs i, x)) :=
  flat_set encZ_len zs i 1 (by omega) (.int .i64 x) zs[i] (tk zs i, x) (by simp [h]) (by simp [encZ, tk, List.getD, h])
theorem tk_set (zs : List Z) (i j : Nat) (z : Z) : tk (zs.set i z) j = if i = j ∧ i < zs.length then z.1 else tk zs j := by
  unfold tk
  simp only [List.getD, List.getElem?_set]
  by_cases hij : i = j
  · subst hij
    by_cases hl : i < zs.length
    · simp [hl]
    · simp [hl]
  · simp [hij]
theorem wear_set (zs : List Z) (i j : Nat) (z : Z) : wear (zs.set i z) j = if i = j ∧ i < zs.length then z.2 else wear zs j := by
  unfold wear
  simp only [List.getD, List.getElem?_set]
  by_cases hij : i = j
  · subst hij
    by_cases hl : i < zs.length
    · simp [hl]
    · simp [hl]
  · simp [hij]

/-- the allocator of zones zs in block b, its struct in block g -/
structure AllocAt (w : World) (g b : Nat) (zs : List Z) (spare : Int) : Prop where
  hg : w.heap[g]? = some (.cells (#[.slice (some ⟨b, 0, none⟩) zs.length zs.length, .int .i64 spare] : Array Value) 53 (0, 0))
  hb : w.heap[b]? = some (.cells (zcells zs).toArray 55 (0, 0))
  hne : b ≠ g
  hn : zs.length ≤ 64
theorem AllocAt.of_eq {w w' : World} {g b : Nat} {zs : List Z} {spare : Int} (h : AllocAt w g b zs spare) (h1 : w'.heap[g]? = w.heap[g]?) (h2 : w'.heap[b]? = w.heap[b]?) : AllocAt w' g b zs spare :=
  ⟨h1.trans h.hg, h2.trans h.hb, h.hne, h.hn⟩
theorem AllocAt.below {w w' : World} {g b B : Nat} {zs : List Z} {spare : Int} (h : AllocAt w g b zs spare) (hB : Below B w w') (h1 : g < B) (h2 : b < B) : AllocAt w' g b zs spare :=
  h.of_eq (hB.block g h1) (hB.block b h2)
theorem AllocAt.below' {w w' : World} {g b : Nat} {zs : List Z} {spare : Int} (h : AllocAt w g b zs spare) (hB : Below w.heap.size w w') : AllocAt w' g b zs spare :=
  h.below hB (lt_heap h.hg) (lt_heap h.hb)
end Go.Proofs.Ytpohncdabngifaa
