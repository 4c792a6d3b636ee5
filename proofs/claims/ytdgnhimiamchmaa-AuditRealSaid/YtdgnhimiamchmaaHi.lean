import Derived.Test.YtdgnhimiamchmaaA1
import Derived.Test.YtdgnhimiamchmaaSt
import Derived.Sort.Grow
namespace Go.Proofs.Ytdgnhimiamchmaa
open Go.RowKit
open BigFrame Lib

/-- a read: its block, where its data lie, what they are, whether it was of its own -/
structure ReadV where
  lba : Int
  a : Option Addr
  c : Nat
  d : List Int
  own : Bool
instance : Inhabited ReadV := ⟨⟨0, none, 0, [], false⟩⟩
/-- a history -/
structure HistV where
  st : Int
  bg : Int
  tm : Int
  fr : Int
  to : Int
  ra : Option Addr
  rc : Nat
  rl : List ReadV
  pa : Option Addr
  pc : Nat
  pl : List PutV
instance : Inhabited HistV := ⟨⟨0, 0, 0, 0, 0, none, 0, [], none, 0, []⟩⟩
/-- its cells -/
def encH (h : HistV) : List Value := [.int .i64 h.st, .int .i64 h.bg, .int .i64 h.tm, .int .i64 h.fr, .int .i64 h.to, .slice h.ra h.rl.length h.rc, .slice h.pa h.pl.length h.pc]
/-- the same, as a value -/
def aggH (h : HistV) : Value := .agg #[.int .i64 h.st, .int .i64 h.bg, .int .i64 h.tm, .int .i64 h.fr, .int .i64 h.to, .slice h.ra h.rl.length h.rc, .slice h.pa h.pl.length h.pc]
theorem encH_len (h : HistV) : (encH h).length = 7 := rfl
theorem encH_agg (h : HistV) : .agg (encH h).toArray = aggH h := rfl
/-- a number that an int holds -/
def Z64 (x : Int) : Prop := -9223372036854775808 ≤ x ∧ x ≤ 9223372036854775807

def ReadOk (w : World) (p : ReadV) : Prop := Z64 p.lba ∧ p.d.length ≤ maxLen ∧ p.c ≤ maxLen ∧ Rd u8 w p.a p.d
def ReadsAt (w : World) (a : Option Addr) (l : List ReadV) : Prop :=
  ∀ (i : Nat) (x : ReadV), l[i]? = some x → ∃ b o, a = some ⟨b, o, none⟩ ∧ b < w.heap.size ∧ w.cell? ⟨b, o + i * 3, none⟩ = some (.int .i64 x.lba) ∧ w.cell? ⟨b, o + i * 3 + 1, none⟩ = some (.slice x.a x.d.length x.c) ∧ w.cell? ⟨b, o + i * 3 + 2, none⟩ = some (.bool x.own) ∧ ReadOk w x
theorem ReadOk.below {w w' : World} {p : ReadV} (h : ReadOk w p) (hB : Below w.heap.size w w') : ReadOk w' p := ⟨h.1, h.2.1, h.2.2.1, h.2.2.2.below hB⟩
theorem ReadsAt.below {w w' : World} {a : Option Addr} {l : List ReadV} (h : ReadsAt w a l) (hB : Below w.heap.size w w') : ReadsAt w' a l := fun i x hi => by
  obtain ⟨b, o, h1, h2, h3, h4, h5, h6⟩ := h i x hi
  exact ⟨b, o, h1, Nat.lt_of_lt_of_le h2 hB.size, (hB.cell (p := ⟨b, o + i * 3, none⟩) h2).trans h3, (hB.cell (p := ⟨b, o + i * 3 + 1, none⟩) h2).trans h4, (hB.cell (p := ⟨b, o + i * 3 + 2, none⟩) h2).trans h5, h6.below hB⟩

structure HistOk (w : World) (h : HistV) : Prop where
  st : Z64 h.st
  bg : Z64 h.bg
  tm : Z64 h.tm
  fr : Z64 h.fr
  to : Z64 h.to
  rn : h.rl.length ≤ maxLen
  pn : h.pl.length ≤ maxLen
  reads : ReadsAt w h.ra h.rl
  puts : PutsAt w h.pa h.pl
theorem HistOk.below {w w' : World} {h : HistV} (k : HistOk w h) (hB : Below w.heap.size w w') : HistOk w' h :=
  ⟨k.st, k.bg, k.tm, k.fr, k.to, k.rn, k.pn, k.reads.below hB, k.puts.below hB⟩

/-- the seven cells of a history, from a cell on -/
def CellsH (w : World) (b o : Nat) (h : HistV) : Prop :=
  w.cell? ⟨b, o, none⟩ = some (.int .i64 h.st) ∧ w.cell? ⟨b, o + 1, none⟩ = some (.int .i64 h.bg) ∧ w.cell? ⟨b, o + 2, none⟩ = some (.int .i64 h.tm) ∧ w.cell? ⟨b, o + 3, none⟩ = some (.int .i64 h.fr) ∧
  w.cell? ⟨b, o + 4, none⟩ = some (.int .i64 h.to) ∧ w.cell? ⟨b, o + 5, none⟩ = some (.slice h.ra h.rl.length h.rc) ∧ w.cell? ⟨b, o + 6, none⟩ = some (.slice h.pa h.pl.length h.pc)
theorem CellsH.below {w w' : World} {b o : Nat} {h : HistV} (k : CellsH w b o h) (hb : b < w.heap.size) (hB : Below w.heap.size w w') : CellsH w' b o h :=
  ⟨(hB.cell (p := ⟨b, o, none⟩) hb).trans k.1, (hB.cell (p := ⟨b, o + 1, none⟩) hb).trans k.2.1, (hB.cell (p := ⟨b, o + 2, none⟩) hb).trans k.2.2.1, (hB.cell (p := ⟨b, o + 3, none⟩) hb).trans k.2.2.2.1,
   (hB.cell (p := ⟨b, o + 4, none⟩) hb).trans k.2.2.2.2.1, (hB.cell (p := ⟨b, o + 5, none⟩) hb).trans k.2.2.2.2.2.1, (hB.cell (p := ⟨b, o + 6, none⟩) hb).trans k.2.2.2.2.2.2⟩
theorem CellsH.of_enc {w : World} {b o : Nat} {h : HistV} (k : ∀ j u, (encH h)[j]? = some u → w.cell? ⟨b, o + j, none⟩ = some u) : CellsH w b o h :=
  ⟨k 0 _ rfl, k 1 _ rfl, k 2 _ rfl, k 3 _ rfl, k 4 _ rfl, k 5 _ rfl, k 6 _ rfl⟩
/-- a row of histories: its cells alone -/
def HRow (w : World) (a : Option Addr) (l : List HistV) : Prop :=
  ∀ (i : Nat) (x : HistV), l[i]? = some x → ∃ b o, a = some ⟨b, o, none⟩ ∧ b < w.heap.size ∧ CellsH w b (o + i * 7) x
theorem HRow.below {w w' : World} {a : Option Addr} {l : List HistV} (h : HRow w a l) (hB : Below w.heap.size w w') : HRow w' a l := fun i x hi => by
  obtain ⟨b, o, h1, h2, h3⟩ := h i x hi
  exact ⟨b, o, h1, Nat.lt_of_lt_of_le h2 hB.size, h3.below h2 hB⟩
/-- a row of histories, with what they lead to -/
def HistsAt (w : World) (a : Option Addr) (l : List HistV) : Prop := HRow w a l ∧ ∀ x ∈ l, HistOk w x
theorem HistsAt.below {w w' : World} {a : Option Addr} {l : List HistV} (h : HistsAt w a l) (hB : Below w.heap.size w w') : HistsAt w' a l :=
  ⟨h.1.below hB, fun x hx => (h.2 x hx).below hB⟩
theorem HRow.of_own {w : World} {B e n c : Nat} {a : Option Addr} {l : List HistV} (h : w.ownsRow B e 7 (.slice a n c) n (l.flatMap encH)) : n = l.length ∧ HRow w a l := by
  have hn : n = l.length := by
    have := h.1; rw [flat_len encH_len] at this; omega
  refine ⟨hn, fun i x hi => ?_⟩
  have hl : i < l.length := by
    rcases Nat.lt_or_ge i l.length with h | h
    · exact h
    · rw [List.getElem?_eq_none h] at hi; cases hi
  rcases h.2 with ⟨h1, h2⟩ | ⟨g, cap, cur, h1, h2, h3, h4, h5, h6, h7⟩
  · omega
  · simp at h1
    obtain ⟨rfl, rfl⟩ := h1
    refine ⟨g, 0, rfl, lt_heap h3, CellsH.of_enc fun j u hj => ?_⟩
    have hj7 : j < 7 := by
      rcases Nat.lt_or_ge j 7 with h | h
      · exact h
      · rw [List.getElem?_eq_none (by rw [encH_len]; exact h)] at hj; cases hj
    have hg := flat_get encH_len l i j hj7
    rw [hi, Option.bind_some, hj] at hg
    have hlt : i * 7 + j < n * 7 := by omega
    have : cur.toList[i * 7 + j]? = some u := by rw [← hg, ← h7, List.getElem?_take_of_lt hlt]
    rw [Nat.zero_add]
    simp [World.cell?, h3]
    simpa using this

/-- cmp.Compare -/
def cmpI (x y : Int) : Int := if x < y then -1 else if y < x then 1 else 0
theorem cmpI_lt (x y : Int) : cmpI x y < 0 ↔ x < y := by unfold cmpI; split <;> (try split) <;> omega
theorem nan_any (x : Int) (w : World) : Calls Try.prog 68 #[.int .i64 x] w fun e w' => e = .returned (.bool false) ∧ w = w' := by
  have t : (x != x) = false := by simp
  go_enter Try.func68, Try.ntmps68
  go_wp2
  go_ret
  exact ⟨rfl, rfl⟩
theorem cmp_any (x y : Int) (w : World) : Calls Try.prog 51 #[.int .i64 x, .int .i64 y] w fun e w' => e = .returned (.int .i64 (cmpI x y)) ∧ w = w' := by
  have HN := Lib.hid (fun (x : Int) W => nan_any x W)
  by_cases h1 : x < y
  · have hc : Hid (cmpI x y = -1) := by show _ = _; unfold cmpI; rw [if_pos h1]
    go_enter Try.func51, Try.ntmps51
    go_wp2_with (go_at_call 68; refine (HN.out _ _).mono ?_; rintro e w1 ⟨rfl, rfl⟩)
    go_ret
    exact ⟨by rw [hc.out]; rfl, rfl⟩
  · by_cases h2 : y < x
    · have hc : Hid (cmpI x y = 1) := by show _ = _; unfold cmpI; rw [if_neg h1, if_pos h2]
      have t1 : decide (x < y) = false := decide_eq_false h1
      have t2 : decide (x > y) = true := decide_eq_true h2
      go_enter Try.func51, Try.ntmps51
      go_wp2_with (go_at_call 68; refine (HN.out _ _).mono ?_; rintro e w1 ⟨rfl, rfl⟩)
      go_ret
      exact ⟨by rw [hc.out]; rfl, rfl⟩
    · have hc : Hid (cmpI x y = 0) := by show _ = _; unfold cmpI; rw [if_neg h1, if_neg h2]
      have t1 : decide (x < y) = false := decide_eq_false h1
      have t2 : decide (x > y) = false := decide_eq_false h2
      go_enter Try.func51, Try.ntmps51
      go_wp2_with (go_at_call 68; refine (HN.out _ _).mono ?_; rintro e w1 ⟨rfl, rfl⟩)
      go_ret
      exact ⟨by rw [hc.out]; rfl, rfl⟩

open Go.Sort in
theorem hcmp_any (x y : HistV) (w : World) : Calls Try.prog 60 #[aggH x, aggH y] w fun e w' => e = .returned (.int .i64 (cmpI x.tm y.tm)) ∧ ∃ q os', w' = grow (w.drewN q) os' := by
  have HN := Lib.hid (fun W => cmp_any x.tm y.tm W)
  unfold aggH
  go_enter Try.func60, Try.ntmps60
  go_wp2_with (go_at_call 51; refine (HN.out _).mono ?_; rintro e w1 ⟨rfl, rfl⟩)
  go_ret
  refine ⟨rfl, 0, #[.cells (encH x).toArray 53, .cells (encH y).toArray 53], ?_⟩
  rw [alloc_eq_grow, alloc_eq_grow, grow_grow]
  rfl
end Go.Proofs.Ytdgnhimiamchmaa
