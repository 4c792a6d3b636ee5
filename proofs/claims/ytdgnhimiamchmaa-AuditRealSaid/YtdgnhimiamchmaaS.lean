import Derived.Test.YtdgnhimiamchmaaM5
namespace Go.Proofs.Ytdgnhimiamchmaa
open Go.RowKit
open BigFrame Lib

def smin (x v : Int) : Int := if v > 1099511627776 - x then 1099511627776 else x + v

theorem sum1_any (x v : Int) (b : Nat) (w : World) (h0 : 0 ≤ x) (h1 : x ≤ 1099511627776) (h2 : 0 ≤ v) (h3 : v ≤ 9223372036854775807) (hc : w.cell? ⟨b, 0, none⟩ = some (.int .i64 v)) :
    Calls Try.prog 40 #[.int .i64 x, .slice (some ⟨b, 0, none⟩) 1 1] w fun e w' => e = .returned (.int .i64 (smin x v)) ∧ w = w' := by
  by_cases hv : v > 1099511627776 - x
  · have hs : Hid (smin x v = 1099511627776) := by show _ = _; unfold smin; rw [if_pos hv]
    have t1 : decide (1099511627776 - x < v) = true := by simp; omega
    go_enter Try.func40, Try.ntmps40
    go_wp2_with fail
    go_loopw [0, 5] (fun xv iv wr => xv = .int .i64 x ∧ iv = .int .i64 0 ∧ wr = w) (fun _ _ _ => 0)
    case atStart => exact ⟨rfl, rfl, rfl⟩
    case round =>
      obtain ⟨rfl, rfl, rfl⟩ := hrel
      go_wp2
      go_ret
      exact ⟨by rw [hs.out]; rfl, rfl⟩
  · have hs : Hid (smin x v = x + v) := by show _ = _; unfold smin; rw [if_neg hv]
    have hv2 : v ≤ 1099511627776 - x := by omega
    clear hv
    go_enter Try.func40, Try.ntmps40
    go_wp2_with fail
    go_loopw [0, 5] (fun xv iv wr => wr = w ∧ ((xv = .int .i64 x ∧ iv = .int .i64 0) ∨ (xv = .int .i64 (x + v) ∧ iv = .int .i64 1))) (fun _ iv _ => 1 - (intOf iv).toNat)
    case atStart => exact ⟨rfl, .inl ⟨rfl, rfl⟩⟩
    case round =>
      obtain ⟨rfl, ⟨rfl, rfl⟩ | ⟨rfl, rfl⟩⟩ := hrel
      · go_wp2
        go_roundw
        case rel => exact ⟨trivial, .inr ⟨rfl, rfl⟩⟩
        case measure => simp [intOf]
      · go_wp2
        go_ret
        exact ⟨by rw [hs.out]; rfl, rfl⟩

theorem smin_le (x v : Int) (h0 : 0 ≤ x) (h1 : x ≤ 1099511627776) (h2 : 0 ≤ v) : 0 ≤ smin x v ∧ smin x v ≤ 1099511627776 ∧ x ≤ smin x v ∧ (smin x v < 1099511627776 → v ≤ smin x v) := by
  unfold smin; split <;> omega

theorem puts_any (a : Option Addr) (c : Nat) (l : List PutV) (top : Int) (w : World) (hn : l.length ≤ 9223372036854775807) (ht0 : 0 ≤ top) (ht : top ≤ 1000000) (h1 : PutsAt w a l) :
    Calls Try.prog 16 #[.slice a l.length c, .int .i64 top] w fun e w' => (∃ v : Int, e = .returned (.int .i64 v) ∧ 0 ≤ v ∧ v ≤ 1099511627776 ∧ (v ≤ top → (l.length : Int) ≤ top)) ∧ Below w.heap.size w w' := by
  have H1 := Lib.hid h1; clear h1
  generalize hq : l.length = m at *
  have HM := Lib.hid hq; clear hq
  have S0 := smin_le 0 m (by omega) (by omega) (by omega)
  have HS := Lib.hid (fun x v b W => sum1_any x v b W)
  have hs2 : smin 0 m ≤ top → (m : Int) ≤ top := fun h => by have := S0.2.2.2 (by omega); omega
  go_enter Try.func16, Try.ntmps16
  go_wp2_with fail
  refine (HS.out 0 (m : Int) w.heap.size _ (by omega) (by omega) (by omega) (by omega) (by first | omega | (simp; done) | (simp; omega) | (go_num; done))).mono ?_
  rintro e w' ⟨rfl, rfl⟩
  have hB0 : Below w.heap.size w (w.alloc (.cells #[.int .i64 (m : Int)] 3)) := (Below.refl _ w).alloc (Nat.le_refl _) _
  generalize w.alloc (.cells #[.int .i64 (m : Int)] 3) = w2 at *
  generalize hx0 : smin 0 m = x0 at *
  go_wp2_with fail
  go_loopw [5, 6] (fun nv iv wr => ∃ (i : Nat) (v : Int), i ≤ m ∧ iv = .int .i64 i ∧ nv = .int .i64 v ∧ 0 ≤ v ∧ v ≤ 1099511627776 ∧ x0 ≤ v ∧ Below w.heap.size w wr) (fun _ iv _ => m - (intOf iv).toNat)
  case atStart => exact ⟨0, x0, Nat.zero_le _, rfl, rfl, S0.1, S0.2.1, Int.le_refl _, hB0⟩
  case round =>
    obtain ⟨i, v, hi, rfl, rfl, hv0, hv1, hv2, hB⟩ := hrel
    by_cases hlt : i < m
    · by_cases hvt : v ≤ top
      · have hx : l[i]? = some (l[i]'(by rw [HM.out]; exact hlt)) := List.getElem?_eq_getElem _
        generalize l[i]'(by rw [HM.out]; exact hlt) = x at hx
        obtain ⟨b, o, rfl, e1, d1, d2, d3⟩ := H1.out.below hB i x hx
        have hxl := d3.2.2.1
        have e3 : x.d.length ≤ 9223372036854775807 := by unfold maxLen at hxl; omega
        generalize x.d.length = dl at *
        have D3 := Lib.hid d3; have HX := Lib.hid hx; clear d3 hx hxl
        have S1 := smin_le v dl (by omega) (by omega) (by omega)
        go_wp2_with fail
        refine (HS.out v (dl : Int) wr.heap.size _ (by omega) (by omega) (by omega) (by omega) (by first | omega | (simp; done) | (simp; omega) | (go_num; done))).mono ?_
        rintro e w' ⟨rfl, rfl⟩
        go_wp2
        go_roundw
        case rel => exact ⟨i + 1, smin v dl, by omega, by go_num, rfl, S1.1, S1.2.1, by omega, hB.alloc (by have := hB.size; omega) _⟩
        case measure => simp [intOf]; omega
      · have hvt' : decide (v ≤ top) = false := by simpa using hvt
        have hvt2 : top < v := by omega
        clear hvt
        go_wp2
        go_ret
        exact ⟨⟨v, rfl, hv0, hv1, fun h => by omega⟩, hB⟩
    · go_wp2
      go_ret
      exact ⟨⟨v, rfl, hv0, hv1, fun h => hs2 (by omega)⟩, hB⟩

/-- a transaction: its time, where its puts lie, and what they are -/
structure TxV where
  time : Int
  a : Option Addr
  c : Nat
  l : List PutV
instance : Inhabited TxV := ⟨⟨0, none, 0, []⟩⟩
def TxOk (w : World) (x : TxV) : Prop := x.l.length ≤ maxLen ∧ PutsAt w x.a x.l
def TxsAt (w : World) (a : Option Addr) (l : List TxV) : Prop :=
  ∀ (i : Nat) (x : TxV), l[i]? = some x → ∃ b o, a = some ⟨b, o, none⟩ ∧ b < w.heap.size ∧ w.cell? ⟨b, o + i * 2, none⟩ = some (.int .i64 x.time) ∧ w.cell? ⟨b, o + i * 2 + 1, none⟩ = some (.slice x.a x.l.length x.c) ∧ TxOk w x
theorem TxsAt.chg {S : Nat → Prop} {w w' : World} {a : Option Addr} {l : List TxV} (h : TxsAt w a l) (hC : Chg S w w') (hS : ∀ k, S k → ∃ m, MapIs w k m) : TxsAt w' a l := fun i x hi => by
  obtain ⟨b, o, h1, h2, h3, h4, h5, h6⟩ := h i x hi
  have hb : ¬ S b := by
    intro s
    obtain ⟨m, es, cl, hm, _⟩ := hS b s
    simp [World.cell?, hm] at h3
  exact ⟨b, o, h1, Nat.lt_of_lt_of_le h2 hC.size, (World.cell?_of_block (a := ⟨b, o + i * 2, none⟩) (hC.block b h2 hb)).trans h3, (World.cell?_of_block (a := ⟨b, o + i * 2 + 1, none⟩) (hC.block b h2 hb)).trans h4, h5, h6.chg hC hS⟩
theorem TxsAt.below {w w' : World} {a : Option Addr} {l : List TxV} (h : TxsAt w a l) (hB : Below w.heap.size w w') : TxsAt w' a l :=
  h.chg (S := fun _ => False) (Chg.of_below hB) (fun _ h => h.elim)

set_option maxRecDepth 100000 in
theorem txs_any (a : Option Addr) (c : Nat) (l : List TxV) (top : Int) (w : World) (hn : l.length ≤ 9223372036854775807) (ht0 : 0 ≤ top) (ht : top ≤ 1000000) (h1 : TxsAt w a l) :
    Calls Try.prog 38 #[.slice a l.length c, .int .i64 top] w fun e w' => (∃ v : Int, e = .returned (.int .i64 v) ∧ 0 ≤ v ∧ v ≤ 1099511627776 ∧ (v ≤ top → (l.length : Int) ≤ top ∧ ∀ x ∈ l, (x.l.length : Int) ≤ top)) ∧ Below w.heap.size w w' := by
  have H1 := Lib.hid h1; clear h1
  generalize hq : l.length = m at *
  have HM := Lib.hid hq; clear hq
  have S0 := smin_le 0 m (by omega) (by omega) (by omega)
  have HS := Lib.hid (fun x v b W => sum1_any x v b W)
  have hs2 : smin 0 m ≤ top → (m : Int) ≤ top := fun h => by have := S0.2.2.2 (by omega); omega
  go_enter Try.func38, Try.ntmps38
  go_wp2_with fail
  refine (HS.out 0 (m : Int) w.heap.size _ (by omega) (by omega) (by omega) (by omega) (by first | omega | (simp; done) | (simp; omega) | (go_num; done))).mono ?_
  rintro e w' ⟨rfl, rfl⟩
  have hB0 : Below w.heap.size w (w.alloc (.cells #[.int .i64 (m : Int)] 3)) := (Below.refl _ w).alloc (Nat.le_refl _) _
  generalize w.alloc (.cells #[.int .i64 (m : Int)] 3) = w2 at *
  generalize hx0 : smin 0 m = x0 at *
  go_wp2_with fail
  go_loopw [5, 6] (fun nv iv wr => ∃ (i : Nat) (v : Int), i ≤ m ∧ iv = .int .i64 i ∧ nv = .int .i64 v ∧ 0 ≤ v ∧ v ≤ 1099511627776 ∧ x0 ≤ v ∧ Below w.heap.size w wr ∧ (v ≤ top → ∀ x ∈ l.take i, (x.l.length : Int) ≤ top)) (fun _ iv _ => m - (intOf iv).toNat)
  case atStart => exact ⟨0, x0, Nat.zero_le _, rfl, rfl, S0.1, S0.2.1, Int.le_refl _, hB0, fun _ x hx => by simp at hx⟩
  case round =>
    obtain ⟨i, v, hi, rfl, rfl, hv0, hv1, hv2, hB, hall⟩ := hrel
    have HALL := Lib.hid hall; clear hall
    by_cases hlt : i < m
    · by_cases hvt : v ≤ top
      · have hx : l[i]? = some (l[i]'(by rw [HM.out]; exact hlt)) := List.getElem?_eq_getElem _
        generalize l[i]'(by rw [HM.out]; exact hlt) = x at hx
        obtain ⟨b, o, rfl, e1, d1, d2, d3, d4⟩ := H1.out.below hB i x hx
        have e3 : x.l.length ≤ 9223372036854775807 := by unfold maxLen at d3; omega
        have HP := Lib.hid (puts_any x.a x.c x.l top wr e3 ht0 ht d4)
        generalize hdl : x.l.length = dl at *
        have HDL := Lib.hid hdl; have D4 := Lib.hid d4; have HX := Lib.hid hx; clear d4 hx d3 hdl
        go_wp2_with fail
        refine HP.out.mono ?_
        rintro e w' ⟨⟨pv, rfl, hp0, hp1, hp2⟩, hB2⟩
        have hB3 : Below w.heap.size w w' := hB.trans (hB2.mono hB.size)
        have S1 := smin_le v pv (by omega) (by omega) (by omega)
        go_wp2_with fail
        refine (HS.out v pv w'.heap.size _ (by omega) (by omega) (by omega) (by omega) (by first | omega | (simp; done) | (simp; omega) | (go_num; done))).mono ?_
        rintro e w4 ⟨rfl, rfl⟩
        go_wp2
        go_roundw
        case rel =>
          refine ⟨i + 1, smin v pv, by omega, by go_num, rfl, S1.1, S1.2.1, by omega, hB3.alloc hB3.size _, fun h x1 hx1 => ?_⟩
          rw [List.take_add_one, HX.out] at hx1
          rcases List.mem_append.1 hx1 with h2 | h2
          · exact HALL.out (by omega) _ h2
          · simp at h2
            subst h2
            rw [HDL.out]
            have := S1.2.2.2 (by omega)
            exact hp2 (by omega)
        case measure => simp [intOf]; omega
      · have hvt' : decide (v ≤ top) = false := by simpa using hvt
        have hvt2 : top < v := by omega
        clear hvt
        go_wp2
        go_ret
        exact ⟨⟨v, rfl, hv0, hv1, fun h => by omega⟩, hB⟩
    · go_wp2
      go_ret
      refine ⟨⟨v, rfl, hv0, hv1, fun h => ⟨hs2 (by omega), ?_⟩⟩, hB⟩
      have := HALL.out h
      rwa [List.take_of_length_le (by rw [HM.out]; omega)] at this
end Go.Proofs.Ytdgnhimiamchmaa
