import Derived.Deep.RegionHeld3
import Derived.Test.YtdgnhimiamchmaaHi
import Derived.Test.YtdgnhimiamchmaaS2
namespace Go.Proofs.Ytdgnhimiamchmaa
open Go.RowKit
open BigFrame Lib

set_option maxRecDepth 100000 in
theorem sum2_any (x v1 v2 : Int) (b : Nat) (w : World) (h0 : 0 ≤ x) (h1 : x ≤ 1099511627776) (h2 : 0 ≤ v1) (h3 : v1 ≤ 9223372036854775807) (h4 : 0 ≤ v2) (h5 : v2 ≤ 9223372036854775807)
    (hc : w.cell? ⟨b, 0, none⟩ = some (.int .i64 v1)) (hc2 : w.cell? ⟨b, 0 + 1, none⟩ = some (.int .i64 v2)) :
    Calls Try.prog 40 #[.int .i64 x, .slice (some ⟨b, 0, none⟩) 2 2] w fun e w' => e = .returned (.int .i64 (smin (smin x v1) v2)) ∧ w = w' := by
  simp only [Nat.zero_add] at hc2
  by_cases hv : v1 > 1099511627776 - x
  · have hs : Hid (smin (smin x v1) v2 = 1099511627776) := by show _ = _; unfold smin; rw [if_pos hv]; split <;> omega
    have t1 : decide (1099511627776 - x < v1) = true := by simp; omega
    clear hc2
    go_enter Try.func40, Try.ntmps40
    go_wp2_with fail
    go_loopw [0, 5] (fun xv iv wr => xv = .int .i64 x ∧ iv = .int .i64 0 ∧ wr = w) (fun _ _ _ => 0)
    case atStart => exact ⟨rfl, rfl, rfl⟩
    case round =>
      obtain ⟨rfl, rfl, rfl⟩ := hrel
      go_wp2
      go_ret
      exact ⟨by rw [hs.out]; rfl, rfl⟩
  · have hv2 : v1 ≤ 1099511627776 - x := by omega
    clear hv
    by_cases hw : v2 > 1099511627776 - (x + v1)
    · have hs : Hid (smin (smin x v1) v2 = 1099511627776) := by show _ = _; unfold smin; rw [if_neg (show ¬ v1 > 1099511627776 - x by omega), if_pos (by omega)]
      have t1 : decide (1099511627776 - x < v1) = false := by simp; omega
      have t2 : decide (1099511627776 - (x + v1) < v2) = true := by simp; omega
      go_enter Try.func40, Try.ntmps40
      go_wp2_with fail
      go_loopw [0, 5] (fun xv iv wr => wr = w ∧ ((xv = .int .i64 x ∧ iv = .int .i64 0) ∨ (xv = .int .i64 (x + v1) ∧ iv = .int .i64 1))) (fun _ iv _ => 1 - (intOf iv).toNat)
      case atStart => exact ⟨rfl, .inl ⟨rfl, rfl⟩⟩
      case round =>
        obtain ⟨rfl, ⟨rfl, rfl⟩ | ⟨rfl, rfl⟩⟩ := hrel
        · go_wp2
          go_roundw
          case rel => exact ⟨trivial, .inr ⟨rfl, rfl⟩⟩
          case measure => simp [intOf]
        · go_wp2
          go_ret
          exact ⟨by rw [hs.out]; rfl, rfl⟩
    · have hs : Hid (smin (smin x v1) v2 = x + v1 + v2) := by show _ = _; unfold smin; rw [if_neg (show ¬ v1 > 1099511627776 - x by omega), if_neg (by omega)]
      have hw2 : v2 ≤ 1099511627776 - (x + v1) := by omega
      clear hw
      go_enter Try.func40, Try.ntmps40
      go_wp2_with fail
      go_loopw [0, 5] (fun xv iv wr => wr = w ∧ ((xv = .int .i64 x ∧ iv = .int .i64 0) ∨ (xv = .int .i64 (x + v1) ∧ iv = .int .i64 1) ∨ (xv = .int .i64 (x + v1 + v2) ∧ iv = .int .i64 2))) (fun _ iv _ => 2 - (intOf iv).toNat)
      case atStart => exact ⟨rfl, .inl ⟨rfl, rfl⟩⟩
      case round =>
        obtain ⟨rfl, ⟨rfl, rfl⟩ | ⟨rfl, rfl⟩ | ⟨rfl, rfl⟩⟩ := hrel
        · go_wp2
          go_roundw
          case rel => exact ⟨trivial, .inr (.inl ⟨rfl, rfl⟩)⟩
          case measure => simp [intOf]
        · go_wp2
          go_roundw
          case rel => exact ⟨trivial, .inr (.inr ⟨rfl, rfl⟩)⟩
          case measure => simp [intOf]
        · go_wp2
          go_ret
          exact ⟨by rw [hs.out]; rfl, rfl⟩

set_option maxRecDepth 100000 in
set_option maxHeartbeats 4000000 in
theorem hists_any (a : Option Addr) (c : Nat) (l : List HistV) (top : Int) (w : World) (hn : l.length ≤ 9223372036854775807) (ht0 : 0 ≤ top) (ht : top ≤ 1000000) (h1 : HistsAt w a l) :
    Calls Try.prog 39 #[.slice a l.length c, .int .i64 top] w fun e w' => (∃ v : Int, e = .returned (.int .i64 v) ∧ 0 ≤ v ∧ v ≤ 1099511627776 ∧ (v ≤ top → (l.length : Int) ≤ top ∧ ∀ x ∈ l, (x.pl.length : Int) ≤ top)) ∧ Below w.heap.size w w' := by
  have H1 := Lib.hid h1; clear h1
  generalize hq : l.length = m at *
  have HM := Lib.hid hq; clear hq
  have S0 := smin_le 0 m (by omega) (by omega) (by omega)
  have HS := Lib.hid (fun x v b W => sum1_any x v b W)
  have HS2 := Lib.hid (fun x v1 v2 b W => sum2_any x v1 v2 b W)
  have hs2 : smin 0 m ≤ top → (m : Int) ≤ top := fun h => by have := S0.2.2.2 (by omega); omega
  go_enter Try.func39, Try.ntmps39
  go_wp2_with fail
  refine (HS.out 0 (m : Int) w.heap.size _ (by omega) (by omega) (by omega) (by omega) (by first | omega | (simp; done) | (simp; omega) | (go_num; done))).mono ?_
  rintro e w' ⟨rfl, rfl⟩
  have hB0 : Below w.heap.size w (w.alloc (.cells #[.int .i64 (m : Int)] 3)) := (Below.refl _ w).alloc (Nat.le_refl _) _
  generalize w.alloc (.cells #[.int .i64 (m : Int)] 3) = w2 at *
  generalize hx0 : smin 0 m = x0 at *
  go_wp2_with fail
  go_loopw [5, 6] (fun nv iv wr => ∃ (i : Nat) (v : Int), i ≤ m ∧ iv = .int .i64 i ∧ nv = .int .i64 v ∧ 0 ≤ v ∧ v ≤ 1099511627776 ∧ x0 ≤ v ∧ Below w.heap.size w wr ∧ (v ≤ top → ∀ x ∈ l.take i, (x.pl.length : Int) ≤ top)) (fun _ iv _ => m - (intOf iv).toNat)
  case atStart => exact ⟨0, x0, Nat.zero_le _, rfl, rfl, S0.1, S0.2.1, Int.le_refl _, hB0, fun _ x hx => by simp at hx⟩
  case round =>
    obtain ⟨i, v, hi, rfl, rfl, hv0, hv1, hv2, hB, hall⟩ := hrel
    have HALL := Lib.hid hall; clear hall
    by_cases hlt : i < m
    · by_cases hvt : v ≤ top
      · have hx : l[i]? = some (l[i]'(by rw [HM.out]; exact hlt)) := List.getElem?_eq_getElem _
        generalize l[i]'(by rw [HM.out]; exact hlt) = x at hx
        obtain ⟨b, o, rfl, e1, k0, k1, k2, k3, k4, k5, k6⟩ := (H1.out.1.below hB) i x hx
        have hok := (H1.out.2 x (List.mem_of_getElem? hx)).below hB
        have e3 : x.pl.length ≤ 9223372036854775807 := by have := hok.pn; unfold maxLen at this; omega
        have e4 : x.rl.length ≤ 9223372036854775807 := by have := hok.rn; unfold maxLen at this; omega
        have HP := Lib.hid (fun W (hW : Below wr.heap.size wr W) => puts_any x.pa x.pc x.pl top W e3 ht0 ht (hok.puts.below hW))
        have HRD := Lib.hid hok.reads
        have HX := Lib.hid hx
        clear hok hx k0 k1 k2 k3 k4
        generalize hpq : x.pl.length = xpl at *
        generalize hrq : x.rl.length = xrl at *
        have HPQ := Lib.hid hpq; have HRQ := Lib.hid hrq
        clear hpq hrq
        have S3 : Hid (∀ u1 u2 : Int, 0 ≤ u1 → u1 ≤ 1099511627776 → 0 ≤ u2 → 0 ≤ smin (smin v u1) u2 ∧ smin (smin v u1) u2 ≤ 1099511627776 ∧ v ≤ smin (smin v u1) u2 ∧ (smin (smin v u1) u2 ≤ top → u1 ≤ top)) := fun u1 u2 q1 q2 q3 => by
          have r1 := smin_le v u1 hv0 hv1 q1
          have r2 := smin_le (smin v u1) u2 r1.1 r1.2.1 q3
          refine ⟨r2.1, r2.2.1, by omega, fun hh => ?_⟩
          have := r1.2.2.2 (by omega)
          omega
        go_wp2_with fail
        go_region_held3 (fun w' => w'.cell? ⟨b, o + i * 7 + 6, none⟩ = some (.slice x.pa xpl x.pc) ∧ w'.cell? ⟨b, o + i * 7 + 5, none⟩ = some (.slice x.ra xrl x.rc))
          (go_keep)
          (first
           | (go_at_call 16
              refine (HP.out _ ((Below.refl _ wr).drew)).mono ?_
              rintro e w5 ⟨⟨pv, rfl, hp0, hp1, hp2⟩, hB5⟩
              have HB5 := Lib.hid hB5
              have HP2 := Lib.hid hp2
              have q1 := ((hB5.cell (p := ⟨b, o + i * 7 + 6, none⟩) e1).trans k6)
              have q2 := ((hB5.cell (p := ⟨b, o + i * 7 + 5, none⟩) e1).trans k5)
              clear hB5 hp2)
           | (go_at_call 40
              refine (HS2.out v pv (xrl : Int) _ _ hv0 hv1 hp0 (by omega) (by omega) (by omega) (by first | omega | (simp; done) | (simp; omega) | (go_num; done)) (by first | omega | (simp; done) | (simp; omega) | (go_num; done))).mono ?_
              rintro e w6 ⟨rfl, rfl⟩))
        have hB6 : Below wr.heap.size wr (w5.alloc (.cells #[.int .i64 pv, .int .i64 (xrl : Int)] 3)) := ((Below.refl _ wr).drew.trans HB5.out).alloc (by have := HB5.out.size; exact this) _
        have S4 := S3.out pv xrl hp0 hp1 (by omega)
        have S5 := Lib.hid S4
        have S6 := S4.1; have S7 := S4.2.1; have S8 := S4.2.2.1
        have k5' := (hB6.cell (p := ⟨b, o + i * 7 + 5, none⟩) e1).trans k5
        have hs6 := hB6.size
        have HB6 := Lib.hid hB6
        clear S4 S3 HB5 q1 q2 HP HS2 hB6
        generalize w5.alloc (.cells #[.int .i64 pv, .int .i64 (xrl : Int)] 3) = w6 at *
        generalize smin (smin v pv) (xrl : Int) = v6 at *
        clear k5 k6
        generalize wr = w3 at *
        go_wp2_with fail
        go_loopw [5, 7] (fun nv kv wx => ∃ (k : Nat) (u : Int), kv = .int .i64 k ∧ k ≤ xrl ∧ nv = .int .i64 u ∧ v6 ≤ u ∧ u ≤ 1099511627776 ∧ Below w6.heap.size w6 wx) (fun _ kv _ => xrl - (intOf kv).toNat)
        case atStart => exact ⟨0, v6, rfl, Nat.zero_le _, rfl, Int.le_refl _, S7, Below.refl _ _⟩
        case round =>
          obtain ⟨k, u, rfl, hk, rfl, hu0, hu1, hBx⟩ := hrel
          have hsx := hBx.size
          have HBR : Hid (Below w3.heap.size w3 wr) := HB6.out.trans (hBx.mono hs6)
          have k5x := (hBx.cell (p := ⟨b, o + i * 7 + 5, none⟩) (by show b < _; omega)).trans k5'
          by_cases hkl : k < xrl
          · by_cases hut : u ≤ top
            · have hrx : x.rl[k]? = some (x.rl[k]'(by rw [HRQ.out]; exact hkl)) := List.getElem?_eq_getElem _
              generalize x.rl[k]'(by rw [HRQ.out]; exact hkl) = rd at hrx
              obtain ⟨b2, o2, hea, g1, g2, g3, g4, g5⟩ := (HRD.out.below HBR.out) k rd hrx
              rw [hea] at k5x
              have hdl : rd.d.length ≤ 9223372036854775807 := by have := g5.2.1; unfold maxLen at this; omega
              have HG5 := Lib.hid g5
              have HEA := Lib.hid hea
              clear g2 g4 g5 hea
              generalize rd.d.length = dl at *
              have S9 := smin_le u dl (by omega) hu1 (by omega)
              go_wp2_with fail
              refine (HS.out u (dl : Int) wr.heap.size _ (by omega) hu1 (by omega) (by omega) (by first | omega | (simp; done) | (simp; omega) | (go_num; done))).mono ?_
              rintro e w9 ⟨rfl, rfl⟩
              go_wp2
              go_roundw
              case rel => exact ⟨k + 1, smin u dl, by go_num, by omega, rfl, by omega, S9.2.1, hBx.alloc hsx _⟩
              case measure => simp [intOf]; omega
            · have hut' : decide (u ≤ top) = false := by simpa using hut
              have hut2 : top < u := by omega
              clear hut
              go_wp2
              go_roundw
              case rel =>
                exact ⟨i + 1, u, by omega, by go_num, rfl, by omega, hu1, by omega, hB.trans (HBR.out.mono hB.size), fun h => by omega⟩
              case measure => simp [intOf]; omega
          · obtain rfl : k = xrl := by omega
            go_wp2
            go_roundw
            case rel =>
              refine ⟨i + 1, u, by omega, by go_num, rfl, by omega, hu1, by omega, hB.trans (HBR.out.mono hB.size), fun h x1 hx1 => ?_⟩
              rw [List.take_add_one, HX.out] at hx1
              rcases List.mem_append.1 hx1 with h2 | h2
              · exact HALL.out (by omega) _ h2
              · simp at h2
                subst h2
                rw [HPQ.out]
                exact HP2.out (S5.out.2.2.2 (by omega))
            case measure => simp [intOf]; omega
      · have hvt' : decide (v ≤ top) = false := by simpa using hvt
        have hvt2 : top < v := by omega
        clear hvt
        go_wp2
        go_ret
        exact ⟨⟨v, rfl, hv0, hv1, fun h => by omega⟩, hB⟩
    · go_wp2
      go_ret
      refine ⟨⟨v, rfl, hv0, hv1, fun h => ⟨hs2 (by omega), ?_⟩⟩, hB⟩
      have := HALL.out h
      rwa [List.take_of_length_le (by rw [HM.out]; omega)] at this
end Go.Proofs.Ytdgnhimiamchmaa
