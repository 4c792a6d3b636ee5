import Derived.Test.YtglkbkocdeimiaaE8
import Derived.Test.YtglkbkocdeimiaaSm
namespace Go.Proofs.Ytglkbkocdeimiaa
open Go.RowKit
open BigFrame Lib
open Go.ChangeMaps (setBlock)

theorem rdAt_len {n last : Int} {A : Int → List AV} (h : ExPure n last A) (k t : Int) : (rdAt (A k) t).2.length = 40 := by
  unfold rdAt
  cases hg : ((A k).filter fun x => decide (x.1 ≤ t)).getLast? with
  | none => rfl
  | some x =>
    have hm := List.mem_of_getLast? hg
    exact h.len k x (List.mem_filter.1 hm).1
/-- what is read at the greatest time is the last version -/
theorem rdAt_max {n last : Int} {A : Int → List AV} (h : ExPure n last A) (k t : Int) : ((t < (rdAt (A k) 1099511627776).1 ∧ 0 < (rdAt (A k) 1099511627776).1) ↔ ∃ x, (A k).getLast? = some x ∧ t < x.1) ∧ 0 ≤ (rdAt (A k) 1099511627776).1 ∧ (rdAt (A k) 1099511627776).1 ≤ 1099511627776 := by
  have hf : ((A k).filter fun x => decide (x.1 ≤ 1099511627776)) = A k := by
    rw [List.filter_eq_self]
    intro x hx
    have := h.top k x hx
    have := h.l1
    simp; omega
  unfold rdAt
  rw [hf]
  cases hg : (A k).getLast? with
  | none => simp
  | some x =>
    have hm := h.top k x (List.mem_of_getLast? hg)
    have := h.l1
    simp only [Option.getD_some, Option.some.injEq, exists_eq_left']
    constructor
    · constructor
      · exact fun h => h.1
      · exact fun h => ⟨h, hm.1⟩
    · omega
theorem rdFrom_get {n last : Int} {A : Int → List AV} (h : ExPure n last A) (F t : Int) (L i j : Nat) (hi : i < L) (hj : j < 40) : (rdFrom A F t L)[i * 40 + j]? = (rdAt (A (F + i)) t).2[j]? := by
  have hlen : ∀ m, (rdFrom A F t m).length = m * 40 := by
    intro m
    induction m with
    | zero => rfl
    | succ m ih => rw [rdFrom_succ, List.length_append, ih, rdAt_len h]; omega
  induction L with
  | zero => omega
  | succ L ih =>
    rw [rdFrom_succ]
    by_cases e : i = L
    · subst e
      rw [List.getElem?_append_right (by rw [hlen]; omega), hlen]
      congr 1; omega
    · rw [List.getElem?_append_left (by rw [hlen]; omega)]
      exact ih (by omega)
theorem wrt_step (A : Int → List AV) (F t : Int) (i : Nat) : wrt A F ((i : Int) + 1) t ↔ wrt A F i t ∨ ∃ x, (A (F + i)).getLast? = some x ∧ t < x.1 := by
  constructor
  · rintro ⟨k, h1, h2, h3⟩
    by_cases e : k = F + i
    · subst e; exact .inr h3
    · exact .inl ⟨k, h1, by omega, h3⟩
  · rintro (⟨k, h1, h2, h3⟩ | h3)
    · exact ⟨k, h1, by omega, h3⟩
    · exact ⟨F + i, by omega, by omega, h3⟩

set_option maxRecDepth 100000 in
set_option maxHeartbeats 1000000 in
theorem ranges_any (a : Option Addr) (c : Nat) (l : List StV) (x : XV) (t : Int) (w : World) (hn : l.length ≤ 9223372036854775807) (h1 : StepsAt w a l) (hx : XOk x) (ht0 : -9223372036854775808 ≤ t) (ht1 : t ≤ 9223372036854775807) :
    Calls Try.prog 4 #[.slice a l.length c, .agg #[.int .i64 x.first, .int .i64 x.len], .int .i64 t] w fun e w' => e = .returned (.bool true) ∧ Below w.heap.size w w' := by
  obtain ⟨F, L⟩ := x
  obtain ⟨⟨hF0, hF1⟩, hL0, hL1⟩ := hx
  simp only at hF0 hF1 hL0 hL1 ⊢
  have HAW := Lib.hid awake_any
  have hB0 : Below w.heap.size w (w.alloc (.cells #[.int .i64 F, .int .i64 L] 45)) := (Below.refl _ w).alloc (Nat.le_refl _) _
  have hbx : Hid ((w.alloc (.cells #[.int .i64 F, .int .i64 L] 45)).heap[w.heap.size]? = some (.cells #[.int .i64 F, .int .i64 L] 45 (0, 0))) := alloc_new rfl
  have hsz : (w.alloc (.cells #[.int .i64 F, .int .i64 L] 45)).heap.size = w.heap.size + 1 := by simp
  have H1 := Lib.hid h1
  have SM := Lib.hid (small_any a c l (w.alloc (.cells #[.int .i64 F, .int .i64 L] 45)) hn (h1.below hB0))
  clear h1
  generalize hq : l.length = m at *
  have HM := Lib.hid hq; clear hq
  go_enter Try.func4, Try.ntmps4
  go_wp2_with fail
  generalize w.alloc (.cells #[.int .i64 F, .int .i64 L] 45) = w0 at *
  refine SM.out.mono ?_
  rintro e w1 ⟨⟨b, rfl, hb⟩, hB1⟩
  have hB1' : Below (w.heap.size + 1) w0 w1 := by rw [← hsz]; exact hB1
  have hw1 := hB1.size
  have c01 : w1.heap[w.heap.size]? = some (.cells #[.int .i64 F, .int .i64 L] 45 (0, 0)) := (hB1.block _ (by omega)).trans hbx.out
  have x0 : w1.cell? ⟨w.heap.size, 0, none⟩ = some (.int .i64 F) := cell_heap (c := [.int .i64 F, .int .i64 L]) c01 rfl
  have x1 : w1.cell? ⟨w.heap.size, 1, none⟩ = some (.int .i64 L) := cell_heap (c := [.int .i64 F, .int .i64 L]) c01 rfl
  have hsz1 : w.heap.size + 1 ≤ w0.heap.size := by omega
  have hsz2 : w0.heap.size ≤ w.heap.size + 1 := by omega
  have BK : Hid (∀ W, Below (w.heap.size + 1) w0 W → Below w.heap.size w W) := fun W hW => hB0.trans (hW.mono (by omega))
  have BX : Hid (∀ W, Below (w.heap.size + 1) w0 W → W.cell? ⟨w.heap.size, 0, none⟩ = some (.int .i64 F) ∧ W.cell? ⟨w.heap.size, 1, none⟩ = some (.int .i64 L)) := by
    intro W hW
    have : W.heap[w.heap.size]? = some (.cells #[.int .i64 F, .int .i64 L] 45 (0, 0)) := (hW.block _ (by omega)).trans hbx.out
    exact ⟨cell_heap (c := [.int .i64 F, .int .i64 L]) this rfl, cell_heap (c := [.int .i64 F, .int .i64 L]) this rfl⟩
  clear hsz c01
  by_cases hgd : b = true ∧ 0 ≤ F ∧ F ≤ 100 ∧ 1 ≤ L ∧ L ≤ 100
  · obtain ⟨hbt, g1, g2, g3, g4⟩ := hgd
    subst hbt
    have HSM := Lib.hid (hb rfl)
    have hm100 : m ≤ 100 := (hb rfl).1
    clear hb
    have t1 : decide (F < 0) = false := by simp; omega
    have t2 : decide (100 < F) = false := by simp; omega
    have t3 : decide (L < 1) = false := by simp; omega
    have t4 : decide (100 < L) = false := by simp; omega
    go_wp2_with fail
    refine (xnew_good (w.heap.size + 1) 20 _ (by omega) (by omega) (by omega)).mono ?_
    rintro e w2 ⟨rfl, hB2, hX2⟩
    have HX2 := Lib.hid hX2; clear hX2
    have hB2' : Below (w.heap.size + 1) w0 w2 := hB1'.trans (hB2.mono (by omega))
    have hw2 := hB2.size
    have hr1 : w.heap.size + 1 ≤ w1.heap.size := by omega
    generalize w1.heap.size = r at *
    clear x0 x1
    go_wp2_with fail
    go_loopw [9] (fun iv wr => ∃ i : Nat, i ≤ m ∧ iv = .int .i64 i ∧ Below (w.heap.size + 1) w0 wr ∧ ∃ last A, ExAt (w.heap.size + 1) wr (r + 1) r 20 last A) (fun iv _ => m - (intOf iv).toNat)
    case atStart => exact ⟨0, Nat.zero_le _, rfl, hB2', 0, _, HX2.out⟩
    case round =>
      obtain ⟨i, hi, rfl, hB, last, A, hX⟩ := hrel
      have HX := Lib.hid hX
      clear hX
      have hwr := hB.size
      by_cases hlt : i < m
      · have hx : l[i]? = some (l[i]'(by rw [HM.out]; exact hlt)) := List.getElem?_eq_getElem _
        generalize l[i]'(by rw [HM.out]; exact hlt) = x at hx
        obtain ⟨b, o, rfl, e1, d0, d1, d2, _, d4⟩ := H1.out.below (BK.out _ hB) i x hx
        have hxl := HSM.out.2 x (List.mem_of_getElem? hx)
        have HX1 := Lib.hid hx
        have D4 := Lib.hid d4
        clear hx d4
        by_cases hk1 : x.kind = 1
        · have AP := Lib.hid (apply_any (l := x.l) x.time x.a x.c wr (by omega) D4.out.2.1.1 D4.out.2.1.2 (fun W _ hBW => by
            obtain ⟨b', o', _, _, _, _, _, _, q⟩ := H1.out.below (BK.out _ (hB.trans hBW)) i x HX1.out
            exact q.2.2.2.1) HX.out (by omega))
          rw [hk1] at d0
          clear hk1
          go_wp2_with fail
          refine AP.out.mono ?_
          rintro e w5 ⟨rfl, hC5, hB5, hX5⟩
          have HX5 := Lib.hid hX5
          clear hX5 hC5
          go_wp2
          go_roundw
          case rel => exact ⟨i + 1, by omega, by go_num, hB.trans hB5, _, _, HX5.out⟩
          case measure => simp [intOf]; omega
        · have t5 : (x.kind == 1) = false := by simpa using hk1
          clear hk1
          go_wp2
          go_roundw
          case rel => exact ⟨i + 1, by omega, by go_num, hB, last, A, HX.out⟩
          case measure => simp [intOf]; omega
      · obtain ⟨x0, x1⟩ := BX.out _ hB
        by_cases h20 : F + L ≤ 20
        · have RA := Lib.hid (range_any F L t wr HX.out g1 g3 (by omega) (by omega) (by omega))
          obtain ⟨n, rfl⟩ : ∃ n : Nat, L = n := ⟨L.toNat, by omega⟩
          rw [Int.toNat_natCast] at RA
          have WR := Lib.hid (fun W (hW : Below wr.heap.size wr W) => written_any F n t W (HX.out.below hW) g1 (by omega) g3 (by omega) (by omega))
          have GA := Lib.hid (fun W (hW : Below wr.heap.size wr W) k s (hk : 0 ≤ k ∧ k < 20) => xget_any k s W (HX.out.below hW) hk)
          have HP := Lib.hid HX.out.pure
          have t5 : decide (20 < F + (n : Int)) = false := by simp; omega
          go_wp2_with fail
          refine RA.out.mono ?_
          rintro e w3 ⟨a3, c3, rfl, hB3, hown3, hl3⟩
          have HO3 := Lib.hid hown3
          have HL3 := Lib.hid hl3
          have hB3' : Below (w.heap.size + 1) w0 w3 := hB.trans (hB3.mono (by omega))
          have hw3 := hB3.size
          obtain ⟨y0, y1⟩ := BX.out _ hB3'
          have hcap : 40 * n ≤ c3 ∧ c3 ≤ 9223372036854775807 ∧ ∃ b3, a3 = some ⟨b3, 0, none⟩ := by
            rcases hown3.2 with ⟨_, h2⟩ | ⟨g', cap, cur, h1, h2, h3, h4, h5, h6⟩
            · omega
            · simp at h1; unfold maxLen at h5; exact ⟨by omega, by omega, g', h1.1⟩
          obtain ⟨hc1, hc2, b3, rfl⟩ := hcap
          have WR3 : Hid (∀ W, Below w3.heap.size w3 W → Calls Try.prog 16 #[.pointer (some ⟨r + 1, 0, none⟩), .agg #[.int .i64 F, .int .i64 n], .int .i64 t] W fun e w' => (∃ b : Bool, e = .returned (.bool b) ∧ (b = true ↔ wrt A F n t)) ∧ Below W.heap.size W w') := fun W hW => WR.out W (hB3.trans (hW.mono hw3))
          have GA3 : Hid (∀ W, Below w3.heap.size w3 W → ∀ k s, 0 ≤ k ∧ k < 20 → Calls Try.prog 13 #[.pointer (some ⟨r + 1, 0, none⟩), .int .i64 k, .int .i64 s] W fun e w' => ∃ a' c', e = .returned (.tuple #[.slice a' 40 c', .int .i64 (rdAt (A k) s).1]) ∧ Below W.heap.size W w' ∧ w'.ownsRow W.heap.size 5 1 (.slice a' 40 c') 40 ((rdAt (A k) s).2.map u8) ∧ (rdAt (A k) s).2.length = 40) := fun W hW k s hk => GA.out W (hB3.trans (hW.mono hw3)) k s hk
          have hw03 : w.heap.size + 1 ≤ w3.heap.size := by omega
          clear hown3 hl3 x0 x1
          go_wp2_with fail
          go_loopw [12, 13] (fun lv iv wr2 => ∃ (j : Nat) (lt : Bool), j ≤ n ∧ iv = .int .i64 j ∧ lv = .bool lt ∧ Below w3.heap.size w3 wr2 ∧ (lt = true ↔ wrt A F j t)) (fun _ iv _ => n - (intOf iv).toNat)
          case atStart =>
            refine ⟨0, false, Nat.zero_le _, rfl, rfl, Below.refl _ _, ?_⟩
            simp only [Bool.false_eq_true, false_iff]
            rintro ⟨k, h1, h2, _⟩; omega
          case round =>
            obtain ⟨j, lt, hj, rfl, rfl, hB4, hlat⟩ := hrel
            have HLAT := Lib.hid hlat; clear hlat
            have hB4' : Below (w.heap.size + 1) w0 wr := hB3'.trans (hB4.mono (by omega))
            obtain ⟨z0, z1⟩ := BX.out _ hB4'
            by_cases hjn : j < n
            · have G1 := Lib.hid (GA3.out wr hB4 (F + j) t (by omega))
              have G2 := Lib.hid (fun W (hW : Below wr.heap.size wr W) => GA3.out W (hB4.trans (hW.mono hB4.size)) (F + j) 1099511627776 (by omega))
              have RM := rdAt_max HP.out (F + j) t
              have HGT := Lib.hid (rdFrom_get HP.out F t n j)
              have HST := Lib.hid (wrt_step A F t j)
              generalize hT : (rdAt (A (F + j)) 1099511627776).1 = T at *
              clear hT
              obtain ⟨RM0, RM1, RM2⟩ := RM
              have HRM := Lib.hid RM0; clear RM0
              have hs4 := hB4.size
              go_wp2_with fail
              refine G1.out.mono ?_
              rintro e w5 ⟨a5, c5, rfl, hB5, hown5, hl5⟩
              have HR5 := Lib.hid (Rd.of_own hown5).2
              have HL5 := Lib.hid hl5
              have hs5 := hB5.size
              obtain ⟨u0, u1⟩ := BX.out _ (hB4'.trans (hB5.mono (by omega)))
              clear hown5 hl5
              go_wp2_with fail
              refine (G2.out _ hB5).mono ?_
              rintro e w6 ⟨a6, c6, rfl, hB6, hown6, hl6⟩
              have hs6 := hB6.size
              obtain ⟨v0, v1⟩ := BX.out _ ((hB4'.trans (hB5.mono (by omega))).trans (hB6.mono (by omega)))
              clear hown6 hl6
              have hB36 : Below w3.heap.size w3 w6 := (hB4.trans (hB5.mono hs4)).trans (hB6.mono (by omega))
              have hrow : Rd Go.Proofs.Ytglkbkocdeimiaa.u8 w6 (some ⟨b3, 40 * j, none⟩) (rdAt (A (F + j)) t).2 := by
                intro q y hq
                have hq40 : q < 40 := by have := (List.getElem?_eq_some_iff.1 hq).1; rw [HL5.out] at this; exact this
                have e1 := HGT.out q hjn hq40
                rw [hq] at e1
                have h3 := own_below HO3.out hB36
                have hb3 : b3 < w6.heap.size := by
                  have := (own_lt h3 b3 rfl).1; exact this
                refine ⟨b3, 40 * j, rfl, hb3, ?_⟩
                have := h3.cellAt (j * 40 + q) (by omega)
                rw [List.getElem?_map, e1] at this
                rw [show 40 * j + q = j * 40 + q by omega]
                exact this
              have BY := bytes_any (some ⟨b3, 40 * j, none⟩) a5 (c3 - 40 * j) c5 (rdAt (A (F + j)) t).2 (rdAt (A (F + j)) t).2 w6 (by rw [HL5.out]; omega) hrow (HR5.out.below hB6)
              rw [HL5.out, decide_eq_true rfl] at BY
              have HBY := Lib.hid BY
              clear BY hrow
              generalize (rdAt (A (F + j)) t).1 = tt at *
              have hs36 := hB36.size
              have step : Hid (∀ (b : Bool) (W : World), Below w6.heap.size w6 W → (b = true ↔ (wrt A F j t ∨ ∃ x, (A (F + j)).getLast? = some x ∧ t < x.1)) → ∃ (j' : Nat) (lt' : Bool), j' ≤ n ∧ Value.int .i64 ((j : Int) + 1) = .int .i64 (j' : Int) ∧ Value.bool b = .bool lt' ∧ Below w3.heap.size w3 W ∧ (lt' = true ↔ wrt A F j' t)) := by
                intro b W hW hb
                refine ⟨j + 1, b, by omega, by go_num, rfl, hB36.trans (hW.mono hs36), ?_⟩
                rw [hb, show ((j + 1 : Nat) : Int) = (j : Int) + 1 by omega, HST.out]
              cases lt with
              | true =>
                have hw : Hid (wrt A F j t) := HLAT.out.1 rfl
                go_wp2_with fail
                refine HBY.out.mono ?_
                rintro e w7 ⟨rfl, hB7⟩
                go_wp2
                go_roundw
                case rel => exact step.out true w7 hB7 (by simp [hw.out])
                case measure => simp [intOf]; omega
              | false =>
                have hw : Hid (¬ wrt A F j t) := fun h => by have := HLAT.out.2 h; cases this
                by_cases hT1 : t < T
                · by_cases hT2 : 0 < T
                  · have hq : Hid (∃ x, (A (F + j)).getLast? = some x ∧ t < x.1) := HRM.out.1 ⟨hT1, hT2⟩
                    go_wp2_with fail
                    refine HBY.out.mono ?_
                    rintro e w7 ⟨rfl, hB7⟩
                    go_wp2
                    go_roundw
                    case rel => exact step.out true w7 hB7 ⟨fun _ => .inr hq.out, fun _ => rfl⟩
                    case measure => simp [intOf]; omega
                  · have hq : Hid (¬ ∃ x, (A (F + j)).getLast? = some x ∧ t < x.1) := fun h => hT2 (HRM.out.2 h).2
                    have e1 : decide (0 < T) = false := by simpa using hT2
                    clear hT2
                    go_wp2_with fail
                    refine HBY.out.mono ?_
                    rintro e w7 ⟨rfl, hB7⟩
                    go_wp2
                    go_roundw
                    case rel => exact step.out false w7 hB7 ⟨(fun h => nomatch h), (fun h => (h.elim hw.out hq.out).elim)⟩
                    case measure => simp [intOf]; omega
                · have hq : Hid (¬ ∃ x, (A (F + j)).getLast? = some x ∧ t < x.1) := fun h => hT1 (HRM.out.2 h).1
                  have e1 : decide (t < T) = false := by simpa using hT1
                  clear hT1
                  go_wp2_with fail
                  refine HBY.out.mono ?_
                  rintro e w7 ⟨rfl, hB7⟩
                  go_wp2
                  go_roundw
                  case rel => exact step.out false w7 hB7 ⟨(fun h => nomatch h), (fun h => (h.elim hw.out hq.out).elim)⟩
                  case measure => simp [intOf]; omega
            · obtain rfl : j = n := by omega
              go_wp2_with fail
              refine (WR3.out _ hB4).mono ?_
              rintro e w5 ⟨⟨bb, rfl, hbb⟩, hB5⟩
              have hbl : bb = lt := by rw [Bool.eq_iff_iff, hbb, HLAT.out]
              subst hbl
              have t6 : (bb == bb) = true := by simp
              clear hbb
              have hs4 := hB4.size
              have hB5' := hB4'.trans (hB5.mono (by omega))
              go_wp2_with fail
              refine (HAW.out _).mono ?_
              rintro e w6 ⟨rfl, hB6⟩
              go_wp2
              go_ret
              exact ⟨rfl, BK.out _ (hB5'.trans (hB6.mono (by have := hB5.size; omega)))⟩
        · have t5 : decide (20 < F + L) = true := by simp; omega
          have t6 : 20 < F + L := by omega
          have RB := Lib.hid (range_bad (some ⟨r + 1, 0, none⟩) 20 F L t wr (by omega) (by omega) hF0 hF1 hL0 hL1 (fun W hW => blocks_any W (HX.out.below hW)) (decide_eq_false (by omega)))
          clear h20
          go_wp2_with fail
          refine RB.out.mono ?_
          rintro e w3 ⟨rfl, hB3⟩
          have hB3' : Below (w.heap.size + 1) w0 w3 := hB.trans (hB3.mono (by omega))
          obtain ⟨y0, y1⟩ := BX.out _ hB3'
          have hs3 := hB3.size
          go_wp2_with fail
          refine (HAW.out _).mono ?_
          rintro e w6 ⟨rfl, hB6⟩
          go_wp2
          go_ret
          exact ⟨rfl, BK.out _ (hB3'.trans (hB6.mono (by omega)))⟩
  · have hg := Lib.hid hgd
    clear hb hgd
    cases b with
    | false =>
      go_wp2_with fail
      refine (HAW.out _).mono ?_
      rintro e w6 ⟨rfl, hB6⟩
      go_wp2
      go_ret
      exact ⟨rfl, BK.out _ (hB1'.trans (hB6.mono (by omega)))⟩
    | true =>
      by_cases c1 : F < 0
      · go_wp2_with fail
        refine (HAW.out _).mono ?_
        rintro e w6 ⟨rfl, hB6⟩
        go_wp2
        go_ret
        exact ⟨rfl, BK.out _ (hB1'.trans (hB6.mono (by omega)))⟩
      · have d1 : 0 ≤ F := by omega
        clear c1
        by_cases c2 : 100 < F
        · go_wp2_with fail
          refine (HAW.out _).mono ?_
          rintro e w6 ⟨rfl, hB6⟩
          go_wp2
          go_ret
          exact ⟨rfl, BK.out _ (hB1'.trans (hB6.mono (by omega)))⟩
        · have d2 : F ≤ 100 := by omega
          clear c2
          by_cases c3 : L < 1
          · go_wp2_with fail
            refine (HAW.out _).mono ?_
            rintro e w6 ⟨rfl, hB6⟩
            go_wp2
            go_ret
            exact ⟨rfl, BK.out _ (hB1'.trans (hB6.mono (by omega)))⟩
          · have d3 : 1 ≤ L := by omega
            have c4 : 100 < L := by
              apply Classical.byContradiction
              intro h
              exact hg.out ⟨rfl, d1, d2, d3, by omega⟩
            clear c3
            go_wp2_with fail
            refine (HAW.out _).mono ?_
            rintro e w6 ⟨rfl, hB6⟩
            go_wp2
            go_ret
            exact ⟨rfl, BK.out _ (hB1'.trans (hB6.mono (by omega)))⟩

theorem ranges_row (a : Option Addr) (c : Nat) (l : List StV) (x : XV) (t : Int) (w : World) (hn : l.length ≤ maxLen) (h1 : StepsAt w a l) (hx : XOk x) (ht0 : -9223372036854775808 ≤ t) (ht1 : t ≤ 9223372036854775807) :
    Calls Try.prog 4 #[.slice a l.length c, .agg #[.int .i64 x.first, .int .i64 x.len], .int .i64 t] w fun e w' => e = .returned (.bool true) ∧ Below w.heap.size w w' :=
  ranges_any a c l x t w (by unfold maxLen at hn; omega) h1 hx ht0 ht1
end Go.Proofs.Ytglkbkocdeimiaa
