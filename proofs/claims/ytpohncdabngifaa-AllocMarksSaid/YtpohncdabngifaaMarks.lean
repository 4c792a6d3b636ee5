import Derived.Test.YtpohncdabngifaaOnce
namespace Go.Proofs.Ytpohncdabngifaa
open Go.RowKit

/-- the numbers l lie where the slice leads -/
def IntsAt (w : World) (la : Option Addr) (l : List Int) : Prop :=
  ∀ i, i < l.length → ∃ b o, la = some ⟨b, o, none⟩ ∧ b < w.heap.size ∧ w.cell? ⟨b, o + i, none⟩ = some (.int .i64 (l.getD i 0)) ∧
    -9223372036854775808 ≤ l.getD i 0 ∧ l.getD i 0 ≤ 9223372036854775807

structure MarkAt (w0 w : World) (g b hb n : Nat) (zs : List Z) : Prop where
  below : Below w0.heap.size w0 w
  alloc : AllocAt w g b zs 0
  held : w.heap[hb]? = some (.cells (held zs).toArray 4 (0, 0))
  len : zs.length = n
  w0' : ∀ k, wear zs k = 0
theorem MarkAt.later {w0 w w2 : World} {g b hb n : Nat} {zs : List Z} (h : MarkAt w0 w g b hb n zs) (hB : Below w.heap.size w w2) : MarkAt w0 w2 g b hb n zs :=
  ⟨below_below h.below hB (Nat.le_refl _), h.alloc.below' hB, (hB.block hb (lt_heap h.held)).trans h.held, h.len, h.w0'⟩
theorem MarkAt.same {w0 w w1 : World} {g b hb n : Nat} {zs : List Z} (h : MarkAt w0 w g b hb n zs) (hbb : b < hb) (hb0 : w0.heap.size ≤ b) (hA : AllocAt w1 g b zs 0) (hC : Chg (· = b) w w1) : MarkAt w0 w1 g b hb n zs :=
  ⟨below_chg h.below hC (Nat.le_refl _) (by rintro k rfl; exact hb0), hA, (hC.block hb (lt_heap h.held) (by show ¬ hb = b; omega)).trans h.held, h.len, h.w0'⟩
theorem MarkAt.turn {w0 w w1 : World} {g b hb n : Nat} {zs : List Z} (h : MarkAt w0 w g b hb n zs) (hg : g < hb) (hbb : b < hb) (hb0 : w0.heap.size ≤ b) (m : Nat) (hm : m < n)
    (hA : AllocAt w1 g b (zs.set m (true, wear zs m)) 0) (hC : Chg (· = b) w w1) : MarkAt w0 (w1.setCell ⟨hb, m, none⟩ (.bool true)) g b hb n (zs.set m (true, wear zs m)) := by
  have hlb := lt_heap h.held
  have hh : w1.heap[hb]? = some (.cells (Ytpohncdabngifaa.held zs).toArray 4 (0, 0)) := (hC.block hb hlb (by show ¬ hb = b; omega)).trans h.held
  refine ⟨?_, ?_, ?_, by simpa using h.len, ?_⟩
  · exact (below_chg h.below hC (Nat.le_refl _) (by rintro k rfl; exact hb0)).setCell (p := ⟨hb, m, none⟩) (by show w0.heap.size ≤ hb; omega) _
  · exact hA.of_eq (set_heap_ne (by omega)) (set_heap_ne (by omega))
  · rw [set_heap hh, held_set]
  · intro k
    by_cases e : m = k
    · subst e; rw [wear_self _ _ _ (by rw [h.len]; exact hm)]; exact h.w0' m
    · rw [wear_other _ _ _ _ e]; exact h.w0' k

/-- the first i of z freed -/
def fz (z i : Nat) : List Z := (List.range z).map fun j => if j < i then (false, 1) else (true, 0)
theorem fz_len (z i : Nat) : (fz z i).length = z := by simp [fz]
theorem fz_tk (z i j : Nat) (h : j < z) : tk (fz z i) j = decide (¬ j < i) := by
  by_cases hj : j < i <;> simp [tk, fz, List.getD, h, hj] <;> omega
theorem fz_wear (z i j : Nat) (h : j < z) : wear (fz z i) j = if j < i then 1 else 0 := by
  by_cases hj : j < i <;> simp [wear, fz, List.getD, h, hj] <;> omega
theorem fz_succ (z i : Nat) : (fz z i).set i (false, 1) = fz z (i + 1) := by
  apply List.ext_getElem?
  intro j
  by_cases hj : j < z
  · rw [List.getElem?_set]
    by_cases e : i = j
    · subst e
      rw [if_pos rfl, if_pos (by rw [fz_len]; exact hj)]
      simp [fz, hj]
    · rw [if_neg e]
      simp only [fz, List.getElem?_map, List.getElem?_range hj, Option.map_some]
      by_cases h2 : j < i
      · rw [if_pos h2, if_pos (by omega)]
      · rw [if_neg h2, if_neg (by omega)]
  · rw [List.getElem?_eq_none (by simpa [fz] using Nat.le_of_not_lt hj), List.getElem?_eq_none (by simpa [fz] using Nat.le_of_not_lt hj)]
theorem frees_zero (zs : List Z) (n : Nat) (h : (frees zs n).length = 0) (k : Nat) (hk : k < n) : tk zs k = true := by
  induction n with
  | zero => omega
  | succ n ih =>
    rw [fl_succ] at h
    by_cases e : k = n
    · subst e
      by_cases ht : tk zs k = true
      · exact ht
      · rw [if_neg ht] at h; omega
    · exact ih (by omega) (by omega)
theorem fz_zero (zs : List Z) (n : Nat) (hl : zs.length = n) (h0 : cnt zs = 0) (hw : ∀ k, wear zs k = 0) : zs = fz n 0 := by
  apply List.ext_getElem?
  intro j
  by_cases hj : j < n
  · have h1 := frees_zero zs zs.length h0 j (by omega)
    have h2 := hw j
    simp only [tk, wear, List.getD, List.getElem?_eq_getElem (show j < zs.length by omega), Option.getD_some] at h1 h2
    rw [List.getElem?_eq_getElem (by omega)]
    simp [fz, hj]
    exact Prod.ext h1 h2
  · rw [List.getElem?_eq_none (by omega), List.getElem?_eq_none (by simpa [fz] using Nat.le_of_not_lt hj)]
theorem fz_cnt (z : Nat) : cnt (fz z z) = z := by
  have : ∀ n, n ≤ z → (frees (fz z z) n).length = n := by
    intro n
    induction n with
    | zero => simp [frees]
    | succ n ih => intro h; rw [fl_succ, ih (by omega), fz_tk _ _ _ (by omega)]; simp; omega
  simpa [cnt, fz_len] using this z (Nat.le_refl z)

set_option maxHeartbeats 4000000 in
set_option maxRecDepth 100000 in
theorem marks_any (z : Int) (la : Option Addr) (lc : Nat) (l : List Int) (w : World) (hl : IntsAt w la l) :
    Calls Try.prog 6 #[.int .i64 z, .slice la l.length lc] w fun e w' => e = .returned (.bool true) ∧ Below w.heap.size w w' := by
  by_cases hbad : z < 1 ∨ 64 < z ∨ 100 < l.length
  · have hc : z < 1 ∨ (1 ≤ z ∧ 64 < z) ∨ (1 ≤ z ∧ z ≤ 64 ∧ 100 < l.length) := by omega
    clear hbad hl
    rcases hc with h1 | ⟨h1, h2⟩ | ⟨h1, h2, h3⟩
    all_goals
      go_enter Try.func6, Try.ntmps6
      go_wp2_with fail
      refine (awake_any _).mono ?_
      rintro e w3 ⟨rfl, hB3⟩
      go_wp2
      go_ret
      exact ⟨rfl, hB3⟩
  · obtain ⟨n, rfl⟩ := Int.eq_ofNat_of_zero_le (show 0 ≤ z by omega)
    have h1 : (1 : Int) ≤ n := by omega
    have h2 : (n : Int) ≤ 64 := by omega
    have h5 : l.length ≤ 100 := by omega
    have t1 : decide ((n : Int) < 1) = false := by simp; omega
    have t2 : decide (64 < (n : Int)) = false := by simp; omega
    have HL := Lib.hid hl
    have hmk : ∀ W : World, (Instr.makeSlice 28 (.int .i64 n) (.int .i64 n)).run Try.prog W = .ok (.slice (some ⟨W.heap.size, 0, none⟩) n n) (W.alloc (.cells (held (List.replicate n (false, 0))).toArray 4)) := by
      intro W
      rw [held_eq]
      exact make_run (fun z : Z => [Value.bool z.1]) (false, 0) Try.underlying28 (show (Try.prog.info? 4).map (fun i => (i.zero, i.size, i.bytes)) = some (some (.bool false), 1, 1) by kernel_rfl) rfl rfl (by omega) n (by omega) (by omega) W
    generalize hhd : held (List.replicate n (false, 0)) = hd at hmk
    have HD := Lib.hid hhd; clear hhd
    clear hbad hl
    go_enter Try.func6, Try.ntmps6
    go_wp2_with fail
    refine (new_ok n 0 w (by omega) (by omega) (by omega) (by omega)).mono ?_
    rintro e w1 ⟨rfl, hA, hB⟩
    go_wp2_with fail
    clear t1 t2
    go_loopw [8, 9] (fun nv iv wr => ∃ (i : Nat) (zs : List Z), i ≤ l.length ∧ iv = .int .i64 i ∧ nv = .int .i64 (cnt zs : Nat) ∧ MarkAt w wr (w.heap.size + 1) w.heap.size w1.heap.size n zs) (fun _ iv _ => l.length - (intOf iv).toNat)
    case atStart =>
      refine ⟨0, List.replicate n (false, 0), Nat.zero_le _, rfl, by rw [cnt_rep], ?_, ?_, ?_, ?_, ?_⟩
      · exact hB.alloc hB.size _
      · exact hA.below' ((Below.refl _ _).alloc (Nat.le_refl _) _)
      · rw [alloc_new rfl, HD.out]
      · simp
      · intro k
        by_cases hk : k < n
        · rw [wear_rep _ _ _ _ hk]
        · simp [wear, List.getD, hk]
    case round =>
      have hne1 : w.heap.size + 1 < w1.heap.size := lt_heap hA.hg
      have hlw := hB.size
      clear hmk hA hB HD
      obtain ⟨i, zs, hi, rfl, rfl, hO⟩ := hrel
      have HO := Lib.hid hO; clear hO
      have hcb : cnt zs ≤ 64 := by have := frees_len zs zs.length; have h6 := HO.out.len; simp only [cnt]; omega
      by_cases hlt : i < l.length
      · obtain ⟨b, o, rfl, hb, d0, hr0, hr1⟩ := HL.out i hlt
        have e0 := (HO.out.below.cell (p := ⟨b, o + i, none⟩) hb).trans d0
        clear d0
        generalize l.getD i 0 = x at *
        by_cases hx : x < 0 ∨ (n : Int) ≤ x
        · have HM := Lib.hid (mark_out _ _ _ _ x wr HO.out.alloc (by rw [HO.out.len]; exact hx))
          have hx' : x < 0 ∨ (0 ≤ x ∧ (n : Int) ≤ x) := by omega
          clear hx
          generalize hc : cnt zs = c at *
          have HC := Lib.hid hc; clear hc
          rcases hx' with h6 | ⟨h6, h7⟩
          all_goals
            go_wp2_with fail
            refine HM.out.mono ?_
            rintro e w2 ⟨rfl, rfl⟩
            clear HM
            go_wp2
            go_roundw
            case rel => exact ⟨i + 1, _, by omega, by go_num, by rw [HC.out], HO.out⟩
            case measure => simp [intOf]; omega
        · obtain ⟨k, rfl⟩ := Int.eq_ofNat_of_zero_le (show 0 ≤ x by omega)
          have hkn : k < n := by omega
          have hk0 : (0 : Int) ≤ k := by omega
          have hk1 : (k : Int) < n := by omega
          clear hx
          have HM := Lib.hid (mark_in _ _ _ _ k wr HO.out.alloc (by rw [HO.out.len]; exact hkn))
          have hlb := lt_heap HO.out.held
          cases ht : tk zs k with
          | true =>
            go_wp2_with fail
            refine HM.out.mono ?_
            rintro e w2 ⟨rfl, hA2, hC2⟩
            rw [ht, if_pos rfl] at hA2
            rw [ht, if_pos rfl]
            have hh := (hC2.block w1.heap.size hlb (by show ¬ w1.heap.size = w.heap.size; omega)).trans HO.out.held
            have e4 : w2.cell? ⟨w1.heap.size, k, none⟩ = some (.bool true) := by rw [← ht]; exact cell_heap hh (held_get zs k (by rw [HO.out.len]; exact hkn))
            have HO2 := Lib.hid (HO.out.same (by omega) (Nat.le_refl _) hA2 hC2)
            clear hA2 hC2 HO HM ht e0 hh
            generalize hc : cnt zs = c at *
            have HC := Lib.hid hc; clear hc
            go_wp2
            go_roundw
            case rel => exact ⟨i + 1, _, by omega, by go_num, by rw [HC.out], HO2.out⟩
            case measure => simp [intOf]; omega
          | false =>
            go_wp2_with fail
            refine HM.out.mono ?_
            rintro e w2 ⟨rfl, hA2, hC2⟩
            rw [ht, if_neg (by decide)] at hA2
            rw [ht, if_neg (by decide)]
            have hh := (hC2.block w1.heap.size hlb (by show ¬ w1.heap.size = w.heap.size; omega)).trans HO.out.held
            have e4 : w2.cell? ⟨w1.heap.size, k, none⟩ = some (.bool false) := by rw [← ht]; exact cell_heap hh (held_get zs k (by rw [HO.out.len]; exact hkn))
            have e5 : w2.frozen? ⟨w1.heap.size, k, none⟩ = false := free_heap hh
            have HO2 := Lib.hid (HO.out.turn (by omega) (by omega) (Nat.le_refl _) k hkn hA2 hC2)
            have hcc := cnt_take zs k (wear zs k) (by rw [HO.out.len]; exact hkn) ht
            clear hA2 hC2 HO HM ht e0 hh
            obtain ⟨c2, hc2⟩ : ∃ c2, cnt (zs.set k (true, wear zs k)) = c2 := ⟨_, rfl⟩
            rw [hc2] at hcc
            rw [← hcc] at hcb ⊢
            have HC := Lib.hid hc2; clear hc2 hcc
            go_wp2
            go_roundw
            case rel => exact ⟨i + 1, _, by omega, by go_num, by rw [HC.out], HO2.out⟩
            case measure => simp [intOf]; omega
      · generalize hN : cnt zs = N at *
        have HN := Lib.hid hN; clear hN
        go_wp2_with fail
        go_loopw [12] (fun iv wr => ∃ (i : Nat) (zs : List Z), i + cnt zs = N ∧ iv = .int .i64 i ∧ MarkAt w wr (w.heap.size + 1) w.heap.size w1.heap.size n zs) (fun iv _ => N - (intOf iv).toNat)
        case atStart => exact ⟨0, zs, by rw [HN.out]; omega, rfl, HO.out⟩
        case round =>
          clear HO HN hi zs
          obtain ⟨k, zs, hk, rfl, hO⟩ := hrel
          have HO := Lib.hid hO; clear hO
          by_cases hlt2 : k < N
          · obtain ⟨m, hm⟩ := bst_some zs zs.length (by have : cnt zs = (frees zs zs.length).length := rfl; omega)
            have hmn : m < n := by rw [← HO.out.len]; exact bst_lt _ _ _ hm
            have htm := bst_free _ _ _ hm
            have hlb := lt_heap HO.out.held
            have HT := Lib.hid (take_some _ _ _ _ false wr m HO.out.alloc (by omega) (Or.inr (by omega)) hm)
            have HK := Lib.hid hk; clear hk
            go_wp2_with fail
            refine HT.out.mono ?_
            rintro e w2 ⟨rfl, hA2, hC2⟩
            have hh := (hC2.block w1.heap.size hlb (by show ¬ w1.heap.size = w.heap.size; omega)).trans HO.out.held
            have e4 : w2.cell? ⟨w1.heap.size, m, none⟩ = some (.bool false) := by rw [← htm]; exact cell_heap hh (held_get zs m (by rw [HO.out.len]; exact hmn))
            have e5 : w2.frozen? ⟨w1.heap.size, m, none⟩ = false := free_heap hh
            have HO2 := Lib.hid (HO.out.turn (by omega) (by omega) (Nat.le_refl _) m hmn hA2 hC2)
            have hcc := cnt_take zs m (wear zs m) (by rw [HO.out.len]; exact hmn) htm
            have HK2 : Hid (k + 1 + cnt (zs.set m (true, wear zs m)) = N) := by have := HK.out; show k + 1 + cnt (zs.set m (true, wear zs m)) = N; omega
            have hmn' : (m : Int) < n := by omega
            clear hA2 hC2 HO HT htm hh hm hcc HK
            go_wp2
            go_roundw
            case rel => exact ⟨k + 1, _, HK2.out, by go_num, HO2.out⟩
            case measure => simp [intOf]; omega
          · have hc0 : cnt zs = 0 := by omega
            have hkN : k = N := by omega
            subst hkN
            have HC0 := Lib.hid hc0; clear hc0 hk
            go_wp2_with fail
            refine (take_none _ _ _ _ true wr HO.out.alloc (Or.inl HC0.out)).mono ?_
            rintro e w2 ⟨rfl, hB2⟩
            have HO2 := Lib.hid (HO.out.later hB2); clear HO hB2
            go_wp2_with fail
            refine (count_any _ _ _ _ _ HO2.out.alloc).mono ?_
            rintro e w3 ⟨rfl, hB3⟩
            have HO3 := Lib.hid (HO2.out.later hB3); clear HO2 hB3
            rw [HC0.out]
            go_wp2_with fail
            refine (list_any _ _ _ _ _ HO3.out.alloc).mono ?_
            rintro e w4 ⟨v, rfl, hB4, hown⟩
            have HO4 := Lib.hid (HO3.out.later hB4); clear HO3 hB4
            rw [show (frees zs zs.length).length = 0 from HC0.out] at hown
            obtain ⟨va, vc, rfl⟩ := own_form hown
            clear hown
            go_wp2_with fail
            go_loopw [17] (fun iv wr => ∃ (i : Nat), i ≤ n ∧ iv = .int .i64 i ∧ Below w.heap.size w wr ∧ AllocAt wr (w.heap.size + 1) w.heap.size (fz n i) 0) (fun iv _ => n - (intOf iv).toNat)
            case atStart => exact ⟨0, Nat.zero_le _, rfl, HO4.out.below, by rw [← fz_zero zs n HO4.out.len HC0.out HO4.out.w0']; exact HO4.out.alloc⟩
            case round =>
              clear HO4 HC0 zs
              obtain ⟨j, hj, rfl, hB, hA⟩ := hrel
              have HB := Lib.hid hB; clear hB
              by_cases hlt3 : j < n
              · have HF := Lib.hid (free_in _ _ _ _ j wr hA (by rw [fz_len]; exact hlt3) (by rw [fz_wear _ _ _ hlt3]; split <;> omega) (by rw [fz_wear _ _ _ hlt3]; split <;> omega))
                go_wp2_with fail
                refine HF.out.mono ?_
                rintro e w5 ⟨rfl, hA5, hC5⟩
                rw [fz_tk _ _ _ hlt3, fz_wear _ _ _ hlt3, if_neg (show ¬ j < j by omega), show decide (¬ j < j) = true by simp, if_pos rfl, show (0 : Int) + 1 = 1 from rfl, fz_succ] at hA5
                rw [fz_tk _ _ _ hlt3, show decide (¬ j < j) = true by simp, if_pos rfl]
                have HB5 := Lib.hid (below_chg HB.out hC5 (Nat.le_refl _) (by rintro k rfl; exact Nat.le_refl _))
                have HA5 := Lib.hid hA5
                clear hA5 hC5 HF hA HB
                go_wp2_with fail
                refine (wear_in _ _ _ _ j w5 HA5.out (by rw [fz_len]; exact hlt3)).mono ?_
                rintro e w6 ⟨rfl, rfl⟩
                rw [fz_wear _ _ _ hlt3, if_pos (by omega)]
                go_wp2
                go_roundw
                case rel => exact ⟨j + 1, by omega, by go_num, HB5.out, HA5.out⟩
                case measure => simp [intOf]; omega
              · have hjn : j = n := by omega
                subst hjn
                go_wp2_with fail
                refine (count_any _ _ _ _ _ hA).mono ?_
                rintro e w5 ⟨rfl, hB5⟩
                rw [fz_cnt]
                go_wp2_with fail
                refine (awake_any _).mono ?_
                rintro e w6 ⟨rfl, hB6⟩
                go_wp2
                go_ret
                exact ⟨rfl, below_below (below_below HB.out hB5 (Nat.le_refl _)) hB6 (Nat.le_refl _)⟩
end Go.Proofs.Ytpohncdabngifaa
