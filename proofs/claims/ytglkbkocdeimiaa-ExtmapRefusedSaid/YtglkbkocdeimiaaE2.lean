import Derived.Test.YtglkbkocdeimiaaE1
import Derived.Deep.RegionHeld3
namespace Go.Proofs.Ytglkbkocdeimiaa
open Go.RowKit
open BigFrame Lib
open Go.ChangeMaps (setBlock)

/-- i is the number of the newest version that is not above t, or -1 -/
def IsAt (l : List AV) (t i : Int) : Prop := -1 ≤ i ∧ i < l.length ∧ (∀ j : Nat, i < j → ∀ x, l[j]? = some x → t < x.1) ∧ (∀ j : Nat, (j : Int) = i → ∀ x, l[j]? = some x → x.1 ≤ t)
def rdAt (l : List AV) (t : Int) : AV := ((l.filter fun x => decide (x.1 ≤ t)).getLast?).getD (0, zeros)

theorem rdAt_none {l : List AV} {t i : Int} (h : IsAt l t i) (hi : i < 0) : rdAt l t = (0, zeros) := by
  have : (l.filter fun x => decide (x.1 ≤ t)) = [] := by
    rw [List.filter_eq_nil_iff]
    intro x hx
    obtain ⟨j, hj⟩ := List.getElem?_of_mem hx
    have := h.2.2.1 j (by omega) x hj
    simp; omega
  unfold rdAt; rw [this]; rfl
theorem rdAt_some {l : List AV} {t i : Int} (h : IsAt l t i) (hi : 0 ≤ i) : ∃ x, l[i.toNat]? = some x ∧ rdAt l t = x := by
  have hlt : i.toNat < l.length := by have := h.2.1; omega
  refine ⟨l[i.toNat], List.getElem?_eq_getElem hlt, ?_⟩
  have e : l = l.take i.toNat ++ (l[i.toNat] :: l.drop (i.toNat + 1)) := by
    rw [← List.drop_eq_getElem_cons hlt, List.take_append_drop]
  have hd : ((l.drop (i.toNat + 1)).filter fun x => decide (x.1 ≤ t)) = [] := by
    rw [List.filter_eq_nil_iff]
    intro x hx
    obtain ⟨j, hj⟩ := List.getElem?_of_mem hx
    rw [List.getElem?_drop] at hj
    have := h.2.2.1 (i.toNat + 1 + j) (by omega) x hj
    simp; omega
  have hx : decide ((l[i.toNat]).1 ≤ t) = true := by
    have := h.2.2.2 i.toNat (by omega) _ (List.getElem?_eq_getElem hlt)
    simpa using this
  unfold rdAt
  conv => lhs; rw [e]
  rw [List.filter_append, List.filter_cons, if_pos hx, hd]
  simp

theorem ver_cells {B : Nat} {w : World} {b cap : Nat} {l : List Ver} {n : Nat} (h : w.ownsRow B 70 2 (.slice (some ⟨b, 0, none⟩) n cap) n (l.flatMap encV)) (i : Nat) (x : Ver) (hi : l[i]? = some x) :
    w.cell? ⟨b, i * 2, none⟩ = some (.int .i64 x.time) ∧ w.cell? ⟨b, i * 2 + 1, none⟩ = some (.slice x.a 40 x.c) := by
  have hl : n = l.length := by
    have := h.1
    rw [flat_len (k := 2) (fun _ => rfl)] at this
    omega
  have hlt := (List.getElem?_eq_some_iff.1 hi).1
  have g0 := flat_get (enc := encV) (k := 2) (fun _ => rfl) l i 0 (by omega)
  have g1 := flat_get (enc := encV) (k := 2) (fun _ => rfl) l i 1 (by omega)
  rw [hi] at g0 g1
  simp only [Option.bind_some] at g0 g1
  have c0 := h.cellAt (i * 2 + 0) (by omega)
  have c1 := h.cellAt (i * 2 + 1) (by omega)
  exact ⟨c0.trans g0, c1.trans g1⟩

set_option maxRecDepth 100000 in
theorem at_any {B g r : Nat} {n last : Int} {A : Int → List AV} (k t : Int) (w : World) (hX : ExAt B w g r n last A) :
    Calls Try.prog 32 #[.pointer (some ⟨g, 0, none⟩), .int .i64 k, .int .i64 t] w fun e w' => (∃ i : Int, e = .returned (.int .i64 i) ∧ IsAt (A k) t i) ∧ w = w' := by
  have c1 := hX.c1
  obtain ⟨m, E, hm, hA⟩ := hX.ex
  have hL := Lib.hid (map_lookup (P := Try.prog) (k := k) hm.map Try.underlying60 Try.underlying3 (Try.zeroValue67 _))
  have hk := hm.ent k
  have hAk := hA k
  clear hX hA
  cases hg : mget m k with
  | none =>
    rw [hg] at hk
    have he : E k = [] := hk
    have HE : Hid (A k = []) := by show _ = _; rw [hAk, he]; rfl
    have HG := Lib.hid hg
    clear hk hg he hAk hm
    go_enter Try.func32, Try.ntmps32
    go_wp2_with fail
    go_step3
    go_wp2_with fail
    rw [hL.out, HG.out]
    go_wp2_with fail
    go_step3
    go_wp2_with fail
    go_loopw [8] (fun iv wr => iv = .int .i64 (-1) ∧ wr = w) (fun _ _ => 0)
    case atStart => exact ⟨rfl, rfl⟩
    case round =>
      obtain ⟨rfl, rfl⟩ := hrel
      go_wp2
      first | rw [Exit.noGoto_ret] | skip
      go_ret
      refine ⟨⟨-1, rfl, ?_⟩, rfl⟩
      rw [HE.out]
      exact ⟨by omega, by simp, fun j _ x hx => by simp at hx, fun j _ x hx => by simp at hx⟩
  | some v =>
    rw [hg] at hk
    have hv : VRow B w v (E k) := hk
    obtain ⟨ha, cc, rfl⟩ := own_form hv.1
    have hlen : 0 < (E k).length := List.length_pos_iff.2 hv.2.1
    obtain ⟨b, hb⟩ : ∃ b, ha = some ⟨b, 0, none⟩ := by
      rcases hv.1.2 with ⟨_, h2⟩ | ⟨g', _, _, h1, _⟩
      · omega
      · simp at h1; exact ⟨g', h1.1⟩
    subst hb
    have hcap := hv.1
    have hlm : (E k).length ≤ 9223372036854775807 := by
      rcases hv.1.2 with ⟨_, h2⟩ | ⟨g', cap, cur, h1, h2, h3, h4, h5, h6⟩
      · omega
      · unfold maxLen at h5; omega
    have HC := Lib.hid (ver_cells hv.1)
    have HA := Lib.hid hAk
    generalize E k = l at *
    generalize hll : l.length = len at *
    have HLL := Lib.hid hll
    have HG := Lib.hid hg
    clear hk hg hAk hm hll hcap hv
    go_enter Try.func32, Try.ntmps32
    go_wp2_with fail
    go_step3
    go_wp2_with fail
    rw [hL.out, HG.out]
    go_wp2_with fail
    go_step3
    go_wp2_with fail
    go_loopw [8] (fun iv wr => ∃ i : Int, iv = .int .i64 i ∧ -1 ≤ i ∧ i < len ∧ (∀ j : Nat, i < j → ∀ x, l[j]? = some x → t < x.time) ∧ wr = w) (fun iv _ => (intOf iv + 1).toNat)
    case atStart => exact ⟨len - 1, by go_num, by omega, by omega, fun j hj x hx => by have := (List.getElem?_eq_some_iff.1 hx).1; rw [HLL.out] at this; omega, rfl⟩
    case round =>
      obtain ⟨i, rfl, hi0, hi1, hall, rfl⟩ := hrel
      have HALL := Lib.hid hall; clear hall
      have fin : ∀ i : Int, -1 ≤ i → i < len → (∀ j : Nat, i < j → ∀ x, l[j]? = some x → t < x.time) → (∀ j : Nat, (j : Int) = i → ∀ x, l[j]? = some x → x.time ≤ t) → IsAt (A k) t i := by
        intro i h0 h1 h2 h3
        rw [HA.out]
        refine ⟨h0, by simp [absV, HLL.out]; exact h1, fun j hj x hx => ?_, fun j hj x hx => ?_⟩
        · simp only [absV, List.getElem?_map, Option.map_eq_some_iff] at hx
          obtain ⟨y, hy, rfl⟩ := hx
          exact h2 j hj y hy
        · simp only [absV, List.getElem?_map, Option.map_eq_some_iff] at hx
          obtain ⟨y, hy, rfl⟩ := hx
          exact h3 j hj y hy
      have FIN := Lib.hid fin; clear fin
      by_cases h0 : 0 ≤ i
      · obtain ⟨j, rfl⟩ : ∃ j : Nat, i = j := ⟨i.toNat, by omega⟩
        have hx : l[j]? = some (l[j]'(by rw [HLL.out]; omega)) := List.getElem?_eq_getElem _
        generalize l[j]'(by rw [HLL.out]; omega) = x at hx
        obtain ⟨d0, d1⟩ := HC.out j x hx
        have hjlt : j < len := by omega
        have HX := Lib.hid hx; clear hx
        by_cases ht : x.time ≤ t
        · go_wp2
          first | rw [Exit.noGoto_ret] | skip
          go_ret
          exact ⟨⟨j, rfl, FIN.out _ (by omega) (by omega) HALL.out (fun j' hj y hy => by
            obtain rfl : j' = j := by omega
            rw [HX.out] at hy
            cases hy
            exact ht)⟩, rfl⟩
        · have ht2 : decide (x.time ≤ t) = false := by simpa using ht
          have ht3 : t < x.time := by omega
          go_wp2
          go_roundw
          case rel =>
            refine ⟨(j : Int) - 1, rfl, by omega, by omega, fun j' hj y hy => ?_, trivial⟩
            by_cases e : j' = j
            · subst e
              rw [HX.out] at hy
              cases hy
              exact ht3
            · exact HALL.out j' (by omega) y hy
          case measure => simp [intOf]
      · have e : i = -1 := by omega
        subst e
        go_wp2
        first | rw [Exit.noGoto_ret] | skip
        go_ret
        exact ⟨⟨-1, rfl, FIN.out _ (by omega) (by omega) HALL.out (fun j hj => by omega)⟩, rfl⟩

set_option maxRecDepth 100000 in
theorem xget_any {B g r : Nat} {n last : Int} {A : Int → List AV} (k t : Int) (w : World) (hX : ExAt B w g r n last A) (hk : 0 ≤ k ∧ k < n) :
    Calls Try.prog 13 #[.pointer (some ⟨g, 0, none⟩), .int .i64 k, .int .i64 t] w fun e w' => ∃ a' c', e = .returned (.tuple #[.slice a' 40 c', .int .i64 (rdAt (A k) t).1]) ∧ Below w.heap.size w w' ∧ w'.ownsRow w.heap.size 5 1 (.slice a' 40 c') 40 ((rdAt (A k) t).2.map u8) ∧ (rdAt (A k) t).2.length = 40 := by
  have BL := xblock_any k w hX
  rw [decide_eq_true hk] at BL
  have HBL := Lib.hid BL
  have HAT := Lib.hid (at_any k t w hX)
  have c1 := hX.c1
  obtain ⟨m, E, hm, hA⟩ := hX.ex
  have hL := Lib.hid (map_lookup (P := Try.prog) (k := k) hm.map Try.underlying60 Try.underlying3 (Try.zeroValue67 _))
  have he := hm.ent k
  have hAk := hA k
  have hlen40 := Lib.hid (hX.pure.len k)
  clear hX hA BL hk
  go_enter Try.func13, Try.ntmps13
  go_wp2_with fail
  refine HBL.out.mono ?_
  rintro e w' ⟨rfl, rfl⟩
  go_wp2_with fail
  refine HAT.out.mono ?_
  rintro e w' ⟨⟨i, rfl, hi⟩, rfl⟩
  by_cases h0 : i < 0
  · have hr := rdAt_none hi h0
    have HR := Lib.hid hr
    clear hr hi hAk he hm
    have h1 : decide (i < 0) = true := by simpa using h0
    go_wp2_with fail
    rw [mk40]
    go_wp2
    go_ret2
    rw [HR.out]
    exact ⟨_, _, rfl, (Below.refl _ w).alloc (Nat.le_refl _) _, World.ownsRow_lit _ _ 40 (Nat.le_refl _) (by unfold maxLen; omega) rfl, rfl⟩
  · obtain ⟨j, rfl⟩ : ∃ j : Nat, i = j := ⟨i.toNat, by omega⟩
    obtain ⟨x, hx, hr⟩ := rdAt_some hi (by omega)
    simp only [Int.toNat_natCast] at hx
    rw [hAk] at hx
    simp only [absV, List.getElem?_map, Option.map_eq_some_iff] at hx
    obtain ⟨y, hy, rfl⟩ := hx
    cases hg : mget m k with
    | none =>
      rw [hg] at he
      have : E k = [] := he
      rw [this] at hy
      simp at hy
    | some v =>
      rw [hg] at he
      have hv : VRow B w v (E k) := he
      obtain ⟨ha, cc, rfl⟩ := own_form hv.1
      have hlen : 0 < (E k).length := List.length_pos_iff.2 hv.2.1
      obtain ⟨b, hb⟩ : ∃ b, ha = some ⟨b, 0, none⟩ := by
        rcases hv.1.2 with ⟨_, h2⟩ | ⟨g', _, _, h1, _⟩
        · omega
        · simp at h1; exact ⟨g', h1.1⟩
      subst hb
      have hjl : j < (E k).length := (List.getElem?_eq_some_iff.1 hy).1
      obtain ⟨d0, d1⟩ := ver_cells hv.1 j y hy
      have hown := hv.2.2 y (List.mem_of_getElem? hy)
      obtain ⟨h40, hR⟩ := Rd.of_own hown
      have hbl := World.block_lt_of_cell? w _ d0
      obtain ⟨b5, o5, hya, hb5, _⟩ := hR.head (by omega)
      have HR := Lib.hid hr
      have HG := Lib.hid hg
      have HXR := Lib.hid hR
      have H40 : Hid (y.d.length = 40) := h40.symm
      have h1 : decide ((j : Int) < 0) = false := by simp
      have CL := Lib.hid (fun W (hW : Below w.heap.size w W) => H40.out ▸ clone_some ⟨b5, o5, none⟩ y.c y.d W (by rw [H40.out]; omega) (hya ▸ hR.below hW))
      rw [hya] at d1
      generalize (E k).length = len at *
      clear hi hAk he hm hv hr hg hown hR h40 hy h0
      go_wp2_with fail
      rw [hL.out, HG.out]
      go_wp2_with fail
      have k3 : (w.alloc (.cells #[.int .i64 y.time, .slice (some ⟨b5, o5, none⟩) 40 y.c] 70)).cell? ⟨w.heap.size, 0, none⟩ = some (.int .i64 y.time) := by first | omega | (simp; done) | (simp; omega) | (go_num; done)
      have k4 : (w.alloc (.cells #[.int .i64 y.time, .slice (some ⟨b5, o5, none⟩) 40 y.c] 70)).cell? ⟨w.heap.size, 1, none⟩ = some (.slice (some ⟨b5, o5, none⟩) 40 y.c) := by first | omega | (simp; done) | (simp; omega) | (go_num; done)
      have hBW : Below w.heap.size w (w.alloc (.cells #[.int .i64 y.time, .slice (some ⟨b5, o5, none⟩) 40 y.c] 70)) := (Below.refl _ w).alloc (Nat.le_refl _) _
      have hsW : (w.alloc (.cells #[.int .i64 y.time, .slice (some ⟨b5, o5, none⟩) 40 y.c] 70)).heap.size = w.heap.size + 1 := by simp
      generalize w.alloc (.cells #[.int .i64 y.time, .slice (some ⟨b5, o5, none⟩) 40 y.c] 70) = W at *
      go_region_held3 (fun w' => w'.cell? ⟨w.heap.size, 0, none⟩ = some (.int .i64 y.time) ∧ w'.cell? ⟨w.heap.size, 1, none⟩ = some (.slice (some ⟨b5, o5, none⟩) 40 y.c))
        (go_keep)
        (first
         | (go_at_call 31
            refine (CL.out _ (hBW.trans (below_drewN (Below.refl _ _) 1))).mono ?_
            rintro e w1 ⟨a', c', rfl, hBc, hown1⟩
            have hBd : Below W.heap.size W w1 := (below_drewN (Below.refl _ W) 1).trans hBc
            have HOW := Lib.hid hown1
            clear hown1
            have s3 := (hBd.cell (p := ⟨w.heap.size, 0, none⟩) (by show w.heap.size < _; omega)).trans k3
            have s4 := (hBd.cell (p := ⟨w.heap.size, 1, none⟩) (by show w.heap.size < _; omega)).trans k4))
      go_wp2
      go_ret2
      rw [HR.out]
      exact ⟨_, _, rfl, hBW.trans (hBd.mono (by omega)), own_base HOW.out (by show w.heap.size ≤ W.heap.size; omega), H40.out⟩
end Go.Proofs.Ytglkbkocdeimiaa
