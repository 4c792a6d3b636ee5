import Derived.Test.YtdgnhimiamchmaaD
namespace Go.Proofs.Ytdgnhimiamchmaa
open Go.RowKit
open BigFrame Lib
open Go.ChangeMaps (setBlock)

/-- what a row of bytes on any number holds -/
def gAt (k : Int) (i : Nat) : Int := wrap64 (wrap64 ((i : Int) * i + wrap64 (k * 7)) + 1) % 251
def gat (k : Int) : List Int := (List.range 40).map (gAt k)
theorem w64_in (n : Int) : -9223372036854775808 ≤ wrap64 n ∧ wrap64 n ≤ 9223372036854775807 := by
  unfold wrap64; omega
theorem gat_nz (k : Int) : allz (gat k) = false := by
  have h0 : (gat k)[0]? = some (gAt k 0) := by simp [gat]
  have h1 : (gat k)[1]? = some (gAt k 1) := by simp [gat]
  cases hz : allz (gat k) with
  | false => rfl
  | true =>
    exfalso
    have ha : ∀ x ∈ gat k, x = 0 := fun x hx => by have := List.all_eq_true.1 hz x hx; simpa using this
    have e0 := ha _ (List.mem_of_getElem? h0)
    have e1 := ha _ (List.mem_of_getElem? h1)
    have hk := w64_in (k * 7)
    unfold gAt at e0 e1
    generalize wrap64 (k * 7) = K at *
    simp only [Int.natCast_zero, Int.natCast_one, Int.mul_zero, Int.mul_one, Int.zero_add] at e0 e1
    have hid : ∀ n : Int, -9223372036854775808 ≤ n → n ≤ 9223372036854775807 → wrap64 n = n := fun n h1 h2 => by unfold wrap64; omega
    by_cases hs : K ≤ 9223372036854775805
    · rw [hid K hk.1 hk.2, hid (K + 1) (by omega) (by omega)] at e0
      rw [hid (1 + K) (by omega) (by omega), hid (1 + K + 1) (by omega) (by omega)] at e1
      omega
    · by_cases ht : K = 9223372036854775806
      · subst ht
        unfold wrap64 at e0 e1; omega
      · have : K = 9223372036854775807 := by omega
        subst this
        rw [hid 9223372036854775807 (by omega) (by omega)] at e0
        have e2 : wrap64 (9223372036854775807 + 1) = -9223372036854775808 := by unfold wrap64; omega
        rw [e2] at e0
        clear hid e1 ha h0 h1
        omega
theorem gat_len (k : Int) : (gat k).length = 40 := by simp [gat]
theorem gat_get (k : Int) (i : Nat) (hi : i < 40) : (gat k)[i]? = some (gAt k i) := by simp [gat, hi]
def gpre (k : Int) (i : Nat) : List Int := (gat k).take i ++ List.replicate (40 - i) 0
theorem gpre_len (k : Int) (i : Nat) (hi : i ≤ 40) : (gpre k i).length = 40 := by simp [gpre, gat_len]; omega
theorem gpre_set (k : Int) (i : Nat) (hi : i < 40) : (gpre k i).set i (gAt k i) = gpre k (i + 1) := by
  have hl : ((gat k).take i).length = i := by simp [gat_len]; omega
  unfold gpre
  rw [List.set_append, hl, if_neg (by omega), Nat.sub_self, show 40 - i = (40 - (i + 1)) + 1 by omega, List.replicate_succ, List.set_cons_zero, List.take_add_one, gat_get k i hi, Option.toList_some, List.append_assoc]
  rfl
theorem gpre_map (k : Int) (i : Nat) (hi : i < 40) : ((gpre k i).map u8).set i (.int .u8 (gAt k i)) = (gpre k (i + 1)).map u8 := by
  rw [← gpre_set k i hi, List.map_set]; rfl

set_option maxRecDepth 100000 in
theorem block40_all (k : Int) (w : World) (h0 : -9223372036854775808 ≤ k) (h1 : k ≤ 9223372036854775807) :
    Calls Try.prog 54 #[.int .i64 40, .int .i64 k] w fun e w' => ∃ a c, e = .returned (.slice a 40 c) ∧ Below w.heap.size w w' ∧ w'.ownsRow w.heap.size 5 1 (.slice a 40 c) 40 ((gat k).map u8) := by
  have HR := Lib.hid (fun (k : Int) (w : World) (hk : -9223372036854775808 ≤ k) (hk2 : k ≤ 9223372036854775807) => round_any k 251 w (by omega) (by omega) hk hk2)
  go_enter Try.func54, Try.ntmps54
  go_wp2_with fail
  rw [mk40]
  have hb : (w.alloc (.cells (zeros.map u8).toArray 5)).heap[w.heap.size]? = some (.cells (((gpre k 0).map u8).toArray) 5 (0, 0)) := alloc_new rfl
  have hB : Below w.heap.size w (w.alloc (.cells (zeros.map u8).toArray 5)) := (Below.refl _ w).alloc (Nat.le_refl _) _
  generalize hbb : w.heap.size = bb at *
  generalize w.alloc (.cells (zeros.map u8).toArray 5) = w2 at *
  go_wp2_with fail
  go_loopw [6] (fun iv wr => ∃ i : Nat, i ≤ 40 ∧ iv = .int .i64 i ∧ Below bb w wr ∧ wr.heap[bb]? = some (.cells (((gpre k i).map Go.Proofs.Ytdgnhimiamchmaa.u8).toArray) 5 (0, 0))) (fun iv _ => 40 - (intOf iv).toNat)
  case atStart => exact ⟨0, Nat.zero_le _, rfl, hB, hb⟩
  case round =>
    clear hB hb
    obtain ⟨i, hi, rfl, hB, hb⟩ := hrel
    by_cases hlt : i < 40
    · have hsz := lt_heap hb
      have c0 : wr.cell? ⟨bb, i, none⟩ = some (.int .u8 ((gpre k i)[i]'(by rw [gpre_len k i hi]; exact hlt))) := by
        refine cell_heap hb ?_
        rw [List.getElem?_map, List.getElem?_eq_getElem (by rw [gpre_len k i hi]; exact hlt)]; rfl
      generalize (gpre k i)[i]'(by rw [gpre_len k i hi]; exact hlt) = x0 at c0
      have f0 : wr.frozen? ⟨bb, i, none⟩ = false := free_heap hb
      have hsq : (i : Int) * i ≤ 1600 := by
        have : i * i ≤ 40 * 40 := Nat.mul_le_mul (by omega) (by omega)
        have e : ((i * i : Nat) : Int) = (i : Int) * i := by simp
        omega
      have hsq0 : 0 ≤ (i : Int) * i := by
        have e : ((i * i : Nat) : Int) = (i : Int) * i := by simp
        omega
      have hm0 : 0 ≤ gAt k i := Int.emod_nonneg _ (by omega)
      have hm1 : gAt k i < 251 := Int.emod_lt_of_pos _ (by omega)
      have hst := set_heap (o := i) (u := .int .u8 (gAt k i)) hb
      rw [gpre_map k i hlt] at hst
      have HST := Lib.hid hst; have HB := Lib.hid hb; clear hst hb
      have HE : Hid (gAt k i = wrap64 (wrap64 ((i : Int) * i + wrap64 (k * 7)) + 1) % 251) := rfl
      have HWB := w64_in (wrap64 ((i : Int) * i + wrap64 (k * 7)) + 1)
      go_wp2_with (go_at_call 26; refine (HR.out _ _ HWB.1 HWB.2).mono ?_; rintro e w' ⟨rfl, rfl⟩; rw [← HE.out])
      go_roundw
      case rel => exact ⟨i + 1, by omega, by go_num, hB.setCell (by show bb ≤ bb; omega) _, HST.out⟩
      case measure => simp [intOf]; omega
    · have e40 : i = 40 := by omega
      subst e40
      go_wp2
      go_ret
      have hd : gpre k 40 = gat k := by unfold gpre; rw [List.take_of_length_le (by rw [gat_len]; omega)]; simp
      rw [hd] at hb
      refine ⟨_, _, rfl, by rw [hbb]; exact hB, ?_⟩
      rw [hbb]
      exact ⟨by simp [gat_len], .inr ⟨bb, 40, _, rfl, Nat.le_refl _, hb, Nat.le_refl _, by unfold maxLen; omega, by simp [gat_len], List.take_of_length_le (by simp [gat_len])⟩⟩

theorem data_all (k : Int) (w : World) (h0 : -9223372036854775808 ≤ k) (h1 : k ≤ 9223372036854775807) :
    Calls Try.prog 32 #[.int .i64 k] w fun e w' => ∃ a c, e = .returned (.slice a 40 c) ∧ Below w.heap.size w w' ∧ w'.ownsRow w.heap.size 5 1 (.slice a 40 c) 40 ((gat k).map u8) := by
  have H := Lib.hid (block40_all k w h0 h1)
  go_enter Try.func32, Try.ntmps32
  go_wp2_with fail
  refine H.out.mono ?_
  rintro e w' ⟨a, c, rfl, hB, hown⟩
  have HO := Lib.hid hown; clear hown
  go_wp2
  go_ret
  exact ⟨a, c, rfl, hB, HO.out⟩
end Go.Proofs.Ytdgnhimiamchmaa
