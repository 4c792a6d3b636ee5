import Derived.Test.YtdgnhimiamchmaaM5
namespace Go.Proofs.Ytdgnhimiamchmaa
open Go.RowKit
open BigFrame Lib
open Go.ChangeMaps (setBlock)

def datAt (k : Int) (i : Nat) : Int := ((i : Int) * i + k * 7 + 1) % 251
def dat (k : Int) : List Int := (List.range 40).map (datAt k)
theorem dat_len (k : Int) : (dat k).length = 40 := by simp [dat]
theorem dat_get (k : Int) (i : Nat) (hi : i < 40) : (dat k)[i]? = some (datAt k i) := by simp [dat, hi]
def pre (k : Int) (i : Nat) : List Int := (dat k).take i ++ List.replicate (40 - i) 0
theorem pre_len (k : Int) (i : Nat) (hi : i ≤ 40) : (pre k i).length = 40 := by simp [pre, dat_len]; omega
theorem pre_set (k : Int) (i : Nat) (hi : i < 40) : (pre k i).set i (datAt k i) = pre k (i + 1) := by
  have hl : ((dat k).take i).length = i := by simp [dat_len]; omega
  unfold pre
  rw [List.set_append, hl, if_neg (by omega), Nat.sub_self, show 40 - i = (40 - (i + 1)) + 1 by omega, List.replicate_succ, List.set_cons_zero, List.take_add_one, dat_get k i hi, Option.toList_some, List.append_assoc]
  rfl
theorem pre_map (k : Int) (i : Nat) (hi : i < 40) : ((pre k i).map u8).set i (.int .u8 (datAt k i)) = (pre k (i + 1)).map u8 := by
  rw [← pre_set k i hi, List.map_set]; rfl

set_option maxRecDepth 100000 in
theorem block40_any (k : Int) (w : World) (h0 : 0 ≤ k) (h1 : k ≤ 10000) :
    Calls Try.prog 54 #[.int .i64 40, .int .i64 k] w fun e w' => ∃ a c, e = .returned (.slice a 40 c) ∧ Below w.heap.size w w' ∧ w'.ownsRow w.heap.size 5 1 (.slice a 40 c) 40 ((dat k).map u8) := by
  have HR := Lib.hid (fun (k : Int) (w : World) (hk : -9223372036854775808 ≤ k) (hk2 : k ≤ 9223372036854775807) => round_any k 251 w (by omega) (by omega) hk hk2)
  go_enter Try.func54, Try.ntmps54
  go_wp2_with fail
  rw [mk40]
  have hb : (w.alloc (.cells (zeros.map u8).toArray 5)).heap[w.heap.size]? = some (.cells (((pre k 0).map u8).toArray) 5 (0, 0)) := alloc_new rfl
  have hB : Below w.heap.size w (w.alloc (.cells (zeros.map u8).toArray 5)) := (Below.refl _ w).alloc (Nat.le_refl _) _
  generalize hbb : w.heap.size = bb at *
  generalize w.alloc (.cells (zeros.map u8).toArray 5) = w2 at *
  go_wp2_with fail
  go_loopw [6] (fun iv wr => ∃ i : Nat, i ≤ 40 ∧ iv = .int .i64 i ∧ Below bb w wr ∧ wr.heap[bb]? = some (.cells (((pre k i).map Go.Proofs.Ytdgnhimiamchmaa.u8).toArray) 5 (0, 0))) (fun iv _ => 40 - (intOf iv).toNat)
  case atStart => exact ⟨0, Nat.zero_le _, rfl, hB, hb⟩
  case round =>
    clear hB hb
    obtain ⟨i, hi, rfl, hB, hb⟩ := hrel
    by_cases hlt : i < 40
    · have hsz := lt_heap hb
      have c0 : wr.cell? ⟨bb, i, none⟩ = some (.int .u8 ((pre k i)[i]'(by rw [pre_len k i hi]; exact hlt))) := by
        refine cell_heap hb ?_
        rw [List.getElem?_map, List.getElem?_eq_getElem (by rw [pre_len k i hi]; exact hlt)]; rfl
      generalize (pre k i)[i]'(by rw [pre_len k i hi]; exact hlt) = x0 at c0
      have f0 : wr.frozen? ⟨bb, i, none⟩ = false := free_heap hb
      have hsq : (i : Int) * i ≤ 1600 := by
        have : i * i ≤ 40 * 40 := Nat.mul_le_mul (by omega) (by omega)
        have e : ((i * i : Nat) : Int) = (i : Int) * i := by simp
        omega
      have hsq0 : 0 ≤ (i : Int) * i := by
        have e : ((i * i : Nat) : Int) = (i : Int) * i := by simp
        omega
      have hm0 : 0 ≤ datAt k i := Int.emod_nonneg _ (by omega)
      have hm1 : datAt k i < 251 := Int.emod_lt_of_pos _ (by omega)
      have hst := set_heap (o := i) (u := .int .u8 (datAt k i)) hb
      rw [pre_map k i hlt] at hst
      have HST := Lib.hid hst; have HB := Lib.hid hb; clear hst hb
      have HE : Hid (datAt k i = ((i : Int) * i + k * 7 + 1) % 251) := rfl
      go_wp2_with (go_at_call 26; refine (HR.out _ _ ?_ ?_).mono ?_; omega; omega; rintro e w' ⟨rfl, rfl⟩; rw [← HE.out])
      go_roundw
      case rel => exact ⟨i + 1, by omega, by go_num, hB.setCell (by show bb ≤ bb; omega) _, HST.out⟩
      case measure => simp [intOf]; omega
    · have e40 : i = 40 := by omega
      subst e40
      go_wp2
      go_ret
      have hd : pre k 40 = dat k := by unfold pre; rw [List.take_of_length_le (by rw [dat_len]; omega)]; simp
      rw [hd] at hb
      refine ⟨_, _, rfl, by rw [hbb]; exact hB, ?_⟩
      rw [hbb]
      exact ⟨by simp [dat_len], .inr ⟨bb, 40, _, rfl, Nat.le_refl _, hb, Nat.le_refl _, by unfold maxLen; omega, by simp [dat_len], List.take_of_length_le (by simp [dat_len])⟩⟩

theorem data_any (k : Int) (w : World) (h0 : 0 ≤ k) (h1 : k ≤ 10000) :
    Calls Try.prog 32 #[.int .i64 k] w fun e w' => ∃ a c, e = .returned (.slice a 40 c) ∧ Below w.heap.size w w' ∧ w'.ownsRow w.heap.size 5 1 (.slice a 40 c) 40 ((dat k).map u8) := by
  have H := Lib.hid (block40_any k w h0 h1)
  go_enter Try.func32, Try.ntmps32
  go_wp2_with fail
  refine H.out.mono ?_
  rintro e w' ⟨a, c, rfl, hB, hown⟩
  have HO := Lib.hid hown; clear hown
  go_wp2
  go_ret
  exact ⟨a, c, rfl, hB, HO.out⟩
end Go.Proofs.Ytdgnhimiamchmaa
