import Derived.Test.YtdgnhimiamchmaaR3
namespace Go.Proofs.Ytdgnhimiamchmaa
open Go.RowKit
open BigFrame Lib

/-- bytes -/
def B8 (l : List Int) : Prop := ∀ x ∈ l, 0 ≤ x ∧ x < 256
theorem u8_inj {x y : Int} (hx : 0 ≤ x ∧ x < 256) (hy : 0 ≤ y ∧ y < 256) (h : UInt8.ofNat x.toNat = UInt8.ofNat y.toNat) : x = y := by
  have h2 := congrArg UInt8.toNat h
  simp only [UInt8.toNat_ofNat'] at h2
  omega
theorem nums_inj : ∀ (l1 l2 : List Int), B8 l1 → B8 l2 → l1.map (fun n => UInt8.ofNat n.toNat) = l2.map (fun n => UInt8.ofNat n.toNat) → l1 = l2
  | [], [], _, _, _ => rfl
  | [], y :: l2, _, _, h => by simp at h
  | x :: l1, [], _, _, h => by simp at h
  | x :: l1, y :: l2, h1, h2, h => by
    simp only [List.map_cons, List.cons.injEq] at h
    rw [u8_inj (h1 x (by simp)) (h2 y (by simp)) h.1, nums_inj l1 l2 (fun z hz => h1 z (by simp [hz])) (fun z hz => h2 z (by simp [hz])) h.2]
theorem bytes_toList (s : ByteArray) : s.toList = s.data.toList := by
  have := ByteArray.toList_loop_eq s s.size 0 [] (by omega) (by omega)
  simpa [ByteArray.toList] using this
theorem str_eq (l1 l2 : List Int) (h1 : B8 l1) (h2 : B8 l2) : ((strOfNums l1).toList == (strOfNums l2).toList) = decide (l1 = l2) := by
  rw [bytes_toList, bytes_toList, strOfNums_data, strOfNums_data]
  by_cases h : l1 = l2
  · subst h; simp
  · rw [decide_eq_false h]
    exact beq_eq_false_iff_ne.2 (fun e => h (nums_inj l1 l2 h1 h2 e))

/-- bytes.Equal -/
theorem eq71_any (a1 a2 : Option Addr) (c1 c2 : Nat) (l1 l2 : List Int) (w : World) (h1 : Rd u8 w a1 l1) (h2 : Rd u8 w a2 l2) (n1 : l1.length = 40) (n2 : l2.length = 40) (b1 : B8 l1) (b2 : B8 l2) :
    Calls Try.prog 71 #[.slice a1 40 c1, .slice a2 40 c2] w fun e w' => e = .returned (.bool (decide (l1 = l2))) ∧ w = w' := by
  obtain ⟨b3, o3, rfl, _⟩ := h1.head (by omega)
  obtain ⟨b4, o4, rfl, _⟩ := h2.head (by omega)
  have cv1 : (convert 35 9 (.slice (some ⟨b3, o3, none⟩) 40 c1)).run Try.prog w = .ok (.string (strOfNums l1)) w := conv_any n1 h1
  have cv2 : (convert 35 9 (.slice (some ⟨b4, o4, none⟩) 40 c2)).run Try.prog w = .ok (.string (strOfNums l2)) w := conv_any n2 h2
  have he := str_eq l1 l2 b1 b2
  clear h1 h2 n1 n2 b1 b2
  generalize decide (l1 = l2) = r at *
  generalize strOfNums l1 = s1 at *
  generalize strOfNums l2 = s2 at *
  go_enter Try.func71, Try.ntmps71
  go_wp2
  go_ret
  exact ⟨rfl, rfl⟩
end Go.Proofs.Ytdgnhimiamchmaa
