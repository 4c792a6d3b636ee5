import Derived.Test.YtglkbkocdeimiaaE5
namespace Go.Proofs.Ytglkbkocdeimiaa
open Go.RowKit
open BigFrame Lib

def put0 (k : Int) (a : Option Addr) (c : Nat) (d : List Int) : PutV := ⟨k, a, c, d⟩
theorem own_cap {w : World} {B : Nat} {a : Option Addr} {c n : Nat} {xs : List Value} (h : w.ownsRow B 5 1 (.slice a n c) n xs) : c ≤ maxLen := by
  rcases h.2 with ⟨h1, h2⟩ | ⟨g, cap, cur, h1, h2, h3, h4, h5, h6, h7⟩
  · simp at h1; omega
  · simp at h1; omega
/-- one put, laid by a literal: it stays while rows of versions turn -/
theorem puts_one {w : World} {a : Option Addr} {B c pb r : Nat} {k : Int} {d : List Int} {m : IM} (h0 : -9223372036854775808 ≤ k) (h1 : k ≤ 9223372036854775807) (hd : d.length = 40)
    (hb : w.heap[pb]? = some (.cells #[.int .i64 k, .slice a 40 c] 38 (0, 0))) (hown : w.ownsRow B 5 1 (.slice a 40 c) 40 (d.map u8)) (hm : MapIs w r m) : ∀ W, Chg (S70 r w) w W → PutsAt W (some ⟨pb, 0, none⟩) [put0 k a c d] := by
  intro W hC
  have hpb : ¬ S70 r w pb := by
    rintro (e | ⟨cur, hc⟩)
    · obtain ⟨es, cl, hb9, _⟩ := hm
      rw [← e, hb] at hb9; cases hb9
    · rw [hb] at hc; cases hc
  have hbW := (hC.block pb (lt_heap hb) hpb).trans hb
  have hoW := own_chg hown hC (fun b hb s => by
    rcases s with e | ⟨cur, hc⟩
    · exact own_no hown (noRow_map hm) (e ▸ hb)
    · exact own_no hown (noRow_type hc (by decide)) hb)
  intro i x hi
  cases i with
  | zero =>
    simp at hi; subst hi
    refine ⟨pb, 0, rfl, lt_heap hbW, ?_, ?_, h0, h1, by show d.length ≤ _; rw [hd]; unfold maxLen; omega, own_cap hown, (Rd.of_own hoW).2⟩
    · simp [World.cell?, hbW, put0]
    · simp [World.cell?, hbW, put0, hd]
  | succ i => simp at hi

theorem acode_one (n last t k : Int) (a : Option Addr) (c : Nat) (d : List Int) (ht : last < t) (ht2 : t ≤ 1099511627776) (h0 : 0 ≤ k) (h1 : k < n) (hd : d.length = 40) : acode n last t [put0 k a c d] = 0 := by
  refine acode_ok (by omega) ⟨by simp, fun j x y hx hy => by simp at hy⟩ ?_ (by simp [lenBad, put0, hd])
  rintro (h | h)
  · exact h (fun x hx => by simp at hx; subst hx; exact ⟨h0, h1⟩)
  · exact h (fun x hx => by simp at hx; subst hx; exact ⟨h0, h1⟩)

set_option maxRecDepth 100000 in
theorem awake_any (w : World) : Calls Try.prog 9 #[] w fun e w' => e = .returned (.bool true) ∧ Below w.heap.size w w' := by
  have HN := Lib.hid (xnew_good w.heap.size 3 w (by omega) (by omega) (Nat.le_refl _))
  have HD := Lib.hid (fun W => data_any 1 W (by omega) (by omega))
  go_enter Try.func9, Try.ntmps9
  go_wp2_with fail
  refine HN.out.mono ?_
  rintro e w1 ⟨rfl, hB1, hM1⟩
  have HM1 := Lib.hid hM1; clear hM1
  go_wp2_with fail
  refine (HD.out _).mono ?_
  rintro e w2 ⟨a, c, rfl, hB2, hown⟩
  have HO := Lib.hid hown; clear hown
  go_wp2_with fail
  have hs1 := hB1.size
  have hs2 := hB2.size
  have hM3 : ExAt w.heap.size (w2.alloc (.cells #[.int .i64 0, .slice a 40 c] 38)) (w.heap.size + 1) w.heap.size 3 0 (fun _ => []) := (HM1.out.below hB2).below ((Below.refl _ w2).alloc (Nat.le_refl _) _)
  obtain ⟨mm, EE, hmm, _⟩ := hM3.ex
  have hP := puts_one (k := 0) (d := dat 1) (by omega) (by omega) (dat_len 1) (alloc_new (w := w2) (o := .cells #[.int .i64 0, .slice a 40 c] 38) rfl) (own_below HO.out ((Below.refl _ w2).alloc (Nat.le_refl _) _)) hmm.map
  have hB3 : Below w.heap.size w (w2.alloc (.cells #[.int .i64 0, .slice a 40 c] 38)) := (hB1.trans (hB2.mono (by omega))).alloc (by omega) _
  have hRUN := apply_any 1 _ 1 _ _ (by simp) (by omega) (by omega) (fun W hW _ => hP W hW) hM3 hB3.size
  rw [acode_one 3 0 1 0 a c (dat 1) (by omega) (by omega) (by omega) (by omega) (dat_len 1)] at hRUN
  have HP := Lib.hid hP; clear hP hM3
  have HMM := Lib.hid hmm; clear hmm
  generalize w2.alloc (.cells #[.int .i64 0, .slice a 40 c] 38) = w3 at *
  refine hRUN.mono ?_
  rintro e w4 ⟨rfl, hC4, hB4', hM4⟩
  clear hRUN
  rw [if_pos rfl, if_pos rfl] at hM4
  have hB4 : Below w.heap.size w w4 := hB3.trans hB4'
  have hs4 := hB4.size
  have e0 : rdAt (addA 1 (fun _ => []) [put0 0 a c (dat 1)] 0) 0 = (0, zeros) := by simp [addA, add1, put0, rdAt]
  have e9 : rdAt (addA 1 (fun _ => []) [put0 0 a c (dat 1)] 0) 9 = (1, dat 1) := by simp [addA, add1, put0, rdAt]
  have G0' := xget_any 0 0 w4 hM4 (by omega)
  rw [e0] at G0'
  have G0 := Lib.hid G0'
  have G9 := Lib.hid (fun W (hW : Below w4.heap.size w4 W) => xget_any 0 9 W (hM4.below hW) (by omega))
  rw [e9] at G9
  clear hM4 G0' e0 e9 hC4
  go_wp2_with fail
  refine G0.out.mono ?_
  rintro e w5 ⟨a5, c5, rfl, hB5, hown5, hlen5⟩
  have HO5 := Lib.hid hown5; clear hown5 hlen5
  go_wp2_with fail
  refine (G9.out _ hB5).mono ?_
  rintro e w6 ⟨a6, c6, rfl, hB6, hown6, hlen6⟩
  have HO6 := Lib.hid hown6; clear hown6 hlen6
  have hR5 := (Rd.of_own HO5.out).2.below hB6
  obtain ⟨b5, o5, e5, l5, z5⟩ := hR5 0 0 rfl
  subst e5
  rw [Nat.add_zero] at z5
  have z5' : w6.cell? ⟨b5, o5, none⟩ = some (.int .u8 0) := z5
  clear hR5 z5
  go_wp2_with fail
  refine (HD.out _).mono ?_
  rintro e w7 ⟨a7, c7, rfl, hB7, hown7⟩
  have hby := bytes_any a6 a7 c6 c7 (dat 1) (dat 1) w7 (by rw [dat_len]; omega) ((Rd.of_own HO6.out).2.below hB7) (Rd.of_own hown7).2
  rw [dat_len, decide_eq_true rfl] at hby
  have HBY := Lib.hid hby; clear hby hown7
  go_wp2_with fail
  refine HBY.out.mono ?_
  rintro e w8 ⟨rfl, hB8⟩
  go_wp2
  go_ret
  have hB46 := hB5.trans (hB6.mono hB5.size)
  have hB47 := hB46.trans (hB7.mono hB46.size)
  have hB48 := hB47.trans (hB8.mono hB47.size)
  exact ⟨rfl, hB4.trans (hB48.mono hs4)⟩
end Go.Proofs.Ytglkbkocdeimiaa
