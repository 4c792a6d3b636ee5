import Derived.Test.YtdgnhimiamchmaaS2
namespace Go.Proofs.Ytdgnhimiamchmaa
open Go.RowKit
open BigFrame Lib

def put0 (k : Int) (a : Option Addr) (c : Nat) (d : List Int) : PutV := ⟨k, a, c, d⟩
theorem code_one (n k : Int) (a : Option Addr) (c : Nat) (d : List Int) (h0 : 0 ≤ k) (h1 : k < n) (hd : d.length = 40) : code n [put0 k a c d] = 0 := by
  have e1 : anyBad n [put0 k a c d] = false := by simp [anyBad, lbaOk, put0, h0, h1]
  have e2 : argBad [] [put0 k a c d] = false := by simp [argBad, put0, hd]
  unfold code; rw [e1, e2]; rfl
theorem after_one (n k : Int) (a : Option Addr) (c : Nat) (d : List Int) (h0 : 0 ≤ k) (h1 : k < n) (hd : d.length = 40) (D : Int → List Int) : after n [put0 k a c d] D = fun j => if j = k then d else D j := by
  unfold after; rw [code_one n k a c d h0 h1 hd, if_pos rfl]; rfl

/-- one put, laid by a literal -/
theorem puts_one {w : World} {a : Option Addr} {c pb : Nat} {k : Int} {d : List Int} (h0 : -9223372036854775808 ≤ k) (h1 : k ≤ 9223372036854775807) (hd : d.length = 40) (hc : c ≤ maxLen)
    (hb : w.heap[pb]? = some (.cells #[.int .i64 k, .slice a 40 c] 39 (0, 0))) (hR : Rd u8 w a d) : PutsAt w (some ⟨pb, 0, none⟩) [put0 k a c d] := by
  intro i x hi
  cases i with
  | zero =>
    simp at hi; subst hi
    refine ⟨pb, 0, rfl, lt_heap hb, ?_, ?_, h0, h1, by show d.length ≤ _; rw [hd]; unfold maxLen; omega, hc, hR⟩
    · simp [World.cell?, hb, put0]
    · simp [World.cell?, hb, put0, hd]
  | succ i => simp at hi
theorem own_cap {w : World} {B : Nat} {a : Option Addr} {c n : Nat} {xs : List Value} (h : w.ownsRow B 5 1 (.slice a n c) n xs) : c ≤ maxLen := by
  rcases h.2 with ⟨h1, h2⟩ | ⟨g, cap, cur, h1, h2, h3, h4, h5, h6, h7⟩
  · simp at h1; omega
  · simp at h1; omega

set_option maxRecDepth 100000 in
theorem awake_any (w : World) : Calls Try.prog 17 #[] w fun e w' => e = .returned (.bool true) ∧ Below w.heap.size w w' := by
  have HN := Lib.hid (new_good 3 w (by omega) (by omega))
  have HD := Lib.hid (fun W => data_any 1 W (by omega) (by omega))
  go_enter Try.func17, Try.ntmps17
  go_wp2_with fail
  refine HN.out.mono ?_
  rintro e w1 ⟨rfl, hB1, hM1⟩
  have HM1 := Lib.hid hM1; clear hM1
  go_wp2_with fail
  refine (HD.out _).mono ?_
  rintro e w2 ⟨a, c, rfl, hB2, hown⟩
  have HO := Lib.hid hown; clear hown
  go_wp2_with fail
  have hs1 := hB1.size
  have hs2 := hB2.size
  have hR3 : Rd u8 (w2.alloc (.cells #[.int .i64 0, .slice a 40 c] 39)) a (dat 1) := (Rd.of_own HO.out).2.below ((Below.refl _ w2).alloc (Nat.le_refl _) _)
  have hP := puts_one (k := 0) (d := dat 1) (by omega) (by omega) (dat_len 1) (own_cap HO.out) (alloc_new (w := w2) (o := .cells #[.int .i64 0, .slice a 40 c] 39) rfl) hR3
  have hM3 : MAt (w2.alloc (.cells #[.int .i64 0, .slice a 40 c] 39)) (w.heap.size + 1) w.heap.size 3 (fun _ => zeros) := (HM1.out.below hB2).below ((Below.refl _ w2).alloc (Nat.le_refl _) _)
  have hRUN := run_any 0 _ 1 _ _ (by simp) hP hM3
  rw [code_one 3 0 a c (dat 1) (by omega) (by omega) (dat_len 1), after_one 3 0 a c (dat 1) (by omega) (by omega) (dat_len 1)] at hRUN
  have hB3 : Below w.heap.size w (w2.alloc (.cells #[.int .i64 0, .slice a 40 c] 39)) := (hB1.trans (hB2.mono (by omega))).alloc (by omega) _
  have hs3 : (w2.alloc (.cells #[.int .i64 0, .slice a 40 c] 39)).heap.size = w2.heap.size + 1 := by simp
  have hP3 := Lib.hid hP; clear hP hR3 hM3
  generalize w2.alloc (.cells #[.int .i64 0, .slice a 40 c] 39) = w3 at *
  refine hRUN.mono ?_
  rintro e w4 ⟨rfl, hC4, hM4⟩
  clear hRUN
  have hB4 : Below w.heap.size w w4 := below_chg hB3 hC4 (Nat.le_refl _) (fun k hk => by omega)
  have hs4 := hB4.size
  have hs5 := hC4.size
  have G0 := Lib.hid (get_any 0 w4 hM4 (by omega))
  have G3 := Lib.hid (fun W (hW : Below w4.heap.size w4 W) => get_bad 3 W (hM4.below hW) (by omega))
  clear hM4
  go_wp2_with fail
  refine G0.out.mono ?_
  rintro e w5 ⟨a5, c5, rfl, hB5, hown5, hlen5⟩
  simp only [if_true] at hown5
  have HO5 := Lib.hid hown5; clear hown5 hlen5
  go_wp2_with fail
  refine (G3.out _ hB5).mono ?_
  rintro e w6 ⟨rfl, rfl⟩
  go_wp2_with fail
  refine (HD.out _).mono ?_
  rintro e w7 ⟨a7, c7, rfl, hB7, hown7⟩
  have hby := bytes_any a5 a7 c5 c7 (dat 1) (dat 1) w7 (by rw [dat_len]; omega) ((Rd.of_own HO5.out).2.below hB7) (Rd.of_own hown7).2
  rw [dat_len, decide_eq_true rfl] at hby
  have HBY := Lib.hid hby; clear hby hown7
  go_wp2_with fail
  refine HBY.out.mono ?_
  rintro e w8 ⟨rfl, hB8⟩
  go_wp2
  go_ret
  exact ⟨rfl, ((hB4.trans (hB5.mono hs4)).trans (hB7.mono (Nat.le_trans hs4 hB5.size))).trans (hB8.mono (Nat.le_trans (Nat.le_trans hs4 hB5.size) hB7.size))⟩
end Go.Proofs.Ytdgnhimiamchmaa
