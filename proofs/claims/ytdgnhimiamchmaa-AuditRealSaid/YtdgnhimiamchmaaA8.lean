import Derived.Test.YtdgnhimiamchmaaCk
import Derived.Test.YtdgnhimiamchmaaAw
namespace Go.Proofs.Ytdgnhimiamchmaa
open Go.RowKit
open BigFrame Lib

theorem two_get (x y : HistV) (j : Nat) : (encH x ++ encH y)[7 + j]? = (encH y)[j]? := by
  rw [List.getElem?_append_right (by rw [encH_len]; omega), encH_len]
  congr 1; omega
/-- two histories, laid by a literal -/
theorem hists_two {w : World} {pb : Nat} {x y : HistV} (hb : w.heap[pb]? = some (.cells (encH x ++ encH y).toArray 53 (0, 0))) (hx : HistOk w x) (hy : HistOk w y) : HistsAt w (some ⟨pb, 0, none⟩) [x, y] := by
  refine ⟨fun i z hi => ?_, fun z hz => ?_⟩
  · match i, hi with
    | 0, hi =>
      cases hi
      refine ⟨pb, 0, rfl, lt_heap hb, CellsH.of_enc fun j u hj => ?_⟩
      refine cell_heap hb ?_
      rw [show 0 + 0 * 7 + j = j by omega, List.getElem?_append_left (List.getElem?_eq_some_iff.1 hj).1, hj]
    | 1, hi =>
      cases hi
      refine ⟨pb, 0, rfl, lt_heap hb, CellsH.of_enc fun j u hj => ?_⟩
      refine cell_heap hb ?_
      rw [show 0 + 1 * 7 + j = 7 + j by omega, two_get, hj]
    | i + 2, hi => simp at hi
  · rcases List.mem_cons.1 hz with rfl | hz
    · exact hx
    · rcases List.mem_cons.1 hz with rfl | hz
      · exact hy
      · simp at hz
theorem reads_nil (w : World) (a : Option Addr) : ReadsAt w a [] := fun i x hi => by simp at hi
theorem puts_nil (w : World) (a : Option Addr) : PutsAt w a [] := fun i x hi => by simp at hi
def histV (st bg tm fr fin : Int) (ra : Option Addr) (rc : Nat) (rl : List ReadV) (pa : Option Addr) (pc : Nat) (pl : List PutV) : HistV := ⟨st, bg, tm, fr, fin, ra, rc, rl, pa, pc, pl⟩
theorem aw_conflict (a : Option Addr) (c : Nat) (pa : Option Addr) : checkL 5 [histV 3 0 1 1 3 none 0 [] pa 1 [put0 1 a c (dat 1)], histV 3 0 2 2 4 none 0 [] pa 1 [put0 1 a c (dat 1)]] = (1, 8) := by
  kernel_rfl
theorem aw_nil : checkL 5 [] = (-1, 0) := by kernel_rfl
theorem dat_b8 : B8 (dat 1) := by unfold B8; decide

set_option maxRecDepth 100000 in
theorem awake28_any (w : World) : Calls Try.prog 24 #[] w fun e w' => e = .returned (.bool true) ∧ Below w.heap.size w w' := by
  have HD := Lib.hid (data_any 1 w (by omega) (by omega))
  go_enter Try.func24, Try.ntmps24
  go_wp2_with fail
  refine HD.out.mono ?_
  rintro e w2 ⟨a, c, rfl, hB2, hown⟩
  have HO := Lib.hid hown; clear hown
  go_wp2_with fail
  have hs2 := hB2.size
  have hal : ∀ (W : World) (u : Obj), Below W.heap.size W (W.alloc u) := fun W u => (Below.refl _ W).alloc (Nat.le_refl _) _
  have hP := puts_one (k := 1) (d := dat 1) (by omega) (by omega) (dat_len 1) (own_cap HO.out) (alloc_new (w := w2) (o := .cells #[.int .i64 1, .slice a 40 c] 39) rfl) ((Rd.of_own HO.out).2.below (hal _ _))
  have hB3 : Below w.heap.size w (w2.alloc (.cells #[.int .i64 1, .slice a 40 c] 39)) := hB2.alloc hs2 _
  generalize hpb : w2.heap.size = pb at *
  have hs3 : (w2.alloc (.cells #[.int .i64 1, .slice a 40 c] 39)).heap.size = pb + 1 := by simp [hpb]
  generalize w2.alloc (.cells #[.int .i64 1, .slice a 40 c] 39) = w3 at *
  have hok : ∀ tm fr fin : Int, Z64 tm → Z64 fr → Z64 fin → HistOk w3 (histV 3 0 tm fr fin none 0 [] (some ⟨pb, 0, none⟩) 1 [put0 1 a c (dat 1)]) := fun tm fr fin z1 z2 z3 =>
    ⟨(⟨by decide, by decide⟩ : Z64 3), (⟨by decide, by decide⟩ : Z64 0), z1, z2, z3, Nat.zero_le _, by show 1 ≤ maxLen; unfold maxLen; omega, reads_nil _ _, hP⟩
  have h2 := hists_two (w := w3.alloc (.cells (encH (histV 3 0 1 1 3 none 0 [] (some ⟨pb, 0, none⟩) 1 [put0 1 a c (dat 1)]) ++ encH (histV 3 0 2 2 4 none 0 [] (some ⟨pb, 0, none⟩) 1 [put0 1 a c (dat 1)])).toArray 53)) (pb := w3.heap.size) (alloc_new rfl)
    ((hok 1 1 3 ⟨by decide, by decide⟩ ⟨by decide, by decide⟩ ⟨by decide, by decide⟩).below (hal _ _)) ((hok 2 2 4 ⟨by decide, by decide⟩ ⟨by decide, by decide⟩ ⟨by decide, by decide⟩).below (hal _ _))
  have hb8 : ∀ tm fr fin : Int, HB8 (histV 3 0 tm fr fin none 0 [] (some ⟨pb, 0, none⟩) 1 [put0 1 a c (dat 1)]) := fun tm fr fin =>
    ⟨fun r hr => by simp [histV] at hr, fun p hp => by simp [histV] at hp; subst hp; exact dat_b8⟩
  have CK := check_any 5 _ 2 _ _ (by simp) h2 (by intro x hx; simp at hx; rcases hx with rfl | rfl <;> simp [histV]) (by intro x hx; simp at hx; rcases hx with rfl | rfl <;> exact hb8 _ _ _)
  rw [aw_conflict] at CK
  rw [hs3] at CK
  have CKH : Hid _ := Lib.hid CK
  have CN := Lib.hid (fun W => aw_nil ▸ check_any 5 none 0 [] W (by simp) ⟨fun i x hi => by simp at hi, fun x hx => by simp at hx⟩ (by simp) (by simp))
  have hBz : Below w.heap.size w (w3.alloc (.cells (encH (histV 3 0 1 1 3 none 0 [] (some ⟨pb, 0, none⟩) 1 [put0 1 a c (dat 1)]) ++ encH (histV 3 0 2 2 4 none 0 [] (some ⟨pb, 0, none⟩) 1 [put0 1 a c (dat 1)])).toArray 53)) := hB3.alloc (by omega) _
  have HBZ := Lib.hid hBz
  clear hP hok h2 hb8 CK hBz hal
  refine CKH.out.mono ?_
  rintro e w4 ⟨rfl, hB4⟩
  have HB4 := Lib.hid (HBZ.out.trans (hB4.mono HBZ.out.size))
  clear hB4 HBZ
  go_wp2_with fail
  refine (CN.out _).mono ?_
  rintro e w5 ⟨rfl, hB5⟩
  go_wp2
  go_ret
  exact ⟨rfl, HB4.out.trans (hB5.mono HB4.out.size)⟩
end Go.Proofs.Ytdgnhimiamchmaa
