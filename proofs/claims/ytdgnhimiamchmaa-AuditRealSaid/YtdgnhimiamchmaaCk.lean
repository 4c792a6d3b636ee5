import Derived.Deep.DeepCutAuto
import Derived.Test.YtdgnhimiamchmaaOn
namespace Go.Proofs.Ytdgnhimiamchmaa
open Go.RowKit
open BigFrame Lib

def badH (n : Int) (l : List HistV) : Int := fidx (fun h => !mayH n h) l 0
def scanL (n : Int) (l : List HistV) : Option Nat := (List.range l.length).find? fun i => oneH n l (ordL l) i != 0
def scanV (n : Int) (l : List HistV) : Option Nat → Int × Int
  | some i => ((i : Int), oneH n l (ordL l) i)
  | none => (-1, 0)
/-- what Check answers -/
def checkL (n : Int) (l : List HistV) : Int × Int :=
  if n < 1 ∨ 1048576 < n then (-1, 1)
  else if 0 ≤ badH n l then (badH n l, 1)
  else scanV n l (scanL n l)

theorem chk56_any (n : Int) (h : HistV) (bx : Nat) (w : World) (hb : w.cell? ⟨bx, 0, none⟩ = some (.int .i64 n)) (hk : HistOk w h) :
    Calls Try.prog 56 (#[aggH h] ++ #[.pointer (some ⟨bx, 0, none⟩)]) w fun e w' => e = .returned (.bool (!mayH n h)) ∧ Below w.heap.size w w' := by
  show Calls Try.prog 56 #[aggH h, .pointer (some ⟨bx, 0, none⟩)] w _
  have HM := Lib.hid (fun W (hW : Below w.heap.size w W) => may_any n h W (hk.below hW))
  have hlt := World.block_lt_of_cell? w _ hb
  have HB := Lib.hid (fun W (hW : Below w.heap.size w W) => (hW.cell (p := ⟨bx, 0, none⟩) hlt).trans hb)
  have hal : ∀ (u : Obj), Below w.heap.size w (w.alloc u) := fun u => (Below.refl _ w).alloc (Nat.le_refl _) _
  have HAL := Lib.hid hal
  clear hk hal
  unfold aggH at *
  generalize h.pl.length = pn at *
  generalize h.rl.length = rn at *
  go_enter Try.func56, Try.ntmps56
  go_wp2_with fail
  refine (HM.out _ (HAL.out _)).mono ?_
  rintro e w2 ⟨rfl, hB2⟩
  go_wp2
  go_ret
  exact ⟨rfl, (HAL.out _).trans (hB2.mono (HAL.out _).size)⟩

theorem ordL_len (l : List HistV) : (ordL l).length ≤ l.length := by
  unfold ordL wroteI
  rw [(stab_perm _ _).length_eq]
  exact Nat.le_trans (List.length_filter_le _ _) (by simp)
theorem find_none {f : Nat → Bool} {m : Nat} (h : ∀ i, i < m → f i = false) : (List.range m).find? f = none := by
  rw [List.find?_eq_none]
  intro x hx
  rw [h x (List.mem_range.1 hx)]
  simp
theorem find_some {f : Nat → Bool} {m i : Nat} (hi : i < m) (h : ∀ j, j < i → f j = false) (ht : f i = true) : (List.range m).find? f = some i := by
  rw [List.find?_eq_some_iff_getElem]
  refine ⟨ht, i, by simpa using hi, by simp, fun j hj => ?_⟩
  simp only [List.getElem_range]
  rw [h j hj]
  rfl

set_option maxRecDepth 100000 in
set_option maxHeartbeats 8000000 in
theorem check_any (n : Int) (a : Option Addr) (c : Nat) (l : List HistV) (w : World) (hl : l.length ≤ 100000) (hA : HistsAt w a l) (hpl : ∀ x ∈ l, x.pl.length ≤ 1000000) (hb : ∀ x ∈ l, HB8 x) :
    Calls Try.prog 33 #[.int .i64 n, .slice a l.length c] w fun e w' => e = .returned (.tuple #[.int .i64 (checkL n l).1, .int .i64 (checkL n l).2]) ∧ Below w.heap.size w w' := by
  have HA := Lib.hid hA
  by_cases hn1 : n < 1
  · have HV : Hid (checkL n l = (-1, 1)) := by show _ = _; unfold checkL; rw [if_pos (.inl hn1)]
    have t1 : decide (n < 1) = true := decide_eq_true hn1
    clear hA hpl hb
    go_enter Try.func33, Try.ntmps33
    go_wp2
    go_ret2
    exact ⟨by rw [HV.out]; rfl, (Below.refl _ w).alloc (Nat.le_refl _) _⟩
  have t1 : decide (n < 1) = false := decide_eq_false hn1
  by_cases hn2 : 1048576 < n
  · have HV : Hid (checkL n l = (-1, 1)) := by show _ = _; unfold checkL; rw [if_pos (.inr hn2)]
    have t2 : decide (1048576 < n) = true := decide_eq_true hn2
    clear hA hpl hb
    go_enter Try.func33, Try.ntmps33
    go_wp2
    go_ret2
    exact ⟨by rw [HV.out]; rfl, (Below.refl _ w).alloc (Nat.le_refl _) _⟩
  have t2 : decide (1048576 < n) = false := decide_eq_false hn2
  have HC0 : Hid (checkL n l = if 0 ≤ badH n l then (badH n l, 1) else scanV n l (scanL n l)) := by show _ = _; unfold checkL; rw [if_neg (by omega)]
  have HN1 : 1 ≤ n := by omega
  have HN2 : n ≤ 1048576 := by omega
  have HX := Lib.hid (fun (bx : Nat) (W : World) (hW : Below w.heap.size w W) (hbx : W.cell? ⟨bx, 0, none⟩ = some (.int .i64 n)) => idxH_gen 56 #[.pointer (some ⟨bx, 0, none⟩)] (fun h => !mayH n h) a c l W (by omega) (hA.1.below hW) (enters_of Try.func56 (by kernel_rfl) rfl)
    (fun W' hW' p hp => chk56_any n p bx W' ((hW'.cell (p := ⟨bx, 0, none⟩) (World.block_lt_of_cell? W _ hbx)).trans hbx) ((hA.2 p hp).below (hW.trans (hW'.mono hW.size)))))
  have HO := Lib.hid (fun W (hW : Below w.heap.size w W) => order_any a c l W hl (hA.1.below hW))
  have HFA := Lib.hid (fidx_any (fun h => !mayH n h) l 0)
  have HMAY : Hid (¬ 0 ≤ badH n l → ∀ x ∈ l, mayH n x = true) := fun h x hx => by
    have := HFA.out.1
    have h2 : decide (0 ≤ fidx (fun h => !mayH n h) l 0) = false := decide_eq_false h
    rw [h2] at this
    have := List.any_eq_false.1 this.symm x hx
    simpa using this
  have HONE := Lib.hid (fun (hm : ∀ x ∈ l, mayH n x = true) (oa : Option Addr) (oc : Nat) (W : World) (hW : Below w.heap.size w W) (hO : Rd i64n W oa (ordL l)) (i : Nat) (hi : i < l.length) =>
    one_any n a c l oa oc (ordL l) i W HN1 HN2 (Nat.le_trans (ordL_len l) hl) hl hi (hA.below hW) hO (ordL_lt l) hpl hm hb)
  clear hA hpl hb
  change Hid (∀ (bx : Nat) (W : World) (hW : Below w.heap.size w W) (hbx : W.cell? ⟨bx, 0, none⟩ = some (.int .i64 n)), Calls Try.prog 55 #[.slice a l.length c, .func (.func 56) #[] #[.pointer (some ⟨bx, 0, none⟩)]] W fun e w' => e = .returned (.int .i64 (badH n l)) ∧ Below W.heap.size W w') at HX
  have hbd : -1 ≤ badH n l ∧ badH n l ≤ 100000 := by
    have h1 := HFA.out.2.1
    have h2 := HFA.out.2.2
    unfold badH
    omega
  have HSC : Hid (scanL n l = (List.range l.length).find? fun i => oneH n l (ordL l) i != 0) := rfl
  generalize badH n l = bd at *
  generalize scanL n l = sc at *
  generalize hq : l.length = m at *
  have HM := Lib.hid hq; clear hq HFA
  go_enter Try.func33, Try.ntmps33
  have hB1 : Below w.heap.size w (w.alloc (.cells #[.int .i64 n] 3)) := (Below.refl _ w).alloc (Nat.le_refl _) _
  have hbx1 : (w.alloc (.cells #[.int .i64 n] 3)).cell? ⟨w.heap.size, 0, none⟩ = some (.int .i64 n) := cell_heap (c := [.int .i64 n]) (alloc_new rfl) rfl
  have HB1 := Lib.hid hB1
  go_wp2_with fail
  refine (HX.out _ _ HB1.out hbx1).mono ?_
  rintro e w2 ⟨rfl, hB2⟩
  have HB2 : Hid (Below w.heap.size w w2) := HB1.out.trans (hB2.mono HB1.out.size)
  have hlt0 : w.heap.size < (w.alloc (.cells #[.int .i64 n] 3)).heap.size := by simp
  have hbx2 := (hB2.cell (p := ⟨w.heap.size, 0, none⟩) hlt0).trans hbx1
  clear hB2 hbx1 hB1 HX HB1 hlt0
  by_cases hbd0 : 0 ≤ bd
  · have HV : Hid (checkL n l = (bd, 1)) := by show _ = _; rw [HC0.out, if_pos hbd0]
    go_wp2
    go_ret2
    exact ⟨by rw [HV.out]; rfl, HB2.out⟩
  · have HC1 : Hid (checkL n l = scanV n l sc) := by show _ = _; rw [HC0.out, if_neg hbd0]
    have HON := Lib.hid (HONE.out (HMAY.out (by omega)))
    have HO2 := Lib.hid (HO.out w2 HB2.out)
    clear HONE HO HMAY HC0
    go_wp2_with fail
    refine HO2.out.mono ?_
    rintro e w3 ⟨oa, oc, rfl, hB3, hR3⟩
    have hlt2 := World.block_lt_of_cell? w2 _ hbx2
    have hbx3 := (hB3.cell (p := ⟨w.heap.size, 0, none⟩) hlt2).trans hbx2
    have HB3 : Hid (Below w.heap.size w w3) := HB2.out.trans (hB3.mono HB2.out.size)
    have HR3 := Lib.hid hR3
    have hlt3 := World.block_lt_of_cell? w3 _ hbx3
    clear hB3 hR3 hbx2 hlt2 HO2
    generalize (ordL l).length = on at *
    generalize hbq : w.heap.size = bx at *
    have HBQ := Lib.hid hbq; clear hbq
    go_wp2_with fail
    go_loopw [26] (fun iv wr => ∃ i : Nat, i ≤ m ∧ iv = .int .i64 i ∧ Below w3.heap.size w3 wr ∧ Aside (∀ j, j < i → (oneH n l (ordL l) j != 0) = false)) (fun iv _ => m - (intOf iv).toNat)
    case atStart => exact ⟨0, Nat.zero_le _, rfl, Below.refl _ _, fun j hj => absurd hj (Nat.not_lt_zero j)⟩
    case round =>
      obtain ⟨i, hi, rfl, hB, HT⟩ := hrel
      have hsz := hB.size
      have HBW : Hid (Below bx w wr) := HB3.out.trans (hB.mono (by omega))
      by_cases hlt : i < m
      · have HC := Lib.hid (HON.out oa oc wr HBW.out (HR3.out.below hB) i hlt)
        have hbr := (hB.cell (p := ⟨bx, 0, none⟩) hlt3).trans hbx3
        obtain ⟨ov, hov⟩ : ∃ ov, oneH n l (ordL l) i = ov := ⟨_, rfl⟩
        rw [hov] at HC
        have HOV := Lib.hid hov
        clear hov
        by_cases h0 : ov = 0
        · subst h0
          go_wp2_with fail
          refine HC.out.mono ?_
          rintro e w4 ⟨rfl, hB4⟩
          go_wp2
          go_roundw
          case rel =>
            refine ⟨i + 1, by omega, by go_num, hB.trans (hB4.mono hsz), fun j hj => ?_⟩
            rcases Nat.lt_or_ge j i with h | h
            · exact HT.out j h
            · obtain rfl : j = i := by omega
              rw [HOV.out]; rfl
          case measure => simp [intOf]; omega
        · have t3 : (ov != 0) = true := by simpa using h0
          have HV : Hid (checkL n l = ((i : Int), ov)) := by
            show _ = _
            rw [HC1.out, HSC.out, find_some hlt HT.out (by rw [HOV.out]; exact t3)]
            show ((i : Int), oneH n l (ordL l) i) = _
            rw [HOV.out]
          clear h0
          go_wp2_with fail
          refine HC.out.mono ?_
          rintro e w4 ⟨rfl, hB4⟩
          go_wp2
          go_ret2
          refine ⟨by rw [HV.out]; rfl, ?_⟩
          rw [HBQ.out]
          exact HBW.out.trans (hB4.mono (by omega))
      · have HV : Hid (checkL n l = (-1, 0)) := by
          show _ = _
          rw [HC1.out, HSC.out, find_none (fun j hj => HT.out j (by omega))]; rfl
        go_wp2
        go_ret2
        refine ⟨by rw [HV.out]; rfl, ?_⟩
        rw [HBQ.out]
        exact HBW.out
end Go.Proofs.Ytdgnhimiamchmaa
