import Derived.Test.YtpohncdabngifaaRef3
import Derived.Deep.RegionWith
import Derived.Deep.CutBlock
import Derived.Deep.DeepCutAuto
import Derived.Deep.LoopGhost
namespace Go.Proofs.Ytpohncdabngifaa
open Go.RowKit
open BigFrame

/-- both allocators, and the step that was read -/
structure PlayS (w0 w : World) (g b g2 b1 b2 B sb n i : Nat) (sp : Int) (za zr : List Z) (x y : Int) : Prop where
  below : Below w0.heap.size w0 w
  alloc : AllocAt w g b za sp
  ref : RefAt w g2 b1 b2 zr sp
  step : w.heap[sb]? = some (.cells (#[.int .i64 x, .int .i64 y] : Array Value) 30 (0, 0))
  o1 : w0.heap.size ≤ b
  o2 : g < B
  o3 : b < B
  o4 : B ≤ g2
  o5 : B ≤ b1
  o6 : B ≤ b2
  s1 : b < sb
  s2 : b1 < sb
  s3 : b2 < sb
  la : za.length = n
  lr : zr.length = n
  w0' : ∀ k, 0 ≤ wear za k
  w1' : ∀ k, wear za k ≤ i
  w2' : ∀ k, 0 ≤ wear zr k
  w3' : ∀ k, wear zr k ≤ i
section
variable {w0 w w1 : World} {g b g2 b1 b2 B sb n i : Nat} {sp : Int} {za zr : List Z} {x y : Int}
theorem PlayS.later (h : PlayS w0 w g b g2 b1 b2 B sb n i sp za zr x y) (hB : Below w.heap.size w w1) : PlayS w0 w1 g b g2 b1 b2 B sb n i sp za zr x y :=
  { h with below := below_below h.below hB (Nat.le_refl _), alloc := h.alloc.below' hB, ref := h.ref.below hB, step := (hB.block sb (lt_heap h.step)).trans h.step }
theorem PlayS.same (h : PlayS w0 w g b g2 b1 b2 B sb n i sp za zr x y) (hA : AllocAt w1 g b za sp) (hC : Chg (· = b) w w1) : PlayS w0 w1 g b g2 b1 b2 B sb n i sp za zr x y := by
  have q1 := h.o3; have q2 := h.o4; have q3 := h.o5; have q4 := h.o6; have q5 := h.s1
  exact { h with below := below_chg h.below hC (Nat.le_refl _) (by rintro k rfl; exact h.o1), alloc := hA, ref := h.ref.of_eq (hC.block g2 (lt_heap h.ref.hg) (by show ¬ g2 = b; omega)) (hC.block b1 (lt_heap h.ref.h1) (by show ¬ b1 = b; omega)) (hC.block b2 (lt_heap h.ref.h2) (by show ¬ b2 = b; omega)), step := (hC.block sb (lt_heap h.step) (by show ¬ sb = b; omega)).trans h.step }
theorem PlayS.setA (h : PlayS w0 w g b g2 b1 b2 B sb n i sp za zr x y) (k : Nat) (hk : k < n) (t : Bool) (v : Int) (hv0 : 0 ≤ v) (hv1 : v ≤ i + 1) (hA : AllocAt w1 g b (za.set k (t, v)) sp) (hC : Chg (· = b) w w1) : PlayS w0 w1 g b g2 b1 b2 B sb n (i + 1) sp (za.set k (t, v)) zr x y := by
  have q1 := h.o3; have q2 := h.o4; have q3 := h.o5; have q4 := h.o6; have q5 := h.s1
  refine { h with below := below_chg h.below hC (Nat.le_refl _) (by rintro k rfl; exact h.o1), alloc := hA, ref := h.ref.of_eq (hC.block g2 (lt_heap h.ref.hg) (by show ¬ g2 = b; omega)) (hC.block b1 (lt_heap h.ref.h1) (by show ¬ b1 = b; omega)) (hC.block b2 (lt_heap h.ref.h2) (by show ¬ b2 = b; omega)), step := (hC.block sb (lt_heap h.step) (by show ¬ sb = b; omega)).trans h.step, la := by simpa using h.la, w0' := ?_, w1' := ?_, w3' := fun j => by have := h.w3' j; omega }
  · intro j
    by_cases e : k = j
    · subst e; rw [wear_self _ _ _ (by rw [h.la]; exact hk)]; exact hv0
    · rw [wear_other _ _ _ _ e]; exact h.w0' j
  · intro j
    by_cases e : k = j
    · subst e; rw [wear_self _ _ _ (by rw [h.la]; exact hk)]; simpa using hv1
    · rw [wear_other _ _ _ _ e]; have := h.w1' j; omega
theorem PlayS.sameR (h : PlayS w0 w g b g2 b1 b2 B sb n i sp za zr x y) (hA : RefAt w1 g2 b1 b2 zr sp) (hC : Chg (fun k => k = b1 ∨ k = b2) w w1) : PlayS w0 w1 g b g2 b1 b2 B sb n i sp za zr x y := by
  have q0 := h.o2; have q1 := h.o3; have q2 := h.o4; have q3 := h.o5; have q4 := h.o6; have q5 := h.s2; have q6 := h.s3; have q7 := h.o1
  exact { h with below := below_chg h.below hC (Nat.le_refl _) (by rintro k (rfl | rfl) <;> omega), ref := hA, alloc := h.alloc.of_eq (hC.block g (lt_heap h.alloc.hg) (by show ¬ (g = b1 ∨ g = b2); omega)) (hC.block b (lt_heap h.alloc.hb) (by show ¬ (b = b1 ∨ b = b2); omega)), step := (hC.block sb (lt_heap h.step) (by show ¬ (sb = b1 ∨ sb = b2); omega)).trans h.step }
theorem PlayS.setR (h : PlayS w0 w g b g2 b1 b2 B sb n i sp za zr x y) (k : Nat) (hk : k < n) (t : Bool) (v : Int) (hv0 : 0 ≤ v) (hv1 : v ≤ i + 1) (hA : RefAt w1 g2 b1 b2 (zr.set k (t, v)) sp) (hC : Chg (fun k => k = b1 ∨ k = b2) w w1) : PlayS w0 w1 g b g2 b1 b2 B sb n (i + 1) sp za (zr.set k (t, v)) x y := by
  have q0 := h.o2; have q1 := h.o3; have q2 := h.o4; have q3 := h.o5; have q4 := h.o6; have q5 := h.s2; have q6 := h.s3; have q7 := h.o1
  refine { h with below := below_chg h.below hC (Nat.le_refl _) (by rintro k (rfl | rfl) <;> omega), ref := hA, alloc := h.alloc.of_eq (hC.block g (lt_heap h.alloc.hg) (by show ¬ (g = b1 ∨ g = b2); omega)) (hC.block b (lt_heap h.alloc.hb) (by show ¬ (b = b1 ∨ b = b2); omega)), step := (hC.block sb (lt_heap h.step) (by show ¬ (sb = b1 ∨ sb = b2); omega)).trans h.step, lr := by simpa using h.lr, w1' := fun j => by have := h.w1' j; omega, w2' := ?_, w3' := ?_ }
  · intro j
    by_cases e : k = j
    · subst e; rw [wear_self _ _ _ (by rw [h.lr]; exact hk)]; exact hv0
    · rw [wear_other _ _ _ _ e]; exact h.w2' j
  · intro j
    by_cases e : k = j
    · subst e; rw [wear_self _ _ _ (by rw [h.lr]; exact hk)]; simpa using hv1
    · rw [wear_other _ _ _ _ e]; have := h.w3' j; omega
theorem PlayS.setA' (h : PlayS w0 w g b g2 b1 b2 B sb n (i + 1) sp za zr x y) (k : Nat) (hk : k < n) (t : Bool) (v : Int) (hv0 : 0 ≤ v) (hv1 : v ≤ i + 1) (hA : AllocAt w1 g b (za.set k (t, v)) sp) (hC : Chg (· = b) w w1) : PlayS w0 w1 g b g2 b1 b2 B sb n (i + 1) sp (za.set k (t, v)) zr x y := by
  have h2 := h.setA k hk t v hv0 (by omega) hA hC
  refine { h2 with w1' := ?_, w3' := h.w3' }
  intro j
  by_cases e : k = j
  · subst e; rw [wear_self _ _ _ (by rw [h.la]; exact hk)]; simpa using hv1
  · rw [wear_other _ _ _ _ e]; exact h.w1' j
theorem PlayS.setR' (h : PlayS w0 w g b g2 b1 b2 B sb n (i + 1) sp za zr x y) (k : Nat) (hk : k < n) (t : Bool) (v : Int) (hv0 : 0 ≤ v) (hv1 : v ≤ i + 1) (hA : RefAt w1 g2 b1 b2 (zr.set k (t, v)) sp) (hC : Chg (fun k => k = b1 ∨ k = b2) w w1) : PlayS w0 w1 g b g2 b1 b2 B sb n (i + 1) sp za (zr.set k (t, v)) x y := by
  have h2 := h.setR k hk t v hv0 (by omega) hA hC
  refine { h2 with w1' := h.w1', w3' := ?_ }
  intro j
  by_cases e : k = j
  · subst e; rw [wear_self _ _ _ (by rw [h.lr]; exact hk)]; simpa using hv1
  · rw [wear_other _ _ _ _ e]; exact h.w3' j
theorem PlayS.up (h : PlayS w0 w g b g2 b1 b2 B sb n i sp za zr x y) : PlayS w0 w g b g2 b1 b2 B sb n (i + 1) sp za zr x y :=
  { h with w1' := fun j => by have := h.w1' j; omega, w3' := fun j => by have := h.w3' j; omega }
theorem PlayS.c0 (h : PlayS w0 w g b g2 b1 b2 B sb n i sp za zr x y) : w.cell? ⟨sb, 0, none⟩ = some (.int .i64 x) := cell_heap h.step rfl
theorem PlayS.c1 (h : PlayS w0 w g b g2 b1 b2 B sb n i sp za zr x y) : w.cell? ⟨sb, 1, none⟩ = some (.int .i64 y) := cell_heap h.step rfl
end

/-- what holds at the loop's head -/
structure PlayAt (w0 w : World) (g b g2 b1 b2 B n i : Nat) (sp : Int) (zs : List Z) : Prop where
  below : Below w0.heap.size w0 w
  alloc : AllocAt w g b zs sp
  ref : RefAt w g2 b1 b2 zs sp
  o1 : w0.heap.size ≤ b
  o2 : g < B
  o3 : b < B
  o4 : B ≤ g2
  o5 : B ≤ b1
  o6 : B ≤ b2
  la : zs.length = n
  w0' : ∀ k, 0 ≤ wear zs k
  w1' : ∀ k, wear zs k ≤ i
theorem PlayAt.start {w0 w : World} {g b g2 b1 b2 B n i : Nat} {sp : Int} {zs : List Z} (h : PlayAt w0 w g b g2 b1 b2 B n i sp zs) (x y : Int) : PlayS w0 (w.alloc (.cells (#[.int .i64 x, .int .i64 y] : Array Value) 30)) g b g2 b1 b2 B w.heap.size n i sp zs zs x y := by
  have hB : Below w.heap.size w (w.alloc (.cells (#[.int .i64 x, .int .i64 y] : Array Value) 30)) := (Below.refl _ _).alloc (Nat.le_refl _) _
  exact ⟨below_below h.below hB (Nat.le_refl _), h.alloc.below' hB, h.ref.below hB, alloc_new rfl, h.o1, h.o2, h.o3, h.o4, h.o5, h.o6, lt_heap h.alloc.hb, lt_heap h.ref.h1, lt_heap h.ref.h2, h.la, h.la, h.w0', h.w1', h.w0', h.w1'⟩
theorem PlayS.fin {w0 w : World} {g b g2 b1 b2 B sb n i : Nat} {sp : Int} {zs : List Z} {x y : Int} (h : PlayS w0 w g b g2 b1 b2 B sb n i sp zs zs x y) : PlayAt w0 w g b g2 b1 b2 B n i sp zs :=
  ⟨h.below, h.alloc, h.ref, h.o1, h.o2, h.o3, h.o4, h.o5, h.o6, h.la, h.w0', h.w1'⟩

def Okk (c : Nat) (s : Int) (r : Bool) : Prop := r = true ∨ s < (c : Int)
/-- the wear that the statement asks for -/
def wv (zs : List Z) (n : Nat) (y : Int) : Int := if 0 ≤ y ∧ y < (n : Int) then wear zs y.toNat else 0
theorem wv_in (zs : List Z) (n k : Nat) (h : k < n) : wv zs n (k : Int) = wear zs k := by
  unfold wv; rw [if_pos (by omega)]; rfl
theorem wv_out (zs : List Z) (n : Nat) (y : Int) (h : y < 0 ∨ (n : Int) ≤ y) : wv zs n y = 0 := by
  unfold wv; rw [if_neg (by omega)]

set_option maxHeartbeats 8000000 in
set_option maxRecDepth 100000 in
theorem plays_any (z s : Int) (la : Option Addr) (lc : Nat) (l : List (Int × Int)) (w : World) (hs1 : -9223372036854775808 ≤ s) (hs2 : s ≤ 9223372036854775807) (hl : StepsAt w la l) :
    Calls Try.prog 5 #[.int .i64 z, .int .i64 s, .slice la l.length lc] w fun e w' => e = .returned (.bool true) ∧ Below w.heap.size w w' := by
  by_cases hlong : 500 < l.length
  · clear hl
    go_enter Try.func5, Try.ntmps5
    go_wp2_with fail
    refine (awake_any _).mono ?_
    rintro e w3 ⟨rfl, hB3⟩
    go_wp2
    go_ret
    exact ⟨rfl, hB3⟩
  by_cases hbad : z < 1 ∨ 64 < z ∨ s < 0 ∨ z < s
  · have hN := Lib.hid (fun W => new_bad z s W hbad)
    have hR := Lib.hid (fun W => newr_bad z s W hbad)
    clear hbad hl
    go_enter Try.func5, Try.ntmps5
    go_wp2_with fail
    refine (hN.out _).mono ?_
    rintro e w1 ⟨rfl, rfl⟩
    go_wp2_with fail
    refine (hR.out _).mono ?_
    rintro e w1 ⟨rfl, rfl⟩
    go_wp2_with fail
    refine (awake_any _).mono ?_
    rintro e w3 ⟨rfl, hB3⟩
    go_wp2
    go_ret
    exact ⟨rfl, hB3⟩
  · obtain ⟨n, rfl⟩ := Int.eq_ofNat_of_zero_le (show 0 ≤ z by omega)
    have h1 : (1 : Int) ≤ n := by omega
    have h2 : (n : Int) ≤ 64 := by omega
    have h3 : 0 ≤ s := by omega
    have h4 : s ≤ n := by omega
    have h5 : l.length ≤ 500 := by omega
    have HL := Lib.hid hl
    clear hbad hl hlong
    go_enter Try.func5, Try.ntmps5
    go_wp2_with fail
    refine (new_ok n s w (by omega) (by omega) (by omega) (by omega)).mono ?_
    rintro e w1 ⟨rfl, hA, hB⟩
    go_wp2_with fail
    refine (newr_ok n s w1 (by omega) (by omega) (by omega) (by omega)).mono ?_
    rintro e w2 ⟨b1, b2, hb1, hb2, rfl, hR, hB2⟩
    have hgl := lt_heap hA.hg
    have hbl := lt_heap hA.hb
    have hP : Hid (PlayAt w w2 (w.heap.size + 1) w.heap.size (w1.heap.size + 2) b1 b2 w1.heap.size n 0 s (List.replicate n (false, 0))) := by
      refine ⟨below_below hB hB2 (Nat.le_refl _), hA.below' hB2, hR, Nat.le_refl _, hgl, hbl, by omega, hb1, hb2, by simp, fun k => ?_, fun k => ?_⟩
      · by_cases hk : k < n
        · rw [wear_rep _ _ _ _ hk]; exact Int.le_refl _
        · simp [wear, List.getD, hk]
      · by_cases hk : k < n
        · rw [wear_rep _ _ _ _ hk]; exact Int.le_refl _
        · simp [wear, List.getD, hk]
    clear hA hB hR hB2 hgl hbl hb1 hb2
    go_wp2_with fail
    go_loopg [11] (l.length) (fun mm iv wr => ∃ (i : Nat) (zs : List Z), i ≤ l.length ∧ mm = l.length - i ∧ iv = .int .i64 i ∧ PlayAt w wr (w.heap.size + 1) w.heap.size (w1.heap.size + 2) b1 b2 w1.heap.size n i s zs)
    case atStart => exact ⟨0, _, Nat.zero_le _, rfl, rfl, hP.out⟩
    case round =>
      clear hP
      obtain ⟨i, zs, hi, rfl, rfl, hO⟩ := hrel
      have HO := Lib.hid hO; clear hO
      by_cases hlt : i < l.length
      · obtain ⟨b, o, rfl, hb, d0, d1, hr0, hr1⟩ := HL.out i hlt
        have e0 := (HO.out.below.cell (p := ⟨b, o + i * 2, none⟩) hb).trans d0
        have e1 := (HO.out.below.cell (p := ⟨b, o + i * 2 + 1, none⟩) hb).trans d1
        have HS := Lib.hid (HO.out.start (kd l i) (nn l i))
        have hlz := HO.out.la
        have hcb : cnt zs ≤ 64 := by have := frees_len zs zs.length; simp only [cnt]; omega
        clear d0 d1 HO
        generalize kd l i = x at *
        generalize nn l i = y at *
        go_upto_block 2 with (fail)
        go_cut [13] (fun s13 wx => s13 = .bool true ∧ ∃ zs2 : List Z, PlayS w wx (w.heap.size + 1) w.heap.size (w1.heap.size + 2) b1 b2 w1.heap.size wr.heap.size n (i + 1) s zs2 zs2 x y)
        case first =>
          by_cases hk1 : x = 1
          · subst hk1
            by_cases hw : 0 < cnt zs ∧ s < (cnt zs : Int)
            · obtain ⟨m, hm⟩ := bst_some zs zs.length (by exact hw.1)
              have hmn : m < n := by rw [← hlz]; exact bst_lt _ _ _ hm
              have hpos : Hid (0 < cnt zs) := hw.1
              have hokk : Hid (Okk (cnt zs) s false) := Or.inr hw.2
              have HM := Lib.hid hm
              clear hm hw
              have s0 := HS.out.c0
              go_wp2_with fail
              refine (take_some _ _ _ _ false _ m HS.out.alloc hpos.out hokk.out HM.out).mono ?_
              rintro e w3 ⟨rfl, hA3, hC3⟩
              have HS3 := Lib.hid (HS.out.setA m hmn true (wear zs m) (HS.out.w0' m) (by have := HS.out.w1' m; omega) hA3 hC3)
              have s2 := HS3.out.c0
              clear hA3 hC3 s0
              go_wp2_with fail
              refine (rtake_some _ _ _ _ _ false _ m HS3.out.ref hpos.out hokk.out HM.out).mono ?_
              rintro e w4 ⟨rfl, hA4, hC4⟩
              have HP := Lib.hid (HS3.out.setR' m hmn true (wear zs m) (HS.out.w0' m) (by have := HS.out.w1' m; omega) hA4 hC4)
              clear hA4 hC4 HS3 HS s2 e0 e1 HM
              go_wp2_with fail
              go_meet
              exact ⟨rfl, _, HP.out⟩
            · have hbad := Lib.hid (bad_of hw)
              clear hw
              have s0 := HS.out.c0
              go_wp2_with fail
              refine (take_none _ _ _ _ false _ HS.out.alloc hbad.out).mono ?_
              rintro e w3 ⟨rfl, hB3⟩
              have HS3 := Lib.hid (HS.out.later hB3)
              have s2 := HS3.out.c0
              clear s0
              go_wp2_with fail
              refine (rtake_none _ _ _ _ _ false _ HS3.out.ref hbad.out).mono ?_
              rintro e w4 ⟨rfl, hB4⟩
              have HP := Lib.hid (HS3.out.later hB4).up
              clear hB3 hB4 HS3 HS s2 e0 e1
              go_wp2_with fail
              go_meet
              exact ⟨rfl, _, HP.out⟩
          by_cases hk2 : x = 2
          · subst hk2
            by_cases hw : 0 < cnt zs
            · obtain ⟨m, hm⟩ := bst_some zs zs.length (by exact hw)
              have hmn : m < n := by rw [← hlz]; exact bst_lt _ _ _ hm
              have hpos : Hid (0 < cnt zs) := hw
              have hokk : Hid (Okk (cnt zs) s true) := Or.inl rfl
              have HM := Lib.hid hm
              clear hm hw
              have s0 := HS.out.c0
              go_wp2_with fail
              refine (take_some _ _ _ _ true _ m HS.out.alloc hpos.out hokk.out HM.out).mono ?_
              rintro e w3 ⟨rfl, hA3, hC3⟩
              have HS3 := Lib.hid (HS.out.setA m hmn true (wear zs m) (HS.out.w0' m) (by have := HS.out.w1' m; omega) hA3 hC3)
              have s2 := HS3.out.c0
              clear hA3 hC3 s0
              go_wp2_with fail
              refine (rtake_some _ _ _ _ _ true _ m HS3.out.ref hpos.out hokk.out HM.out).mono ?_
              rintro e w4 ⟨rfl, hA4, hC4⟩
              have HP := Lib.hid (HS3.out.setR' m hmn true (wear zs m) (HS.out.w0' m) (by have := HS.out.w1' m; omega) hA4 hC4)
              clear hA4 hC4 HS3 HS s2 e0 e1 HM
              go_wp2_with fail
              go_meet
              exact ⟨rfl, _, HP.out⟩
            · have hbad := Lib.hid (bad_of' (s := s) hw)
              clear hw
              have s0 := HS.out.c0
              go_wp2_with fail
              refine (take_none _ _ _ _ true _ HS.out.alloc hbad.out).mono ?_
              rintro e w3 ⟨rfl, hB3⟩
              have HS3 := Lib.hid (HS.out.later hB3)
              have s2 := HS3.out.c0
              clear s0
              go_wp2_with fail
              refine (rtake_none _ _ _ _ _ true _ HS3.out.ref hbad.out).mono ?_
              rintro e w4 ⟨rfl, hB4⟩
              have HP := Lib.hid (HS3.out.later hB4).up
              clear hB3 hB4 HS3 HS s2 e0 e1
              go_wp2_with fail
              go_meet
              exact ⟨rfl, _, HP.out⟩
          by_cases hk3 : x = 3
          · subst hk3
            have s0 := HS.out.c0
            have s1 := HS.out.c1
            have HD := Lib.hid (HS.out.later (Below.refl _ _).drew)
            by_cases hin0 : y < 0 ∨ (n : Int) ≤ y
            · have HA1 := Lib.hid (fun W (h : AllocAt W (w.heap.size + 1) w.heap.size zs s) => free_out _ _ _ _ y W h (by rw [hlz]; exact hin0))
              have HR1 := Lib.hid (fun W (h : RefAt W (w1.heap.size + 2) b1 b2 zs s) => rfree_out _ _ _ _ _ y W h (by rw [hlz]; exact hin0))
              clear hin0
              go_wp2_with fail
              go_region_with (first | (go_at_call 12; refine (HA1.out _ ?_).mono ?_; exact HD.out.alloc; rintro e w3 ⟨rfl, rfl⟩) | (go_at_call 17; refine (HR1.out _ ?_).mono ?_; exact HD.out.ref; rintro e w3 ⟨rfl, rfl⟩))
              all_goals
                go_wp2_with fail
                go_meet
                exact ⟨rfl, _, HD.out.up⟩
            · obtain ⟨k, rfl⟩ := Int.eq_ofNat_of_zero_le (show 0 ≤ y by omega)
              have hkn0 : k < n := by omega
              clear hin0
              have hbnd : Hid (0 ≤ wear zs k ∧ wear zs k ≤ i) := ⟨HS.out.w0' k, HS.out.w1' k⟩
              have hb6 : i ≤ 1000000 := by omega
              have hkz : k < zs.length := by rw [hlz]; exact hkn0
              cases ht : tk zs k with
              | true =>
                go_wp2_with fail
                go_region_with (first | (go_at_call 12; first | (refine (free_in (w.heap.size + 1) w.heap.size zs s k _ ?_ hkz hbnd.out.1 (Int.le_trans hbnd.out.2 (by omega))).mono ?_; exact HQ.out.alloc; rintro e w5 ⟨rfl, hX, hC⟩; rw [ht, if_pos rfl] at hX; have HP := Lib.hid (HQ.out.setA' k hkn0 false (wear zs k + 1) (by have := hbnd.out.1; omega) (by have := hbnd.out.2; omega) hX hC)) | (refine (free_in (w.heap.size + 1) w.heap.size zs s k _ ?_ hkz hbnd.out.1 (Int.le_trans hbnd.out.2 (by omega))).mono ?_; exact HD.out.alloc; rintro e w4 ⟨rfl, hX, hC⟩; rw [ht, if_pos rfl] at hX; have HQ := Lib.hid (HD.out.setA k hkn0 false (wear zs k + 1) (by have := hbnd.out.1; omega) (by have := hbnd.out.2; omega) hX hC); have s4 := HQ.out.c1)) | (go_at_call 17; first | (refine (rfree_in (w1.heap.size + 2) b1 b2 zs s k _ ?_ hkz hbnd.out.1 (Int.le_trans hbnd.out.2 (by omega))).mono ?_; exact HQ.out.ref; rintro e w5 ⟨rfl, hX, hC⟩; rw [ht, if_pos rfl] at hX; have HP := Lib.hid (HQ.out.setR' k hkn0 false (wear zs k + 1) (by have := hbnd.out.1; omega) (by have := hbnd.out.2; omega) hX hC)) | (refine (rfree_in (w1.heap.size + 2) b1 b2 zs s k _ ?_ hkz hbnd.out.1 (Int.le_trans hbnd.out.2 (by omega))).mono ?_; exact HD.out.ref; rintro e w4 ⟨rfl, hX, hC⟩; rw [ht, if_pos rfl] at hX; have HQ := Lib.hid (HD.out.setR k hkn0 false (wear zs k + 1) (by have := hbnd.out.1; omega) (by have := hbnd.out.2; omega) hX hC); have s4 := HQ.out.c1)))
                all_goals
                  go_wp2_with fail
                  go_meet
                  exact ⟨by simp [ht], _, HP.out⟩
              | false =>
                go_wp2_with fail
                go_region_with (first | (go_at_call 12; first | (refine (free_in (w.heap.size + 1) w.heap.size zs s k _ ?_ hkz hbnd.out.1 (Int.le_trans hbnd.out.2 (by omega))).mono ?_; exact HQ.out.alloc; rintro e w5 ⟨rfl, hX, hC⟩; rw [ht, if_neg (by decide)] at hX; have HP := Lib.hid (HQ.out.same hX hC)) | (refine (free_in (w.heap.size + 1) w.heap.size zs s k _ ?_ hkz hbnd.out.1 (Int.le_trans hbnd.out.2 (by omega))).mono ?_; exact HD.out.alloc; rintro e w4 ⟨rfl, hX, hC⟩; rw [ht, if_neg (by decide)] at hX; have HQ := Lib.hid (HD.out.same hX hC); have s4 := HQ.out.c1)) | (go_at_call 17; first | (refine (rfree_in (w1.heap.size + 2) b1 b2 zs s k _ ?_ hkz hbnd.out.1 (Int.le_trans hbnd.out.2 (by omega))).mono ?_; exact HQ.out.ref; rintro e w5 ⟨rfl, hX, hC⟩; rw [ht, if_neg (by decide)] at hX; have HP := Lib.hid (HQ.out.sameR hX hC)) | (refine (rfree_in (w1.heap.size + 2) b1 b2 zs s k _ ?_ hkz hbnd.out.1 (Int.le_trans hbnd.out.2 (by omega))).mono ?_; exact HD.out.ref; rintro e w4 ⟨rfl, hX, hC⟩; rw [ht, if_neg (by decide)] at hX; have HQ := Lib.hid (HD.out.sameR hX hC); have s4 := HQ.out.c1)))
                all_goals
                  go_wp2_with fail
                  go_meet
                  exact ⟨by simp [ht], _, HP.out.up⟩
          by_cases hk4 : x = 4
          · subst hk4
            have s0 := HS.out.c0
            have s1 := HS.out.c1
            have HD := Lib.hid (HS.out.later (Below.refl _ _).drew)
            by_cases hin0 : y < 0 ∨ (n : Int) ≤ y
            · have HA1 := Lib.hid (fun W (h : AllocAt W (w.heap.size + 1) w.heap.size zs s) => mark_out _ _ _ _ y W h (by rw [hlz]; exact hin0))
              have HR1 := Lib.hid (fun W (h : RefAt W (w1.heap.size + 2) b1 b2 zs s) => rmark_out _ _ _ _ _ y W h (by rw [hlz]; exact hin0))
              clear hin0
              go_wp2_with fail
              go_region_with (first | (go_at_call 18; refine (HA1.out _ ?_).mono ?_; exact HD.out.alloc; rintro e w3 ⟨rfl, rfl⟩) | (go_at_call 19; refine (HR1.out _ ?_).mono ?_; exact HD.out.ref; rintro e w3 ⟨rfl, rfl⟩))
              all_goals
                go_wp2_with fail
                go_meet
                exact ⟨rfl, _, HD.out.up⟩
            · obtain ⟨k, rfl⟩ := Int.eq_ofNat_of_zero_le (show 0 ≤ y by omega)
              have hkn0 : k < n := by omega
              clear hin0
              have hbnd : Hid (0 ≤ wear zs k ∧ wear zs k ≤ i) := ⟨HS.out.w0' k, HS.out.w1' k⟩
              have hb6 : i ≤ 1000000 := by omega
              have hkz : k < zs.length := by rw [hlz]; exact hkn0
              cases ht : tk zs k with
              | true =>
                go_wp2_with fail
                go_region_with (first | (go_at_call 18; first | (refine (mark_in (w.heap.size + 1) w.heap.size zs s k _ ?_ hkz).mono ?_; exact HQ.out.alloc; rintro e w5 ⟨rfl, hX, hC⟩; rw [ht, if_pos rfl] at hX; have HP := Lib.hid (HQ.out.same hX hC)) | (refine (mark_in (w.heap.size + 1) w.heap.size zs s k _ ?_ hkz).mono ?_; exact HD.out.alloc; rintro e w4 ⟨rfl, hX, hC⟩; rw [ht, if_pos rfl] at hX; have HQ := Lib.hid (HD.out.same hX hC); have s4 := HQ.out.c1)) | (go_at_call 19; first | (refine (rmark_in (w1.heap.size + 2) b1 b2 zs s k _ ?_ hkz).mono ?_; exact HQ.out.ref; rintro e w5 ⟨rfl, hX, hC⟩; rw [ht, if_pos rfl] at hX; have HP := Lib.hid (HQ.out.sameR hX hC)) | (refine (rmark_in (w1.heap.size + 2) b1 b2 zs s k _ ?_ hkz).mono ?_; exact HD.out.ref; rintro e w4 ⟨rfl, hX, hC⟩; rw [ht, if_pos rfl] at hX; have HQ := Lib.hid (HD.out.sameR hX hC); have s4 := HQ.out.c1)))
                all_goals
                  go_wp2_with fail
                  go_meet
                  exact ⟨by simp [ht], _, HP.out.up⟩
              | false =>
                go_wp2_with fail
                go_region_with (first | (go_at_call 18; first | (refine (mark_in (w.heap.size + 1) w.heap.size zs s k _ ?_ hkz).mono ?_; exact HQ.out.alloc; rintro e w5 ⟨rfl, hX, hC⟩; rw [ht, if_neg (by decide)] at hX; have HP := Lib.hid (HQ.out.setA' k hkn0 true (wear zs k) (by have := hbnd.out.1; omega) (by have := hbnd.out.2; omega) hX hC)) | (refine (mark_in (w.heap.size + 1) w.heap.size zs s k _ ?_ hkz).mono ?_; exact HD.out.alloc; rintro e w4 ⟨rfl, hX, hC⟩; rw [ht, if_neg (by decide)] at hX; have HQ := Lib.hid (HD.out.setA k hkn0 true (wear zs k) (by have := hbnd.out.1; omega) (by have := hbnd.out.2; omega) hX hC); have s4 := HQ.out.c1)) | (go_at_call 19; first | (refine (rmark_in (w1.heap.size + 2) b1 b2 zs s k _ ?_ hkz).mono ?_; exact HQ.out.ref; rintro e w5 ⟨rfl, hX, hC⟩; rw [ht, if_neg (by decide)] at hX; have HP := Lib.hid (HQ.out.setR' k hkn0 true (wear zs k) (by have := hbnd.out.1; omega) (by have := hbnd.out.2; omega) hX hC)) | (refine (rmark_in (w1.heap.size + 2) b1 b2 zs s k _ ?_ hkz).mono ?_; exact HD.out.ref; rintro e w4 ⟨rfl, hX, hC⟩; rw [ht, if_neg (by decide)] at hX; have HQ := Lib.hid (HD.out.setR k hkn0 true (wear zs k) (by have := hbnd.out.1; omega) (by have := hbnd.out.2; omega) hX hC); have s4 := HQ.out.c1)))
                all_goals
                  go_wp2_with fail
                  go_meet
                  exact ⟨by simp [ht], _, HP.out⟩
          have n1 : (x == 1) = false := by simpa using hk1
          have n2 : (x == 2) = false := by simpa using hk2
          have n3 : (x == 3) = false := by simpa using hk3
          have n4 : (x == 4) = false := by simpa using hk4
          clear hk1 hk2 hk3 hk4
          go_wp2_with fail
          go_meet
          exact ⟨rfl, _, HS.out.up⟩
        case rest =>
          clear HS hlz hcb e0 e1
          obtain ⟨rfl, zs2, hS2⟩ := hcut
          have HP := Lib.hid hS2; clear hS2
          have s1 := HP.out.c1
          have hlz2 := Lib.hid HP.out.la
          go_upto_region 25 with (fail)
          go_cut [117] (fun s117 wx => s117 = .bool (decide (0 ≤ y ∧ y < (n : Int))) ∧ PlayS w wx (w.heap.size + 1) w.heap.size (w1.heap.size + 2) b1 b2 w1.heap.size wr.heap.size n (i + 1) s zs2 zs2 x y)
          case first =>
            have hin' : y < 0 ∨ (0 ≤ y ∧ y < (n : Int)) ∨ (0 ≤ y ∧ (n : Int) ≤ y) := by omega
            rcases hin' with h6 | ⟨h6, h7⟩ | ⟨h6, h7⟩
            · have hd := Lib.hid (show decide (0 ≤ y ∧ y < (n : Int)) = false from decide_eq_false (by omega))
              go_wp2_with fail
              go_meet
              exact ⟨by rw [hd.out], HP.out⟩
            · have hd := Lib.hid (show decide (0 ≤ y ∧ y < (n : Int)) = true from decide_eq_true ⟨h6, h7⟩)
              go_wp2_with fail
              go_meet
              exact ⟨by rw [hd.out], HP.out⟩
            · have hd := Lib.hid (show decide (0 ≤ y ∧ y < (n : Int)) = false from decide_eq_false (by omega))
              have t9 : decide (y < (n : Int)) = false := decide_eq_false (by omega)
              go_wp2_with fail
              go_meet
              exact ⟨by rw [hd.out], HP.out⟩
          case rest =>
            clear HP s1
            obtain ⟨hd, hS2⟩ := hcut
            have HP := Lib.hid hS2; clear hS2
            have s1 := HP.out.c1
            generalize hb7 : decide (0 ≤ y ∧ y < (n : Int)) = b7 at hd
            have HB7 := Lib.hid hb7; clear hb7
            subst hd
            go_upto_if 117 with (fail)
            go_cut [18] (fun s18 wx => s18 = .int .i64 (wv zs2 n y) ∧ PlayS w wx (w.heap.size + 1) w.heap.size (w1.heap.size + 2) b1 b2 w1.heap.size wr.heap.size n (i + 1) s zs2 zs2 x y)
            case first =>
              by_cases hin : 0 ≤ y ∧ y < (n : Int)
              · have e7 : b7 = true := by rw [← HB7.out]; simp [hin]
                subst e7
                obtain ⟨k, rfl⟩ := Int.eq_ofNat_of_zero_le hin.1
                have hkn' : (k : Int) < n := hin.2
                have hkn : k < n := by omega
                clear hin
                have r1 := cell_heap HP.out.ref.hg (o := 1) rfl
                rw [hlz2.out] at r1
                have r2 := cell_heap HP.out.ref.h2 (wrs_get _ k (by rw [hlz2.out]; exact hkn))
                go_wp2_with fail
                go_quiet (fail)
                go_wp2_with fail
                go_meet
                exact ⟨by rw [wv_in _ _ _ hkn], HP.out.later (below_drewN (Below.refl _ _) nq)⟩
              · have hin' : y < 0 ∨ (0 ≤ y ∧ (n : Int) ≤ y) := by omega
                have hw := Lib.hid (wv_out zs2 n y (by omega))
                have e7 : b7 = false := by rw [← HB7.out]; simp; omega
                subst e7
                clear hin hin'
                go_wp2_with fail
                go_meet
                exact ⟨by rw [hw.out], HP.out⟩
            case rest =>
              clear HP s1
              obtain ⟨rfl, hS2⟩ := hcut
              have HP := Lib.hid hS2; clear hS2
              have hwx : Hid (∀ W, AllocAt W (w.heap.size + 1) w.heap.size zs2 s → Calls Try.prog 14 #[.pointer (some ⟨w.heap.size + 1, 0, none⟩), .int .i64 y] W fun e w' => e = .returned (.int .i64 (wv zs2 n y)) ∧ W = w') := by
                intro W hW
                by_cases hin : 0 ≤ y ∧ y < (n : Int)
                · obtain ⟨k, rfl⟩ := Int.eq_ofNat_of_zero_le hin.1
                  rw [wv_in _ _ _ (by omega)]
                  exact wear_in _ _ _ _ k W hW (by rw [hlz2.out]; omega)
                · rw [wv_out _ _ _ (by omega)]
                  exact wear_out _ _ _ _ y W hW (by rw [hlz2.out]; omega)
              go_wp2_with fail
              refine (count_any _ _ _ _ _ HP.out.alloc).mono ?_
              rintro e v1 ⟨rfl, hV1⟩
              have HP1 := Lib.hid (HP.out.later hV1)
              go_wp2_with fail
              refine (rcount_any _ _ _ _ _ _ HP1.out.ref).mono ?_
              rintro e v2 ⟨rfl, hV2⟩
              have HP2 := Lib.hid (HP1.out.later hV2)
              go_wp2_with fail
              refine (list_any _ _ _ _ _ HP2.out.alloc).mono ?_
              rintro e v3 ⟨u1, rfl, hV3, own1⟩
              have HP3 := Lib.hid (HP2.out.later hV3)
              obtain ⟨a1, cc1, rfl⟩ := own_form own1
              have R1 := Lib.hid (rd_of_own own1).2
              clear own1
              go_wp2_with fail
              refine (rlist_any _ _ _ _ _ _ HP3.out.ref).mono ?_
              rintro e v4 ⟨u2, rfl, hV4, own2⟩
              have HP4' := Lib.hid (HP3.out.later hV4)
              obtain ⟨a2, cc2, rfl⟩ := own_form own2
              have R2 := Lib.hid (rd_of_own own2).2
              clear own2
              go_wp2_with fail
              refine (ints_same _ _ _ _ _ _ (Nat.le_trans (frees_len _ _) (by rw [hlz2.out]; omega)) (R1.out.below hV4) R2.out).mono ?_
              rintro e v5 ⟨rfl, hV5⟩
              have HP4 := Lib.hid (HP4'.out.later hV5)
              have s2 := HP4.out.c1
              clear R1 R2 HP4' HP3 HP2 HP1 HP hV1 hV2 hV3 hV4 hV5
              go_wp2_with fail
              refine (hwx.out _ HP4.out.alloc).mono ?_
              rintro e v6 ⟨rfl, rfl⟩
              clear hwx
              go_wp2
              go_roundg (l.length - (i + 1))
              case measure => omega
              case rel => exact ⟨i + 1, _, by omega, rfl, by go_num, HP4.out.fin⟩
      · have him : i = l.length := by omega
        subst him
        go_wp2_with fail
        refine (awake_any _).mono ?_
        rintro e w3 ⟨rfl, hB3⟩
        go_wp2
        go_ret
        exact ⟨rfl, below_below HO.out.below hB3 (Nat.le_refl _)⟩
end Go.Proofs.Ytpohncdabngifaa
