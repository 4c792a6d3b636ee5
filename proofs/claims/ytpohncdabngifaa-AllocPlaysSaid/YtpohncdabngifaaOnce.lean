import Derived.Test.YtpohncdabngifaaW
import Derived.Deep.RegionWith
namespace Go.Proofs.Ytpohncdabngifaa
open Go.RowKit

def kd (l : List (Int × Int)) (i : Nat) : Int := (l.getD i (0, 0)).1
def nn (l : List (Int × Int)) (i : Nat) : Int := (l.getD i (0, 0)).2
/-- the steps l lie where the slice leads -/
def StepsAt (w : World) (la : Option Addr) (l : List (Int × Int)) : Prop :=
  ∀ i, i < l.length → ∃ b o, la = some ⟨b, o, none⟩ ∧ b < w.heap.size ∧ w.cell? ⟨b, o + i * 2, none⟩ = some (.int .i64 (kd l i)) ∧ w.cell? ⟨b, o + i * 2 + 1, none⟩ = some (.int .i64 (nn l i)) ∧
    -9223372036854775808 ≤ nn l i ∧ nn l i ≤ 9223372036854775807
def held (zs : List Z) : List Value := zs.map fun z => Value.bool z.1
theorem held_eq (zs : List Z) : held zs = zs.flatMap fun z => [Value.bool z.1] := by
  induction zs with
  | nil => rfl
  | cons z zs ih => rw [List.flatMap_cons, ← ih]; rfl
theorem held_get (zs : List Z) (k : Nat) (hk : k < zs.length) : (held zs)[k]? = some (.bool (tk zs k)) := by simp [held, tk, List.getD, hk]
theorem held_set (zs : List Z) (k : Nat) (b : Bool) (x : Int) : (held zs).set k (.bool b) = held (zs.set k (b, x)) := by simp [held, List.map_set]
theorem held_wear (zs : List Z) (k : Nat) (b : Bool) (x y : Int) : held (zs.set k (b, x)) = held (zs.set k (b, y)) := by simp [held, List.map_set]

/-- what holds at the loop's head -/
structure OnceAt (w0 w : World) (g b hb n i : Nat) (sp : Int) (zs : List Z) : Prop where
  below : Below w0.heap.size w0 w
  alloc : AllocAt w g b zs sp
  held : w.heap[hb]? = some (.cells (held zs).toArray 4 (0, 0))
  len : zs.length = n
  w0' : ∀ k, 0 ≤ wear zs k
  w1' : ∀ k, wear zs k ≤ i

theorem OnceAt.later {w0 w w2 : World} {g b hb n i : Nat} {sp : Int} {zs : List Z} (h : OnceAt w0 w g b hb n i sp zs) (hB : Below w.heap.size w w2) : OnceAt w0 w2 g b hb n i sp zs :=
  ⟨below_below h.below hB (Nat.le_refl _), h.alloc.below' hB, (hB.block hb (lt_heap h.held)).trans h.held, h.len, h.w0', h.w1'⟩
theorem OnceAt.succ {w0 w : World} {g b hb n i : Nat} {sp : Int} {zs : List Z} (h : OnceAt w0 w g b hb n i sp zs) : OnceAt w0 w g b hb n (i + 1) sp zs :=
  ⟨h.below, h.alloc, h.held, h.len, h.w0', fun k => by have := h.w1' k; omega⟩
theorem OnceAt.same {w0 w w1 : World} {g b hb n i : Nat} {sp : Int} {zs : List Z} (h : OnceAt w0 w g b hb n i sp zs) (hbb : b < hb) (hb0 : w0.heap.size ≤ b) (hA : AllocAt w1 g b zs sp) (hC : Chg (· = b) w w1) : OnceAt w0 w1 g b hb n i sp zs :=
  ⟨below_chg h.below hC (Nat.le_refl _) (by rintro k rfl; exact hb0), hA, (hC.block hb (lt_heap h.held) (by show ¬ hb = b; omega)).trans h.held, h.len, h.w0', h.w1'⟩
/-- the allocator turned at m (w1), then the held row (w2) -/
theorem OnceAt.turn {w0 w w1 : World} {g b hb n i : Nat} {sp : Int} {zs : List Z} (h : OnceAt w0 w g b hb n i sp zs) (hg : g < hb) (hbb : b < hb) (hb0 : w0.heap.size ≤ b) (m : Nat) (hm : m < n) (t : Bool) (x : Int) (hx0 : 0 ≤ x) (hx1 : x ≤ i + 1)
    (hA : AllocAt w1 g b (zs.set m (t, x)) sp) (hC : Chg (· = b) w w1) : OnceAt w0 (w1.setCell ⟨hb, m, none⟩ (.bool t)) g b hb n (i + 1) sp (zs.set m (t, x)) := by
  have hlb := lt_heap h.held
  have hh : w1.heap[hb]? = some (.cells (Ytpohncdabngifaa.held zs).toArray 4 (0, 0)) := (hC.block hb hlb (by show ¬ hb = b; omega)).trans h.held
  refine ⟨?_, ?_, ?_, by simpa using h.len, ?_, ?_⟩
  · exact (below_chg h.below hC (Nat.le_refl _) (by rintro k rfl; exact hb0)).setCell (p := ⟨hb, m, none⟩) (by show w0.heap.size ≤ hb; omega) _
  · exact hA.of_eq (set_heap_ne (by omega)) (set_heap_ne (by omega))
  · rw [set_heap hh, held_set]
  · intro k
    by_cases e : m = k
    · subst e; rw [wear_self _ _ _ (by rw [h.len]; exact hm)]; exact hx0
    · rw [wear_other _ _ _ _ e]; exact h.w0' k
  · intro k
    by_cases e : m = k
    · subst e; rw [wear_self _ _ _ (by rw [h.len]; exact hm)]; simpa using hx1
    · rw [wear_other _ _ _ _ e]; have := h.w1' k; omega

def Bad (c : Nat) (s : Int) (r : Bool) : Prop := c = 0 ∨ r = false ∧ (c : Int) ≤ s
theorem bad_of {c : Nat} {s : Int} (h : ¬ (0 < c ∧ s < (c : Int))) : Bad c s false := by
  by_cases h0 : c = 0
  · exact Or.inl h0
  · exact Or.inr ⟨rfl, by omega⟩
theorem bad_of' {c : Nat} {s : Int} (h : ¬ 0 < c) : Bad c s true := Or.inl (by omega)

set_option maxHeartbeats 2000000 in
set_option maxRecDepth 100000 in
theorem once_any (z s : Int) (la : Option Addr) (lc : Nat) (l : List (Int × Int)) (w : World) (hs1 : -9223372036854775808 ≤ s) (hs2 : s ≤ 9223372036854775807) (hl : StepsAt w la l) :
    Calls Try.prog 3 #[.int .i64 z, .int .i64 s, .slice la l.length lc] w fun e w' => e = .returned (.bool true) ∧ Below w.heap.size w w' := by
  by_cases hbad : z < 1 ∨ 64 < z ∨ s < 0 ∨ z < s ∨ 500 < l.length
  · have hc : z < 1 ∨ (1 ≤ z ∧ 64 < z) ∨ (1 ≤ z ∧ z ≤ 64 ∧ s < 0) ∨ (1 ≤ z ∧ z ≤ 64 ∧ 0 ≤ s ∧ z < s) ∨ (1 ≤ z ∧ z ≤ 64 ∧ 0 ≤ s ∧ s ≤ z ∧ 500 < l.length) := by omega
    clear hbad hl
    rcases hc with h1 | ⟨h1, h2⟩ | ⟨h1, h2, h3⟩ | ⟨h1, h2, h3, h4⟩ | ⟨h1, h2, h3, h4, h5⟩
    all_goals
      go_enter Try.func3, Try.ntmps3
      go_wp2_with fail
      refine (awake_any _).mono ?_
      rintro e w3 ⟨rfl, hB3⟩
      go_wp2
      go_ret
      exact ⟨rfl, hB3⟩
  · obtain ⟨n, rfl⟩ := Int.eq_ofNat_of_zero_le (show 0 ≤ z by omega)
    have h1 : (1 : Int) ≤ n := by omega
    have h2 : (n : Int) ≤ 64 := by omega
    have h3 : 0 ≤ s := by omega
    have h4 : s ≤ n := by omega
    have h5 : l.length ≤ 500 := by omega
    have HL := Lib.hid hl
    have hmk : ∀ W : World, (Instr.makeSlice 28 (.int .i64 n) (.int .i64 n)).run Try.prog W = .ok (.slice (some ⟨W.heap.size, 0, none⟩) n n) (W.alloc (.cells (held (List.replicate n (false, 0))).toArray 4)) := by
      intro W
      rw [held_eq]
      exact make_run (fun z : Z => [Value.bool z.1]) (false, 0) Try.underlying28 (show (Try.prog.info? 4).map (fun i => (i.zero, i.size, i.bytes)) = some (some (.bool false), 1, 1) by kernel_rfl) rfl rfl (by omega) n (by omega) (by omega) W
    generalize hhd : held (List.replicate n (false, 0)) = hd at hmk
    have HD := Lib.hid hhd; clear hhd
    clear hbad hl
    go_enter Try.func3, Try.ntmps3
    go_wp2_with fail
    refine (new_ok n s w (by omega) (by omega) (by omega) (by omega)).mono ?_
    rintro e w1 ⟨rfl, hA, hB⟩
    go_wp2_with fail
    go_loopw [10, 11] (fun nv iv wr => ∃ (i : Nat) (zs : List Z), i ≤ l.length ∧ iv = .int .i64 i ∧ nv = .int .i64 (cnt zs : Nat) ∧ OnceAt w wr (w.heap.size + 1) w.heap.size w1.heap.size n i s zs) (fun _ iv _ => l.length - (intOf iv).toNat)
    case atStart => 
      refine ⟨0, List.replicate n (false, 0), Nat.zero_le _, rfl, by rw [cnt_rep], ?_, ?_, ?_, ?_, ?_, ?_⟩
      · exact hB.alloc hB.size _
      · exact hA.below' ((Below.refl _ _).alloc (Nat.le_refl _) _)
      · rw [alloc_new rfl, HD.out]
      · simp
      · intro k
        by_cases hk : k < n
        · rw [wear_rep _ _ _ _ hk]; exact Int.le_refl _
        · simp [wear, List.getD, hk]
      · intro k
        by_cases hk : k < n
        · rw [wear_rep _ _ _ _ hk]; exact Int.le_refl _
        · simp [wear, List.getD, hk]
    case round =>
      have hne1 : w.heap.size + 1 < w1.heap.size := lt_heap hA.hg
      have hlw := hB.size
      clear hmk hA hB HD
      obtain ⟨i, zs, hi, rfl, rfl, hO⟩ := hrel
      have HO := Lib.hid hO; clear hO
      by_cases hlt : i < l.length
      · obtain ⟨b, o, rfl, hb, d0, d1, hr0, hr1⟩ := HL.out i hlt
        have e0 := (HO.out.below.cell (p := ⟨b, o + i * 2, none⟩) hb).trans d0
        have e1 := (HO.out.below.cell (p := ⟨b, o + i * 2 + 1, none⟩) hb).trans d1
        clear d0 d1
        by_cases hk1 : kd l i = 1
        · rw [hk1] at e0
          by_cases hw : 0 < cnt zs ∧ s < (cnt zs : Int)
          · obtain ⟨m, hm⟩ := bst_some zs zs.length (by exact hw.1)
            have hmn : m < n := by rw [← HO.out.len]; exact bst_lt _ _ _ hm
            have htm := bst_free _ _ _ hm
            obtain ⟨c2, hc2⟩ : ∃ c2, cnt zs = c2 + 1 := ⟨cnt zs - 1, by omega⟩
            have hcc : cnt (zs.set m (true, wear zs m)) = c2 := by have := cnt_take zs m (wear zs m) (by rw [HO.out.len]; exact hmn) htm; omega
            go_wp2_with fail
            refine (take_some _ _ _ _ false wr m HO.out.alloc (by omega) (Or.inr hw.2) hm).mono ?_
            rintro e w2 ⟨rfl, hA2, hC2⟩
            have e2 := (hC2.block b (by have := HO.out.below.size; omega) (by show ¬ b = w.heap.size; omega))
            have e3 : w2.cell? ⟨b, o + i * 2, none⟩ = some (.int .i64 1) := (World.cell?_of_block (a := ⟨b, o + i * 2, none⟩) e2).trans e0
            have hbl := HO.out.below.size
            have hhb : w2.heap[w1.heap.size]? = some (.cells (held zs).toArray 4 (0, 0)) := (hC2.block w1.heap.size (lt_heap HO.out.held) (by show ¬ w1.heap.size = w.heap.size; omega)).trans HO.out.held
            have e4 : w2.cell? ⟨w1.heap.size, m, none⟩ = some (.bool false) := by rw [← htm]; exact cell_heap hhb (held_get zs m (by rw [HO.out.len]; exact hmn))
            have e5 : w2.frozen? ⟨w1.heap.size, m, none⟩ = false := free_heap hhb
            have HO2 := Lib.hid (HO.out.turn (by omega) (by omega) (Nat.le_refl _) m hmn true (wear zs m) (HO.out.w0' m) (by have := HO.out.w1' m; omega) hA2 hC2)
            have hmn' : (m : Int) < n := by omega
            have hcb : c2 + 1 ≤ 64 := by have := frees_len zs zs.length; have h6 := HO.out.len; simp only [cnt] at hc2; omega
            have hwt : s < (c2 : Int) + 1 := by have := hw.2; omega
            rw [hc2]
            clear e0 e1 e2 HO hhb hm htm hA2 hC2 hw hc2
            have HC := Lib.hid hcc; clear hcc
            go_wp2_with fail
            refine (count_any _ _ _ _ _ HO2.out.alloc).mono ?_
            rintro e w9 ⟨rfl, hB9⟩
            rw [HC.out]
            have HO9 := Lib.hid (OnceAt.later HO2.out hB9)
            clear HO2 hB9
            go_wp2
            go_roundw
            case rel => exact ⟨i + 1, _, by omega, by go_num, by rw [HC.out] <;> rfl, HO9.out⟩
            case measure => simp [intOf]; omega
          · have hbad := Lib.hid (bad_of hw)
            go_wp2_with fail
            refine (take_none _ _ _ _ false wr HO.out.alloc hbad.out).mono ?_
            rintro e w2 ⟨rfl, hB2⟩
            have e2 := (hB2.cell (p := ⟨b, o + i * 2, none⟩) (by have := HO.out.below.size; show b < _; omega)).trans e0
            have HO2 := Lib.hid (HO.out.later hB2).succ
            clear e0 e1 HO hbad
            generalize hc : cnt zs = c at *
            have HC := Lib.hid hc; clear hc
            by_cases hp : 0 < c
            · have hle : (c : Int) ≤ s := by omega
              clear hw
              go_wp2_with fail
              refine (count_any _ _ _ _ _ HO2.out.alloc).mono ?_
              rintro e w9 ⟨rfl, hB9⟩
              rw [HC.out]
              have HO9 := Lib.hid (OnceAt.later HO2.out hB9)
              clear HO2 hB9
              go_wp2
              go_roundw
              case rel => exact ⟨i + 1, _, by omega, by go_num, by rw [HC.out] <;> rfl, HO9.out⟩
              case measure => simp [intOf]; omega
            · have hc0 : c = 0 := by omega
              subst hc0
              clear hw hp
              go_wp2_with fail
              refine (count_any _ _ _ _ _ HO2.out.alloc).mono ?_
              rintro e w9 ⟨rfl, hB9⟩
              rw [HC.out]
              have HO9 := Lib.hid (OnceAt.later HO2.out hB9)
              clear HO2 hB9
              go_wp2
              go_roundw
              case rel => exact ⟨i + 1, _, by omega, by go_num, by rw [HC.out] <;> rfl, HO9.out⟩
              case measure => simp [intOf]; omega
        by_cases hk2 : kd l i = 2
        · rw [hk2] at e0
          by_cases hw : 0 < cnt zs
          · obtain ⟨m, hm⟩ := bst_some zs zs.length (by exact hw)
            have hmn : m < n := by rw [← HO.out.len]; exact bst_lt _ _ _ hm
            have htm := bst_free _ _ _ hm
            obtain ⟨c2, hc2⟩ : ∃ c2, cnt zs = c2 + 1 := ⟨cnt zs - 1, by omega⟩
            have hcc : cnt (zs.set m (true, wear zs m)) = c2 := by have := cnt_take zs m (wear zs m) (by rw [HO.out.len]; exact hmn) htm; omega
            go_wp2_with fail
            refine (take_some _ _ _ _ true wr m HO.out.alloc (by omega) (Or.inl rfl) hm).mono ?_
            rintro e w2 ⟨rfl, hA2, hC2⟩
            have e2 := (hC2.block b (by have := HO.out.below.size; omega) (by show ¬ b = w.heap.size; omega))
            have e3 : w2.cell? ⟨b, o + i * 2, none⟩ = some (.int .i64 2) := (World.cell?_of_block (a := ⟨b, o + i * 2, none⟩) e2).trans e0
            have hbl := HO.out.below.size
            have hhb : w2.heap[w1.heap.size]? = some (.cells (held zs).toArray 4 (0, 0)) := (hC2.block w1.heap.size (lt_heap HO.out.held) (by show ¬ w1.heap.size = w.heap.size; omega)).trans HO.out.held
            have e4 : w2.cell? ⟨w1.heap.size, m, none⟩ = some (.bool false) := by rw [← htm]; exact cell_heap hhb (held_get zs m (by rw [HO.out.len]; exact hmn))
            have e5 : w2.frozen? ⟨w1.heap.size, m, none⟩ = false := free_heap hhb
            have HO2 := Lib.hid (HO.out.turn (by omega) (by omega) (Nat.le_refl _) m hmn true (wear zs m) (HO.out.w0' m) (by have := HO.out.w1' m; omega) hA2 hC2)
            have hmn' : (m : Int) < n := by omega
            have hcb : c2 + 1 ≤ 64 := by have := frees_len zs zs.length; have h6 := HO.out.len; simp only [cnt] at hc2; omega
            have hwt : True := trivial
            rw [hc2]
            clear e0 e1 e2 HO hhb hm htm hA2 hC2 hw hc2
            have HC := Lib.hid hcc; clear hcc
            go_wp2_with fail
            refine (count_any _ _ _ _ _ HO2.out.alloc).mono ?_
            rintro e w9 ⟨rfl, hB9⟩
            rw [HC.out]
            have HO9 := Lib.hid (OnceAt.later HO2.out hB9)
            clear HO2 hB9
            go_wp2
            go_roundw
            case rel => exact ⟨i + 1, _, by omega, by go_num, by rw [HC.out] <;> rfl, HO9.out⟩
            case measure => simp [intOf]; omega
          · have hbad := Lib.hid (bad_of' (s := s) hw)
            go_wp2_with fail
            refine (take_none _ _ _ _ true wr HO.out.alloc hbad.out).mono ?_
            rintro e w2 ⟨rfl, hB2⟩
            have e2 := (hB2.cell (p := ⟨b, o + i * 2, none⟩) (by have := HO.out.below.size; show b < _; omega)).trans e0
            have HO2 := Lib.hid (HO.out.later hB2).succ
            clear e0 e1 HO hbad
            generalize hc : cnt zs = c at *
            have HC := Lib.hid hc; clear hc
            have hc0 : c = 0 := by omega
            subst hc0
            clear hw
            go_wp2_with fail
            refine (count_any _ _ _ _ _ HO2.out.alloc).mono ?_
            rintro e w9 ⟨rfl, hB9⟩
            rw [HC.out]
            have HO9 := Lib.hid (OnceAt.later HO2.out hB9)
            clear HO2 hB9
            go_wp2
            go_roundw
            case rel => exact ⟨i + 1, _, by omega, by go_num, by rw [HC.out] <;> rfl, HO9.out⟩
            case measure => simp [intOf]; omega
        by_cases hk3 : kd l i = 3
        · rw [hk3] at e0
          have hn0 : (n : Int) ≠ 0 := by omega
          have hr2 := Int.emod_nonneg (nn l i) hn0
          have hr3 := Int.emod_lt_of_pos (nn l i) (show (0 : Int) < n by omega)
          obtain ⟨k, hk⟩ := Int.eq_ofNat_of_zero_le hr2
          have hkn : k < n := by omega
          have HR := Lib.hid (fun W => round_any (nn l i) n W (by omega) (by omega) hr0 hr1)
          rw [hk] at HR
          generalize nn l i = x at *
          have hlz := HO.out.len
          have d4 : wr.cell? ⟨w1.heap.size, k, none⟩ = some (.bool (tk zs k)) := cell_heap HO.out.held (held_get zs k (by omega))
          have hkn' : (k : Int) < n := by omega
          have hlb : w1.heap.size < wr.drew.heap.size := lt_heap HO.out.held
          cases ht : tk zs k with
          | true =>
            rw [ht] at d4
            go_wp2_with fail
            refine (HR.out _).mono ?_
            rintro e w2 ⟨rfl, rfl⟩
            clear HR hr2 hr3 hk hk1 hk2 hk3 hr0 hr1 e0 e1
            go_wp2_with fail
            go_region_with (first | (go_at_call 12; refine (free_in (w.heap.size + 1) w.heap.size zs s k _ ?_ ?_ ?_ ?_).mono ?_; exact HO.out.alloc.of_eq rfl rfl; omega; exact HO.out.w0' k; (have := HO.out.w1' k; omega); rintro e w2 ⟨rfl, hA2, hC2⟩; have e4 : w2.cell? ⟨w1.heap.size, k, none⟩ = some (.bool true) := (World.cell?_of_block (a := ⟨w1.heap.size, k, none⟩) (hC2.block w1.heap.size hlb (by show ¬ w1.heap.size = w.heap.size; omega))).trans d4))
            all_goals
              rw [ht, if_pos rfl] at hA2
              have hC3 : Chg (· = w.heap.size) wr w2 := (Chg.refl _ wr).drew.trans hC2
              have HO2 := Lib.hid (HO.out.turn (by omega) (by omega) (Nat.le_refl _) k hkn false (wear zs k + 1) (by have := HO.out.w0' k; omega) (by have := HO.out.w1' k; omega) hA2 hC3)
              have e5 : w2.frozen? ⟨w1.heap.size, k, none⟩ = false := free_heap ((hC3.block w1.heap.size hlb (by show ¬ w1.heap.size = w.heap.size; omega)).trans HO.out.held)
              have hcc : cnt (zs.set k (false, wear zs k + 1)) = cnt zs + 1 := cnt_free zs k _ (by omega) ht
              have hcb : cnt zs ≤ 64 := by have := frees_len zs zs.length; have h6 := HO.out.len; simp only [cnt]; omega
              clear hA2 hC2 hC3 HO d4 hlb
              generalize cnt zs = c at *
              have HC := Lib.hid hcc; clear hcc
              go_wp2_with fail
              refine (count_any _ _ _ _ _ HO2.out.alloc).mono ?_
              rintro e w9 ⟨rfl, hB9⟩
              rw [HC.out]
              have HO9 := Lib.hid (OnceAt.later HO2.out hB9)
              clear HO2 hB9
              go_wp2
              go_roundw
              case rel => exact ⟨i + 1, _, by omega, by go_num, by rw [HC.out] <;> go_num, HO9.out⟩
              case measure => simp [intOf]; omega
          | false =>
            rw [ht] at d4
            go_wp2_with fail
            refine (HR.out _).mono ?_
            rintro e w2 ⟨rfl, rfl⟩
            clear HR hr2 hr3 hk hk1 hk2 hk3 hr0 hr1 e0 e1
            go_wp2_with fail
            go_region_with (first | (go_at_call 12; refine (free_in (w.heap.size + 1) w.heap.size zs s k _ ?_ ?_ ?_ ?_).mono ?_; exact HO.out.alloc.of_eq rfl rfl; omega; exact HO.out.w0' k; (have := HO.out.w1' k; omega); rintro e w2 ⟨rfl, hA2, hC2⟩; have e4 : w2.cell? ⟨w1.heap.size, k, none⟩ = some (.bool false) := (World.cell?_of_block (a := ⟨w1.heap.size, k, none⟩) (hC2.block w1.heap.size hlb (by show ¬ w1.heap.size = w.heap.size; omega))).trans d4))
            all_goals
              rw [ht, if_neg (by decide)] at hA2
              have hC3 : Chg (· = w.heap.size) wr w2 := (Chg.refl _ wr).drew.trans hC2
              have HO2 := Lib.hid (HO.out.same (by omega) (Nat.le_refl _) hA2 hC3).succ
              clear hA2 hC2 hC3 HO d4 hlb
              generalize hc : cnt zs = c at *
              have HC := Lib.hid hc; clear hc
              go_wp2_with fail
              refine (count_any _ _ _ _ _ HO2.out.alloc).mono ?_
              rintro e w9 ⟨rfl, hB9⟩
              rw [HC.out]
              have HO9 := Lib.hid (OnceAt.later HO2.out hB9)
              clear HO2 hB9
              go_wp2
              go_roundw
              case rel => exact ⟨i + 1, _, by omega, by go_num, by rw [HC.out] <;> rfl, HO9.out⟩
              case measure => simp [intOf]; omega
        · have n1 : (kd l i == 1) = false := by simpa using hk1
          have n2 : (kd l i == 2) = false := by simpa using hk2
          have n3 : (kd l i == 3) = false := by simpa using hk3
          have HO2 := Lib.hid HO.out.succ
          clear e1 HO hk1 hk2 hk3
          generalize hc : cnt zs = c at *
          have HC := Lib.hid hc; clear hc
          generalize kd l i = kk at *
          go_wp2_with fail
          refine (count_any _ _ _ _ _ HO2.out.alloc).mono ?_
          rintro e w9 ⟨rfl, hB9⟩
          rw [HC.out]
          have HO9 := Lib.hid (OnceAt.later HO2.out hB9)
          clear HO2 hB9
          go_wp2
          go_roundw
          case rel => exact ⟨i + 1, _, by omega, by go_num, by rw [HC.out] <;> rfl, HO9.out⟩
          case measure => simp [intOf]; omega
      · have him : i = l.length := by omega
        subst him
        go_wp2_with fail
        refine (awake_any _).mono ?_
        rintro e w3 ⟨rfl, hB3⟩
        go_wp2
        go_ret
        exact ⟨rfl, below_below HO.out.below hB3 (Nat.le_refl _)⟩
end Go.Proofs.Ytpohncdabngifaa
