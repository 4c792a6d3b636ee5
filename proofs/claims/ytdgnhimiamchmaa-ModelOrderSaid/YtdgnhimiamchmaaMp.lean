import Derived.Test.YtdgnhimiamchmaaMo
namespace Go.Proofs.Ytdgnhimiamchmaa
open Go.RowKit
open BigFrame Lib

theorem CellsH.enc {w : World} {b o : Nat} {h : HistV} (k : CellsH w b o h) : ∀ j u, (encH h)[j]? = some u → w.cell? ⟨b, o + j, none⟩ = some u := fun j u hj => by
  match j, hj with
  | 0, hj => cases hj; exact k.1
  | 1, hj => cases hj; exact k.2.1
  | 2, hj => cases hj; exact k.2.2.1
  | 3, hj => cases hj; exact k.2.2.2.1
  | 4, hj => cases hj; exact k.2.2.2.2.1
  | 5, hj => cases hj; exact k.2.2.2.2.2.1
  | 6, hj => cases hj; exact k.2.2.2.2.2.2
  | j + 7, hj => simp [encH] at hj
/-- the cells of a row of histories -/
theorem HRow.cells {w : World} {b o : Nat} {l : List HistV} (h : HRow w (some ⟨b, o, none⟩) l) (jj : Nat) (u : Value) (hu : (l.flatMap encH)[jj]? = some u) : w.cell? ⟨b, o + jj, none⟩ = some u := by
  have hg := flat_get encH_len l (jj / 7) (jj % 7) (by omega)
  rw [show jj / 7 * 7 + jj % 7 = jj by omega, hu] at hg
  cases hx : l[jj / 7]? with
  | none => rw [hx] at hg; cases hg
  | some x =>
    rw [hx, Option.bind_some] at hg
    obtain ⟨b', o', e, _, hc⟩ := h (jj / 7) x hx
    cases e
    have := hc.enc _ u hg.symm
    rwa [show o + jj / 7 * 7 + jj % 7 = o + jj by omega] at this
theorem encH_one (h : HistV) : ∀ v ∈ encH h, v.oneCell' = true := fun v hv => by
  simp [encH] at hv
  rcases hv with rfl | rfl | rfl | rfl | rfl | rfl | rfl <;> rfl

theorem flatH_len (l : List HistV) : (l.flatMap encH).length = l.length * 7 := by
  induction l with
  | nil => rfl
  | cons x l ih => rw [List.flatMap_cons, List.length_append, ih, encH_len, List.length_cons]; omega
theorem flatH_drop (l : List HistV) (k j : Nat) (hk : k ≤ l.length) : ((l.drop k).flatMap encH)[j]? = (l.flatMap encH)[k * 7 + j]? := by
  have h : l.flatMap encH = (l.take k).flatMap encH ++ (l.drop k).flatMap encH := by rw [← List.flatMap_append, List.take_append_drop]
  have hl : ((l.take k).flatMap encH).length = k * 7 := by rw [flatH_len, List.length_take]; omega
  rw [h, List.getElem?_append_right (by omega), hl]
  congr 1; omega
theorem flatH_take (l : List HistV) (k j : Nat) (u : Value) (hu : ((l.take k).flatMap encH)[j]? = some u) : (l.flatMap encH)[j]? = some u := by
  have h : l.flatMap encH = (l.take k).flatMap encH ++ (l.drop k).flatMap encH := by rw [← List.flatMap_append, List.take_append_drop]
  rw [h, List.getElem?_append_left (List.getElem?_eq_some_iff.1 hu).1, hu]

/-- ModelOrder: small, the times, the first replay -/
theorem order_times (l : List HistV) (h : ∀ (i j : Nat) (x y : HistV), j < i → l[i]? = some x → l[j]? = some y → x.tm ≠ y.tm) : l.Pairwise (fun x y => x.tm ≠ y.tm) := by
  rw [List.pairwise_iff_getElem]
  intro i j hi hj hij
  exact fun e => h j i l[j] l[i] hij (List.getElem?_eq_getElem hj) (List.getElem?_eq_getElem hi) e.symm

set_option maxRecDepth 100000 in
set_option maxHeartbeats 8000000 in
theorem order_pos (a : Option Addr) (c : Nat) (l : List HistV) (k0 : Int) (w : World) (hk0 : -9223372036854775808 ≤ k0) (hk1 : k0 ≤ 9223372036854775807) (hn : l.length ≤ c) (hcm : c ≤ maxLen) (h1 : HistsAt w a l) (h0 : 0 < l.length) :
    Calls Try.prog 6 #[.slice a l.length c, .int .i64 k0] w fun e w' => e = .returned (.bool true) ∧ Below w.heap.size w w' := by
  obtain ⟨b, o, ha, hbl, hcc⟩ := h1.1 0 _ (List.getElem?_eq_getElem h0)
  clear hcc
  subst ha
  have HAW := Lib.hid awake_any
  have H1 := Lib.hid h1
  unfold maxLen at hcm
  have SM := Lib.hid (smallH_any (some ⟨b, o, none⟩) c l w (by omega) h1)
  have HRND := Lib.hid (fun (n : Int) (w : World) (h0 : 0 < n) (h1 : n ≤ 1000000) => round_any k0 n w h0 h1 hk0 hk1)
  clear h1
  generalize hq : l.length = m at *
  have HM := Lib.hid hq; clear hq
  go_enter Try.func6, Try.ntmps6
  go_wp2_with fail
  refine SM.out.mono ?_
  rintro e w1 ⟨⟨bb, rfl, hb⟩, hB1⟩
  have hs1 := hB1.size
  cases bb with
  | false =>
    clear hb
    go_wp2_with fail
    refine (HAW.out _).mono ?_
    rintro e w2 ⟨rfl, hB2⟩
    go_wp2
    go_ret
    exact ⟨rfl, hB1.trans (hB2.mono hs1)⟩
  | true =>
    have HB := Lib.hid (hb rfl)
    have hm60 : m ≤ 60 := by have := HB.out.1; exact this
    have HPL : Hid (∀ x ∈ l, x.pl.length ≤ 1000000) := fun x hx => by have := HB.out.2 x hx; omega
    clear hb HB
    go_wp2_with fail
    go_loopw [5] (fun iv wr => ∃ i : Nat, i ≤ m ∧ iv = .int .i64 i ∧ Below w1.heap.size w1 wr ∧ Aside (Apart l i)) (fun iv _ => m - (intOf iv).toNat)
    case atStart => exact ⟨0, Nat.zero_le _, rfl, Below.refl _ _, (by unfold Apart; simp : Apart l 0)⟩
    case round =>
      obtain ⟨i, hi, rfl, hB, HAP⟩ := hrel
      have hsz := hB.size
      have HBW : Hid (Below w.heap.size w wr) := hB1.trans (hB.mono hs1)
      by_cases hlt : i < m
      · have hx : l[i]? = some (l[i]'(by rw [HM.out]; exact hlt)) := List.getElem?_eq_getElem _
        generalize l[i]'(by rw [HM.out]; exact hlt) = x at hx
        have HX := Lib.hid hx
        clear hx
        generalize wr = w3 at *
        go_wp2_with fail
        go_loopw [6] (fun jv wr => ∃ j : Nat, j ≤ i ∧ jv = .int .i64 j ∧ Below w3.heap.size w3 wr ∧ Aside (∀ y ∈ l.take j, y.tm ≠ x.tm)) (fun jv _ => i - (intOf jv).toNat)
        case atStart => exact ⟨0, Nat.zero_le _, rfl, Below.refl _ _, fun y hy => by simp at hy⟩
        case round =>
          obtain ⟨j, hj, rfl, hBj, HT⟩ := hrel
          have HBJ : Hid (Below w.heap.size w wr) := HBW.out.trans (hBj.mono (by omega))
          by_cases hjl : j < i
          · have hy : l[j]? = some (l[j]'(by rw [HM.out]; omega)) := List.getElem?_eq_getElem _
            generalize l[j]'(by rw [HM.out]; omega) = y at hy
            obtain ⟨b1, o1, hq1, e1, _, _, p2, _⟩ := (H1.out.1.below HBJ.out) i x HX.out
            cases hq1
            obtain ⟨b2, o2, hq2, e2, _, _, p2', _⟩ := (H1.out.1.below HBJ.out) j y hy
            cases hq2
            have HY := Lib.hid hy
            clear hy
            by_cases he : x.tm = y.tm
            · have t1 : (x.tm == y.tm) = true := by simpa using he
              clear he
              go_wp2_with fail
              go_quiet (fail)
              go_wp2_with fail
              refine (HAW.out _).mono ?_
              rintro e w5 ⟨rfl, hB5⟩
              go_wp2
              go_ret
              exact ⟨rfl, (below_drewN HBJ.out _).trans (hB5.mono (below_drewN HBJ.out _).size)⟩
            · have t1 : (x.tm == y.tm) = false := by simpa using he
              have HE : Hid (¬ x.tm = y.tm) := he
              clear he
              go_wp2_with fail
              go_quiet (fail)
              go_wp2
              go_roundw
              case rel =>
                refine ⟨j + 1, by omega, by go_num, below_drewN hBj _, fun z hz => ?_⟩
                rw [List.take_add_one, HY.out] at hz
                rcases List.mem_append.1 hz with hz | hz
                · exact HT.out z hz
                · simp at hz; subst hz; exact fun e => HE.out e.symm
              case measure => simp [intOf]; omega
          · obtain rfl : j = i := by omega
            go_wp2
            go_roundw
            case rel => exact ⟨j + 1, by omega, by go_num, hB.trans (hBj.mono hsz), HAP.out.snoc HX.out HT.out⟩
            case measure => simp [intOf]; omega
      · have HPW : Hid (l.Pairwise (fun x y => x.tm ≠ y.tm)) := by
          have := HAP.out
          unfold Apart at this
          rwa [List.take_of_length_le (by rw [HM.out]; omega)] at this
        have hwm : IntKind.i64.wrap ((m : Int) + 1) = (m : Int) + 1 := by rw [IntKind.wrap_i64]; omega
        have hr0 := Int.emod_nonneg k0 (show ((m : Int) + 1) ≠ 0 by omega)
        have hr1 := Int.emod_lt_of_pos k0 (show (0 : Int) < (m : Int) + 1 by omega)
        have HRD := Lib.hid (HRND.out ((m : Int) + 1) wr (by omega) (by omega))
        generalize k0 % ((m : Int) + 1) = kr at *
        obtain ⟨k, hkk⟩ : ∃ k : Nat, kr = k := ⟨kr.toNat, by omega⟩
        subst hkk
        have hkm : k ≤ m := by omega
        have R1 := replay_good 30 (some ⟨b, o, none⟩) c l wr (by omega) (by omega) (by rw [HM.out]; omega) HPL.out (H1.out.below HBW.out)
        rw [HM.out] at R1
        have HR1 := Lib.hid R1
        have HMEM : Hid (∀ x ∈ l.drop k ++ l.take k, x ∈ l) := fun x hx => (rot_perm l k).mem_iff.1 hx
        have HRL : Hid ((l.drop k ++ l.take k).length = m) := by show _ = _; rw [(rot_perm l k).length_eq, HM.out]
        have HREQ : Hid (replay 30 (l.drop k ++ l.take k) = replay 30 l) := (replay_perm 30 (rot_perm l k).symm HPW.out).symm
        have HR2 : Hid (∀ a6 c6 W, HRow W a6 (l.drop k ++ l.take k) → Below w.heap.size w W → Calls Try.prog 34 #[.int .i64 30, .slice a6 m c6] W fun e w' => Below W.heap.size W w' ∧
            (((replay 30 l).1 = 0 ∧ ∃ g r, e = .returned (.tuple #[.pointer (some ⟨g, 0, none⟩), .int .i64 0]) ∧ W.heap.size ≤ g ∧ W.heap.size ≤ r ∧ MAt w' g r 30 (replay 30 l).2) ∨
             ((replay 30 l).1 ≠ 0 ∧ e = .returned (.tuple #[.pointer none, .int .i64 (replay 30 l).1])))) := fun a6 c6 W hW hBW => by
          have := replay_good 30 a6 c6 (l.drop k ++ l.take k) W (by omega) (by omega) (by rw [HRL.out]; omega) (fun x hx => HPL.out x (HMEM.out x hx)) ⟨hW, fun x hx => (H1.out.2 x (HMEM.out x hx)).below hBW⟩
          rw [HRL.out, HREQ.out] at this
          exact this
        clear R1 HRND
        generalize (replay 30 l).1 = rc at *
        generalize (replay 30 l).2 = d at *
        generalize wr = wq at *
        go_wp2_with (go_at_call 26; refine HRD.out.mono ?_; rintro e wz ⟨rfl, rfl⟩)
        obtain ⟨i3, hi3, hz0, hz1, hz2⟩ := info_parts Try.info53
        have JI := Lib.hid hi3; have JZ0 := Lib.hid hz0; have JZ1 := Lib.hid hz1; have JZ2 := Lib.hid hz2
        clear hi3 hz0 hz1 hz2
        refine HR1.out.mono ?_
        rintro e w3 ⟨hB3, hcase⟩
        have hs3 := hB3.size
        have HBW3 : Hid (Below w.heap.size w w3) := HBW.out.trans (hB3.mono HBW.out.size)
        have HROW : Hid (HRow w3 (some ⟨b, o, none⟩) l) := H1.out.1.below HBW3.out
        have hb3 : b < w3.heap.size := Nat.lt_of_lt_of_le hbl HBW3.out.size
        have b1 : (0 : Int) ≤ (k : Int) := by omega
        have b2 : (k : Int) ≤ (m : Int) := by omega
        have b3 : (k : Int) ≤ (c : Int) := by omega
        have b4 : (m : Int) ≤ (c : Int) := by omega
        have howA : Hid ((w3.alloc (.cells #[] 53)).ownsRow w3.heap.size 53 7 (.slice (some ⟨w3.heap.size, 0, none⟩) 0 0) 0 []) := World.ownsRow_lit _ _ 0 (Nat.le_refl _) (by unfold maxLen; omega) rfl
        have hBWA : Below w3.heap.size w3 (w3.alloc (.cells #[] 53)) := (Below.refl _ w3).alloc (Nat.le_refl _) _
        have hcl : ∀ (W : World), Below w3.heap.size w3 W → ∀ (jj : Nat) (u : Value), (l.flatMap encH)[jj]? = some u → W.cell? ⟨b, o + jj, none⟩ = some u := fun W hW jj u hu => (hW.cell (p := ⟨b, o + jj, none⟩) hb3).trans (HROW.out.cells jj u hu)
        obtain ⟨adA, hadA, hcellsA⟩ : ∃ ad : Addr, (if c = k then some (⟨b, o, none⟩ : Addr) else some ⟨b, o + k * 7, none⟩) = some ad ∧ ∀ (W : World), Below w3.heap.size w3 W → ∀ (jj : Nat) (u : Value), ((l.drop k).flatMap encH)[jj]? = some u → W.cell? (ad.add jj) = some u := by
          by_cases he : c = k
          · refine ⟨_, if_pos he, fun W hW jj u hu => ?_⟩
            rw [List.drop_eq_nil_of_le (by rw [HM.out]; omega)] at hu
            cases hu
          · refine ⟨_, if_neg he, fun W hW jj u hu => ?_⟩
            rw [flatH_drop _ _ _ (by rw [HM.out]; omega)] at hu
            rw [show (⟨b, o + k * 7, none⟩ : Addr).add jj = ⟨b, o + (k * 7 + jj), none⟩ by rw [show o + (k * 7 + jj) = o + k * 7 + jj by omega]; exact add_none]
            exact hcl W hW _ _ hu
        have htkA : ∀ (W : World), Below w3.heap.size w3 W → ∀ (jj : Nat) (u : Value), ((l.take k).flatMap encH)[jj]? = some u → W.cell? ((⟨b, o, none⟩ : Addr).add jj) = some u := by
          intro W hW jj u hu
          rw [show (⟨b, o, none⟩ : Addr).add jj = ⟨b, o + jj, none⟩ from add_none]
          exact hcl W hW _ _ (flatH_take _ _ _ _ hu)
        have HTKA := Lib.hid htkA; have HCEA := Lib.hid hcellsA
        have hltA : Hid (((l.take k).flatMap encH).length = k * 7) := by show _ = _; rw [flatH_len, List.length_take, HM.out]; omega
        have hldA : Hid (((l.drop k).flatMap encH).length = (m - k) * 7) := by show _ = _; rw [flatH_len, List.length_drop, HM.out]
        have hone : Hid (∀ (L : List HistV), ∀ u ∈ L.flatMap encH, u.oneCell' = true) := fun L u hu => by
          obtain ⟨x, _, hx⟩ := List.mem_flatMap.1 hu
          exact encH_one x u hx
        clear htkA hcellsA hcl HR1
        rcases hcase with ⟨hrc, g1, r1, rfl, _, _, hM1⟩ | ⟨hrc, rfl⟩
        · subst hrc
          have HM1 := Lib.hid hM1
          clear hM1
          go_wp2_with fail
          go_region_held3 (fun _ => True)
            (go_keep)
            (first
             | (go_at_call 34; refine (HR2.out _ _ _ HRO6.out HBW6.out).mono ?_
                rintro e w7 ⟨hB7, hc7⟩
                obtain ⟨g2, r2, rfl, hM2⟩ : ∃ g r, e = .returned (.tuple #[.pointer (some ⟨g, 0, none⟩), .int .i64 0]) ∧ MAt w7 g r 30 d := by
                  rcases hc7 with ⟨_, g, r, h1, _, _, h2⟩ | ⟨h1, _⟩
                  · exact ⟨g, r, h1, h2⟩
                  · exact absurd rfl h1
                have HM2 := Lib.hid hM2
                have HB37 := Lib.hid (hBw6.trans (hB7.mono hBw6.size))
                clear hM2 hc7 hB7)
             | (refine step_append_x (by rfl) _ _ _ (by rfl) w3.heap.size 53 i3 _ 7 88 Try.underlying42 JI.out JZ0.out JZ1.out JZ2.out rfl (by omega) (.slice (some ⟨w3.heap.size, 0, none⟩) 0 0) 0 [] (by simp [Act.eval, Act.put]) (by exact howA.out)
                  (some adA) (m - k) (c - k) ((l.drop k).flatMap encH) (by simp [Act.eval, Act.put]) (by intro h; cases h) hldA.out (by intro ad had; cases had; exact HCEA.out _ (hBWA.drew)) (hone.out _) (by unfold maxLen; omega) (by omega) (by show w3.heap.size ≤ (w3.alloc (.cells #[] 53)).heap.size; simp) ?_
                intro vw5 w5 hownw5 hgrw5 _
                obtain ⟨aw5, cw5, rfl⟩ := own_form hownw5
                have hBw5 : Below w3.heap.size w3 w5 := (hBWA.drew).grown hgrw5 (by show w3.heap.size ≤ (w3.alloc (.cells #[] 53)).heap.size; simp) (fun kk hk => by simp [Value.ownBlock] at hk; omega)
                have HOw5 := Lib.hid hownw5
                clear hownw5 hgrw5)
             | (refine step_append_x (by rfl) _ _ _ (by rfl) w3.heap.size 53 i3 _ 7 88 Try.underlying42 JI.out JZ0.out JZ1.out JZ2.out rfl (by omega) (.slice aw5 (0 + (m - k)) cw5) (0 + (m - k)) _ (by simp [Act.eval, Act.put]) (by exact HOw5.out)
                  (some ⟨b, o, none⟩) k c ((l.take k).flatMap encH) (by simp [Act.eval, Act.put]) (by intro h; cases h) hltA.out (by intro ad had; cases had; exact HTKA.out _ hBw5) (hone.out _) (by unfold maxLen; omega) (by omega) (by have := hBw5.size; omega) ?_
                intro vw6 w6 hownw6 hgrw6 _
                obtain ⟨aw6, cw6, rfl⟩ := own_form hownw6
                have hBw6 : Below w3.heap.size w3 w6 := hBw5.grown hgrw6 (by have := hBw5.size; omega) (fun kk hk => own_ge HOw5.out kk hk)
                have HRO6 : Hid (HRow w6 aw6 (l.drop k ++ l.take k)) := by
                  have := hownw6
                  rw [List.nil_append, ← List.flatMap_append] at this
                  exact (HRow.of_own this).2
                have HBW6 : Hid (Below w.heap.size w w6) := HBW3.out.trans (hBw6.mono HBW3.out.size)
                clear hownw6 hgrw6))
          have HBW7 : Hid (Below w.heap.size w w7) := HBW3.out.trans (HB37.out.mono HBW3.out.size)
          have HN1 := Lib.hid (HM1.out.below HB37.out)
          have SAB := Lib.hid (same_self d ▸ same_any w7 HN1.out HM2.out)
          clear HM1
          go_wp2_with fail
          refine SAB.out.mono ?_
          rintro e w8 ⟨rfl, hB8⟩
          have SBA := Lib.hid (same_self d ▸ same_any w8 (HM2.out.below hB8) (HN1.out.below hB8))
          have HBW8 : Hid (Below w.heap.size w w8) := HBW7.out.trans (hB8.mono HBW7.out.size)
          clear hB8
          go_wp2_with fail
          refine SBA.out.mono ?_
          rintro e w9 ⟨rfl, hB9⟩
          have HBW9 : Hid (Below w.heap.size w w9) := HBW8.out.trans (hB9.mono HBW8.out.size)
          clear hB9
          go_wp2_with fail
          refine (HAW.out _).mono ?_
          rintro e wz ⟨rfl, hBz⟩
          go_wp2
          go_ret
          exact ⟨rfl, HBW9.out.trans (hBz.mono HBW9.out.size)⟩
        · have hrb : (rc == 0) = false := by simpa using hrc
          have hrn' : (rc != 0) = true := by simpa using hrc
          have HRC := Lib.hid hrc
          clear hrc
          go_wp2_with fail
          go_region_held3 (fun _ => True)
            (go_keep)
            (first
             | (go_at_call 34; refine (HR2.out _ _ _ HRO6.out HBW6.out).mono ?_
                rintro e w7 ⟨hB7, hc7⟩
                obtain rfl : e = .returned (.tuple #[.pointer none, .int .i64 rc]) := by
                  rcases hc7 with ⟨h1, _⟩ | ⟨_, h1⟩
                  · exact absurd h1 HRC.out
                  · exact h1
                have HB37 := Lib.hid (hBw6.trans (hB7.mono hBw6.size))
                clear hc7 hB7)
             | (refine step_append_x (by rfl) _ _ _ (by rfl) w3.heap.size 53 i3 _ 7 88 Try.underlying42 JI.out JZ0.out JZ1.out JZ2.out rfl (by omega) (.slice (some ⟨w3.heap.size, 0, none⟩) 0 0) 0 [] (by simp [Act.eval, Act.put]) (by exact howA.out)
                  (some adA) (m - k) (c - k) ((l.drop k).flatMap encH) (by simp [Act.eval, Act.put]) (by intro h; cases h) hldA.out (by intro ad had; cases had; exact HCEA.out _ (hBWA.drew)) (hone.out _) (by unfold maxLen; omega) (by omega) (by show w3.heap.size ≤ (w3.alloc (.cells #[] 53)).heap.size; simp) ?_
                intro vw5 w5 hownw5 hgrw5 _
                obtain ⟨aw5, cw5, rfl⟩ := own_form hownw5
                have hBw5 : Below w3.heap.size w3 w5 := (hBWA.drew).grown hgrw5 (by show w3.heap.size ≤ (w3.alloc (.cells #[] 53)).heap.size; simp) (fun kk hk => by simp [Value.ownBlock] at hk; omega)
                have HOw5 := Lib.hid hownw5
                clear hownw5 hgrw5)
             | (refine step_append_x (by rfl) _ _ _ (by rfl) w3.heap.size 53 i3 _ 7 88 Try.underlying42 JI.out JZ0.out JZ1.out JZ2.out rfl (by omega) (.slice aw5 (0 + (m - k)) cw5) (0 + (m - k)) _ (by simp [Act.eval, Act.put]) (by exact HOw5.out)
                  (some ⟨b, o, none⟩) k c ((l.take k).flatMap encH) (by simp [Act.eval, Act.put]) (by intro h; cases h) hltA.out (by intro ad had; cases had; exact HTKA.out _ hBw5) (hone.out _) (by unfold maxLen; omega) (by omega) (by have := hBw5.size; omega) ?_
                intro vw6 w6 hownw6 hgrw6 _
                obtain ⟨aw6, cw6, rfl⟩ := own_form hownw6
                have hBw6 : Below w3.heap.size w3 w6 := hBw5.grown hgrw6 (by have := hBw5.size; omega) (fun kk hk => own_ge HOw5.out kk hk)
                have HRO6 : Hid (HRow w6 aw6 (l.drop k ++ l.take k)) := by
                  have := hownw6
                  rw [List.nil_append, ← List.flatMap_append] at this
                  exact (HRow.of_own this).2
                have HBW6 : Hid (Below w.heap.size w w6) := HBW3.out.trans (hBw6.mono HBW3.out.size)
                clear hownw6 hgrw6))
          have HBW7 : Hid (Below w.heap.size w w7) := HBW3.out.trans (HB37.out.mono HBW3.out.size)
          go_wp2_with fail
          refine (HAW.out _).mono ?_
          rintro e wz ⟨rfl, hBz⟩
          go_wp2
          go_ret
          exact ⟨rfl, HBW7.out.trans (hBz.mono HBW7.out.size)⟩
end Go.Proofs.Ytdgnhimiamchmaa
