import Derived.Lib.SliceRun
import Derived.Test.YtdgnhimiamchmaaB
namespace Go.Proofs.Ytdgnhimiamchmaa
open Go.RowKit
open BigFrame Lib

set_option maxHeartbeats 400000 in
/-- slices.Equal -/
theorem equal_any (a1 a2 : Option Addr) (c1 c2 : Nat) (l1 l2 : List Int) (w : World) (hn : l1.length ≤ 4096) (h1 : Rd u8 w a1 l1) (h2 : Rd u8 w a2 l2) :
    Calls Try.prog 47 #[.slice a1 l1.length c1, .slice a2 l2.length c2] w fun e w' => e = .returned (.bool (decide (l1 = l2))) ∧ Below w.heap.size w w' := by
  have H1 := Lib.hid h1; have H2 := Lib.hid h2; clear h1 h2
  by_cases hl : l1.length = l2.length
  · rw [← hl]
    have t1 : ((l1.length : Int) != (l1.length : Int)) = false := by simp
    have HL := Lib.hid hl; clear hl
    generalize hm : l1.length = n at *
    have HM := Lib.hid hm; clear hm
    go_enter Try.func47, Try.ntmps47
    go_wp2_with fail
    go_loopw [13] (fun iv wr => ∃ i : Nat, i ≤ n ∧ iv = .int .i64 i ∧ Below w.heap.size w wr ∧ l1.take i = l2.take i) (fun iv _ => n - (intOf iv).toNat)
    case atStart => exact ⟨0, Nat.zero_le _, rfl, Below.refl _ _, rfl⟩
    case round =>
      obtain ⟨i, hi, rfl, hB, ht⟩ := hrel
      have HT := Lib.hid ht; clear ht
      by_cases hlt : i < n
      · have hx : l1[i]? = some (l1[i]'(by rw [HM.out]; exact hlt)) := List.getElem?_eq_getElem _
        generalize l1[i]'(by rw [HM.out]; exact hlt) = x at hx
        have hy : l2[i]? = some (l2[i]'(by rw [← HL.out]; exact hlt)) := List.getElem?_eq_getElem _
        generalize l2[i]'(by rw [← HL.out]; exact hlt) = y at hy
        obtain ⟨b1, o1, rfl, e1, d1⟩ := H1.out.below hB i x hx
        obtain ⟨b2, o2, rfl, e2, d2⟩ := H2.out.below hB i y hy
        simp only [u8] at d1 d2
        have HX := Lib.hid hx; have HY := Lib.hid hy; clear hx hy
        by_cases hxy : x = y
        · subst hxy
          have t2 : (x != x) = false := by simp
          go_wp2_with fail
          go_quiet (fail)
          go_wp2
          go_roundw
          case rel => exact ⟨i + 1, by omega, by go_num, below_drewN hB _, by rw [List.take_add_one, List.take_add_one, HT.out, HX.out, HY.out]⟩
          case measure => simp [intOf]; omega
        · have t2 : (x != y) = true := by simpa using hxy
          have hne : Hid (decide (l1 = l2) = false) := by
            show _ = _
            apply decide_eq_false
            intro e
            have := HX.out
            rw [e, HY.out] at this
            cases this
            exact hxy rfl
          clear hxy
          go_wp2_with fail
          go_quiet (fail)
          go_wp2
          go_ret
          exact ⟨by rw [hne.out]; rfl, below_drewN hB _⟩
      · have he : Hid (decide (l1 = l2) = true) := by
          show _ = _
          apply decide_eq_true
          have := HT.out
          rwa [List.take_of_length_le (by rw [HM.out]; omega), List.take_of_length_le (by rw [← HL.out]; omega)] at this
        go_wp2
        go_ret
        exact ⟨by rw [he.out]; rfl, hB⟩
  · have t1 : ((l1.length : Int) != (l2.length : Int)) = true := by simp; omega
    have hne : Hid (decide (l1 = l2) = false) := decide_eq_false (fun e => hl (by rw [e]))
    clear hl
    go_enter Try.func47, Try.ntmps47
    go_wp2
    go_ret
    exact ⟨by rw [hne.out]; rfl, Below.refl _ _⟩

/-- the predicate of noughts -/
theorem nz_any (x : Int) (w : World) : Calls Try.prog 66 #[.int .u8 x] w fun e w' => e = .returned (.bool (x != 0)) ∧ w = w' := by
  go_enter Try.func66, Try.ntmps66
  go_wp2
  go_ret
  exact ⟨rfl, rfl⟩

def allz (l : List Int) : Bool := l.all fun x => x == 0
/-- the first that is not 0, or -1 -/
def nzi (l : List Int) : Int := match l.findIdx? fun x => x != 0 with | some i => i | none => -1

set_option maxHeartbeats 400000 in
theorem idx_any (a : Option Addr) (c : Nat) (l : List Int) (w : World) (hn : l.length ≤ 4096) (h1 : Rd u8 w a l) :
    Calls Try.prog 82 #[.slice a l.length c, .func (.func 66) #[] #[]] w fun e w' => (∃ i : Int, e = .returned (.int .i64 i) ∧ (0 ≤ i ↔ allz l = false) ∧ -1 ≤ i ∧ i ≤ 4096) ∧ Below w.heap.size w w' := by
  have H1 := Lib.hid h1; clear h1
  generalize hm : l.length = n at *
  have HM := Lib.hid hm; clear hm
  go_enter Try.func82, Try.ntmps82
  go_wp2_with fail
  go_loopw [8] (fun iv wr => ∃ i : Nat, i ≤ n ∧ iv = .int .i64 i ∧ Below w.heap.size w wr ∧ allz (l.take i) = true) (fun iv _ => n - (intOf iv).toNat)
  case atStart => exact ⟨0, Nat.zero_le _, rfl, Below.refl _ _, rfl⟩
  case round =>
    obtain ⟨i, hi, rfl, hB, ht⟩ := hrel
    have HT := Lib.hid ht; clear ht
    by_cases hlt : i < n
    · have hx : l[i]? = some (l[i]'(by rw [HM.out]; exact hlt)) := List.getElem?_eq_getElem _
      generalize l[i]'(by rw [HM.out]; exact hlt) = x at hx
      obtain ⟨b1, o1, rfl, e1, d1⟩ := H1.out.below hB i x hx
      simp only [u8] at d1
      have HX := Lib.hid hx; clear hx
      have hp := Lib.hid (nz_any x)
      by_cases h0 : x = 0
      · subst h0
        go_wp2_with (go_at_call 66; refine (hp.out _).mono ?_; rintro e w' ⟨rfl, rfl⟩)
        go_roundw
        case rel => exact ⟨i + 1, by omega, by go_num, hB, by rw [List.take_add_one, HX.out]; simp only [allz, List.all_append]; rw [show (l.take i).all (fun x => x == 0) = true from HT.out]; rfl⟩
        case measure => simp [intOf]; omega
      · have t2 : (x != 0) = true := by simpa using h0
        have hz : Hid (allz l = false) := by
          show _ = _
          unfold allz
          rw [List.all_eq_false]
          exact ⟨x, List.mem_of_getElem? HX.out, by simpa using h0⟩
        clear h0
        go_wp2_with (go_at_call 66; refine (hp.out _).mono ?_; rintro e w' ⟨rfl, rfl⟩)
        go_ret
        exact ⟨⟨i, rfl, by simp [hz.out], by omega, by omega⟩, hB⟩
    · have hz : Hid (allz l = true) := by
        show _ = _
        have := HT.out
        rwa [List.take_of_length_le (by rw [HM.out]; omega)] at this
      go_wp2
      go_ret
      exact ⟨⟨-1, rfl, by simp [hz.out], by omega, by omega⟩, hB⟩

theorem cont_any (a : Option Addr) (c : Nat) (l : List Int) (w : World) (hn : l.length ≤ 4096) (h1 : Rd u8 w a l) :
    Calls Try.prog 65 #[.slice a l.length c, .func (.func 66) #[] #[]] w fun e w' => e = .returned (.bool (!allz l)) ∧ Below w.heap.size w w' := by
  have h := Lib.hid (idx_any a c l w hn h1)
  clear h1
  go_enter Try.func65, Try.ntmps65
  go_wp2_with fail
  refine h.out.mono ?_
  rintro e w1 ⟨⟨i, rfl, hi, h2, h3⟩, hB⟩
  by_cases h0 : 0 ≤ i
  · have hz := Lib.hid (hi.1 h0)
    clear hi
    go_wp2
    go_ret
    exact ⟨by rw [hz.out]; rfl, hB⟩
  · have hz : Hid (allz l = true) := by
      show _ = _
      cases h5 : allz l with
      | true => rfl
      | false => exact (h0 (hi.2 h5)).elim
    clear hi
    have h6 : decide (0 ≤ i) = false := by simpa using h0
    have h7 : i < 0 := by omega
    go_wp2
    go_ret
    exact ⟨by rw [hz.out]; rfl, hB⟩

set_option maxRecDepth 100000 in
theorem noughts_any (a : Option Addr) (c : Nat) (l : List Int) (w : World) (hn : l.length ≤ 4096) (h1 : Rd u8 w a l) :
    Calls Try.prog 45 #[.slice a l.length c] w fun e w' => e = .returned (.bool (allz l)) ∧ Below w.heap.size w w' := by
  have h := Lib.hid (cont_any a c l w hn h1)
  clear h1
  go_enter Try.func45, Try.ntmps45
  go_wp2_with fail
  refine h.out.mono ?_
  rintro e w1 ⟨rfl, hB⟩
  go_wp2
  go_ret
  exact ⟨by simp, hB⟩

set_option maxRecDepth 100000 in
theorem clone_nil (w : World) : Calls Try.prog 44 #[.slice none 0 0] w fun e w' => e = .returned (.slice none 0 0) ∧ w = w' := by
  have E := Lib.hid (run_eql_slice_nil (P := Try.prog) w 35 5 none 0 0 0 0 Try.underlying35)
  go_enter Try.func44, Try.ntmps44
  go_wp2_with fail
  rw [E.out]
  go_wp2_with fail
  go_ret
  exact ⟨rfl, rfl⟩

set_option maxRecDepth 100000 in
theorem clone_some (ad : Addr) (c : Nat) (l : List Int) (w : World) (hn : l.length ≤ 4096) (h1 : Rd u8 w (some ad) l) :
    Calls Try.prog 44 #[.slice (some ad) l.length c] w fun e w' => ∃ a' c', e = .returned (.slice a' l.length c') ∧ Below w.heap.size w w' ∧ w'.ownsRow w.heap.size 5 1 (.slice a' l.length c') l.length (l.map u8) := by
  obtain ⟨i0, hi, hz0, hz1, hz2⟩ := info_parts Try.info5
  have hnews : ∀ (j : Nat) (u : Value), (l.map u8)[j]? = some u → (w.alloc (.cells #[] 5)).cell? (ad.add j) = some u := by
    intro j u hu
    rw [List.getElem?_map] at hu
    cases hl : l[j]? with
    | none => rw [hl] at hu; cases hu
    | some x =>
      rw [hl] at hu
      cases hu
      obtain ⟨b, o, he, hb, hc⟩ := h1 j x hl
      cases he
      rw [show ((⟨b, o, none⟩ : Addr).add j) = ⟨b, o + j, none⟩ by unfold Addr.add; split; (rename_i h0; subst h0; rfl); rfl]
      rw [World.cell?_alloc_past _ _ _ hb]; exact hc
  have HN := Lib.hid hnews
  clear hnews h1
  have how : (w.alloc (.cells #[] 5)).ownsRow w.heap.size 5 1 (.slice (some ⟨w.heap.size, 0, none⟩) 0 0) 0 [] := World.ownsRow_lit _ _ 0 (Nat.le_refl _) (by unfold maxLen; omega) rfl
  have HOW := Lib.hid how; clear how
  generalize hm : l.length = n at *
  have HM := Lib.hid hm; clear hm
  have E := Lib.hid (run_eql_slice_nil (P := Try.prog) w 35 5 (some ad) n c 0 0 Try.underlying35)
  go_enter Try.func44, Try.ntmps44
  go_wp2_with fail
  rw [E.out]
  go_wp2_with (at_builtin; refine wpList_append_own _ rfl _ _ 35 rfl w.heap.size 5 i0 (.int .u8 0) 1 1 Try.underlying35 hi hz0 hz1 hz2 rfl (by decide) _ _ _ rfl HOW.out ad n c (l.map u8) rfl ?c0 HN.out ?c2 ?c3 ?c4 ?c5 ?_)
  case c0 => simp [HM.out]
  case c2 => intro u hu; obtain ⟨x, _, rfl⟩ := List.mem_map.1 hu; rfl
  case c3 => unfold maxLen; omega
  case c4 => omega
  case c5 => simp
  intro v' w1 hown hgr _
  obtain ⟨a', c', rfl⟩ := own_form hown
  have hB : Below w.heap.size w w1 := ((Below.refl _ w).alloc (Nat.le_refl _) _).grown hgr (by simp) (fun k hk => by simp [Value.ownBlock] at hk; omega)
  have HW := Lib.hid hown
  clear hown hgr
  go_wp2
  go_ret
  exact ⟨a', c', rfl, hB, HW.out⟩
end Go.Proofs.Ytdgnhimiamchmaa
