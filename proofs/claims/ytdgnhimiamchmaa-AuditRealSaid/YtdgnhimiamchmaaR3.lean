import Derived.Test.YtdgnhimiamchmaaR2
namespace Go.Proofs.Ytdgnhimiamchmaa
open Go.RowKit
open BigFrame Lib

theorem conv_any {w : World} {b o n c : Nat} {l : List Int} (hl : l.length = n) (h : Rd u8 w (some ⟨b, o, none⟩) l) : (convert 35 9 (.slice (some ⟨b, o, none⟩) n c)).run Try.prog w = .ok (.string (strOfNums l)) w :=
  run_convert_bytes_arg w 35 5 Try.underlying35 Try.underlying5 b o n c l hl (fun i hi => by
    have hx : l[i]? = some (l[i]'(by omega)) := List.getElem?_eq_getElem _
    obtain ⟨b', o', e1, _, h3⟩ := h i _ hx
    cases e1
    rw [h3, List.getD_eq_getElem?_getD, hx]; rfl) 9 (by kernel_rfl)

set_option maxRecDepth 100000 in
theorem samePuts_any (a1 a2 : Option Addr) (c1 c2 : Nat) (l1 l2 : List PutV) (w : World) (hn : l1.length ≤ 140737488351232) (h1 : PutsAt w a1 l1) (h2 : PutsAt w a2 l2) (he : l1.map lv = l2.map lv) (h40 : ∀ x ∈ l1, x.d.length = 40) :
    Calls Try.prog 31 #[.slice a1 l1.length c1, .slice a2 l2.length c2] w fun e w' => e = .returned (.bool true) ∧ Below w.heap.size w w' := by
  have hl : l2.length = l1.length := by have := congrArg List.length he; simpa using this.symm
  rw [hl]
  have H1 := Lib.hid h1; have H2 := Lib.hid h2; have HE := Lib.hid he; have H40 := Lib.hid h40; have HL := Lib.hid hl; clear h1 h2 he h40 hl
  have t1 : ((l1.length : Int) != (l1.length : Int)) = false := by simp
  generalize hm : l1.length = n at *
  have HM := Lib.hid hm; clear hm
  go_enter Try.func31, Try.ntmps31
  go_wp2_with fail
  go_loopw [5] (fun iv wr => ∃ i : Nat, i ≤ n ∧ iv = .int .i64 i ∧ Below w.heap.size w wr) (fun iv _ => n - (intOf iv).toNat)
  case atStart => exact ⟨0, Nat.zero_le _, rfl, Below.refl _ _⟩
  case round =>
    obtain ⟨i, hi, rfl, hB⟩ := hrel
    by_cases hlt : i < n
    · have hx : l1[i]? = some (l1[i]'(by rw [HM.out]; exact hlt)) := List.getElem?_eq_getElem _
      generalize l1[i]'(by rw [HM.out]; exact hlt) = x at hx
      have hy : l2[i]? = some (l2[i]'(by rw [HL.out]; exact hlt)) := List.getElem?_eq_getElem _
      generalize l2[i]'(by rw [HL.out]; exact hlt) = y at hy
      have hxy : lv x = lv y := by
        have h3 : (l1.map lv)[i]? = (l2.map lv)[i]? := by rw [HE.out]
        rw [List.getElem?_map, List.getElem?_map, hx, hy] at h3
        simpa using h3
      obtain ⟨b1, o1, rfl, e1, d1, d2, d3⟩ := H1.out.below hB i x hx
      obtain ⟨b2, o2, rfl, e2, f1, f2, f3⟩ := H2.out.below hB i y hy
      have hx40 := H40.out x (List.mem_of_getElem? hx)
      obtain ⟨xl, xa, xc, xd⟩ := x
      obtain ⟨yl, ya, yc, yd⟩ := y
      simp only [lv, Prod.mk.injEq] at hxy
      obtain ⟨rfl, rfl⟩ := hxy
      simp only at hx40 d1 d2 f1 f2
      rw [hx40] at d2 f2
      obtain ⟨b3, o3, rfl, _⟩ := d3.2.2.2.2.head (by show 0 < xd.length; omega)
      obtain ⟨b4, o4, rfl, _⟩ := f3.2.2.2.2.head (by show 0 < xd.length; omega)
      have cv1 : ∀ k, (convert 35 9 (.slice (some ⟨b3, o3, none⟩) 40 xc)).run Try.prog (wr.drewN k) = .ok (.string (strOfNums xd)) (wr.drewN k) := fun k => conv_any hx40 (d3.2.2.2.2.below (below_drewN (Below.refl _ _) k))
      have cv2 : ∀ k, (convert 35 9 (.slice (some ⟨b4, o4, none⟩) 40 yc)).run Try.prog (wr.drewN k) = .ok (.string (strOfNums xd)) (wr.drewN k) := fun k => conv_any hx40 (f3.2.2.2.2.below (below_drewN (Below.refl _ _) k))
      generalize strOfNums xd = s at *
      have t2 : (xl != xl) = false := by simp
      clear hx hy d3 f3 hx40
      go_wp2_with fail
      go_quiet (fail)
      go_wp2
      go_roundw
      case rel => exact ⟨i + 1, by omega, by go_num, below_drewN hB _⟩
      case measure => simp [intOf]; omega
    · go_wp2
      go_ret
      exact ⟨rfl, hB⟩
end Go.Proofs.Ytdgnhimiamchmaa
