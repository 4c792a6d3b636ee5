import Derived.Test.YtpohncdabngifaaRef2
namespace Go.Proofs.Ytpohncdabngifaa
open Go.RowKit
open BigFrame

/-- the least worn of a list, the first of them -/
def mstep (zs : List Z) (acc : Option Nat) (x : Nat) : Option Nat :=
  match acc with
  | none => some x
  | some k => if wear zs x < wear zs k then some x else some k
def mfold (zs : List Z) (l : List Nat) : Option Nat := l.foldl (mstep zs) none
theorem mfold_snoc (zs : List Z) (l : List Nat) (x : Nat) : mfold zs (l ++ [x]) = mstep zs (mfold zs l) x := by simp [mfold]
theorem mfold_bst (zs : List Z) (n : Nat) : mfold zs (frees zs n) = bst zs n := by
  induction n with
  | zero => rfl
  | succ n ih =>
    by_cases ht : tk zs n = true
    · rw [frees_succ_t _ _ ht, bst_t _ _ ht, ih]
    · have hf : tk zs n = false := by simpa using ht
      rw [frees_succ_f _ _ hf, mfold_snoc, ih]
      cases hb : bst zs n with
      | none => rw [bst_first _ _ hf hb]; rfl
      | some c =>
        by_cases hw : wear zs c ≤ wear zs n
        · rw [bst_keep _ _ _ hb hw]; simp only [mstep]; rw [if_neg (by omega)]
        · rw [bst_new _ _ _ hf hb hw]; simp only [mstep]; rw [if_pos (by omega)]
theorem frees_mem (zs : List Z) (n i x : Nat) (h : (frees zs n)[i]? = some x) : x < n := by
  induction n generalizing i with
  | zero => simp [frees] at h
  | succ n ih =>
    by_cases ht : tk zs n = true
    · rw [frees_succ_t _ _ ht] at h; have := ih i h; omega
    · rw [frees_succ_f _ _ (by simpa using ht)] at h
      rw [List.getElem?_append] at h
      split at h
      · have := ih i h; omega
      · have hm := List.mem_of_getElem? h
        simp at hm; omega
theorem rtake_none (g b1 b2 : Nat) (zs : List Z) (sp : Int) (r : Bool) (w : World) (hA : RefAt w g b1 b2 zs sp) (hbad : Bad (cnt zs) sp r) :
    Calls Try.prog 16 #[.pointer (some ⟨g, 0, none⟩), .bool r] w fun e w' => e = .returned (.tuple #[.int .i64 0, .int .i64 9]) ∧ Below w.heap.size w w' := by
  have hl := Lib.hid (rlist_any g b1 b2 zs sp w hA)
  rcases hbad with h0 | ⟨rfl, hle⟩
  · go_enter Try.func16, Try.ntmps16
    go_wp2_with fail
    refine hl.out.mono ?_
    rintro e w2 ⟨v, rfl, hB, hown⟩
    rw [show (frees zs zs.length).length = 0 from h0] at hown
    obtain ⟨a, c, rfl⟩ := own_form hown
    clear hl hA h0 hown
    go_wp2
    go_ret2
    exact ⟨rfl, hB⟩
  · by_cases h0 : cnt zs = 0
    · go_enter Try.func16, Try.ntmps16
      go_wp2_with fail
      refine hl.out.mono ?_
      rintro e w2 ⟨v, rfl, hB, hown⟩
      rw [show (frees zs zs.length).length = 0 from h0] at hown
      obtain ⟨a, c, rfl⟩ := own_form hown
      clear hl hA h0 hown
      go_wp2
      go_ret2
      exact ⟨rfl, hB⟩
    · go_enter Try.func16, Try.ntmps16
      go_wp2_with fail
      refine hl.out.mono ?_
      rintro e w2 ⟨v, rfl, hB, hown⟩
      have d2 : w2.cell? ⟨g, 2, none⟩ = some (.int .i64 sp) := cell_heap (hA.below hB).hg rfl
      rw [show (frees zs zs.length).length = cnt zs from rfl] at hown
      obtain ⟨a, c, rfl⟩ := own_form hown
      have t1 : ((cnt zs : Int) == 0) = false := by simpa using h0
      clear hl hA h0 hown
      generalize cnt zs = n at *
      go_wp2
      go_ret2
      exact ⟨rfl, hB⟩

set_option maxHeartbeats 1000000 in
theorem rtake_some (g b1 b2 : Nat) (zs : List Z) (sp : Int) (r : Bool) (w : World) (m : Nat) (hA : RefAt w g b1 b2 zs sp) (hpos : 0 < cnt zs) (hok : r = true ∨ sp < (cnt zs : Int)) (hm : bst zs zs.length = some m) :
    Calls Try.prog 16 #[.pointer (some ⟨g, 0, none⟩), .bool r] w fun e w' => e = .returned (.tuple #[.int .i64 (m : Nat), .int .i64 0]) ∧ RefAt w' g b1 b2 (zs.set m (true, wear zs m)) sp ∧ Chg (fun k => k = b1 ∨ k = b2) w w' := by
  have hl := Lib.hid (rlist_any g b1 b2 zs sp w hA)
  have hok' : r = true ∨ r = false ∧ decide ((cnt zs : Int) ≤ sp) = false := by
    cases r with
    | true => exact Or.inl rfl
    | false => right; refine ⟨rfl, ?_⟩; rcases hok with h1 | h1; cases h1; simp; exact h1
  clear hok
  have hn64 := hA.hn
  have hcl : cnt zs ≤ zs.length := frees_len zs zs.length
  have t1 : ((cnt zs : Int) == 0) = false := by simp; omega
  have HM := Lib.hid hm; clear hm
  have HA := Lib.hid hA; clear hA
  rcases hok' with rfl | ⟨rfl, hle⟩
  all_goals
    go_enter Try.func16, Try.ntmps16
    go_wp2_with fail
    refine hl.out.mono ?_
    rintro e w2 ⟨v, rfl, hB, hown⟩
    rw [show (frees zs zs.length).length = cnt zs from rfl] at hown
    obtain ⟨a, c, rfl⟩ := own_form hown
    have hrd := (rd_of_own hown).2
    have hRD := Lib.hid hrd
    have hF : ∀ i, i < cnt zs → ∃ x, (frees zs zs.length)[i]? = some x ∧ x < zs.length := fun i hi => by
      have : i < (frees zs zs.length).length := hi
      exact ⟨_, List.getElem?_eq_getElem this, frees_mem zs _ i _ (List.getElem?_eq_getElem this)⟩
    have HF := Lib.hid hF; clear hF
    have hHl : Hid ((frees zs zs.length).length = cnt zs) := rfl
    have hHm : Hid (mfold zs (frees zs zs.length) = some m) := (mfold_bst zs zs.length).trans HM.out
    clear hown hrd hl
    generalize frees zs zs.length = F at *
    generalize cnt zs = n at *
    obtain ⟨x0, hx0, hx0l⟩ := HF.out 0 hpos
    obtain ⟨b, o, rfl, hb, d0⟩ := hRD.out 0 x0 hx0
    rw [Nat.add_zero] at d0
    have d2 : w2.cell? ⟨g, 2, none⟩ = some (.int .i64 sp) := cell_heap (HA.out.below hB).hg rfl
    have HX0 := Lib.hid hx0; clear hx0
    have hn0 : (0 : Int) < n := by omega
    have HRB := Lib.hid (HA.out.below hB)
    go_wp2_with fail
    go_loopw [7, 8] (fun kv iv wr => ∃ (i k : Nat), i ≤ n ∧ iv = .int .i64 i ∧ kv = .int .i64 k ∧ k < zs.length ∧ mfold zs (F.take (max i 1)) = some k ∧ Below w2.heap.size w2 wr) (fun _ iv _ => n - (intOf iv).toNat)
    case atStart =>
      refine ⟨0, x0, Nat.zero_le _, rfl, rfl, hx0l, ?_, Below.refl _ _⟩
      have := HX0.out
      cases F with
      | nil => simp at this
      | cons y F => simp at this; subst this; rfl
    case round =>
      clear d0 d2
      obtain ⟨i, k, hi, rfl, rfl, hkl, hk, hW⟩ := hrel
      have HK := Lib.hid hk; clear hk
      have HR := Lib.hid (HRB.out.below hW)
      have d1 : wr.cell? ⟨g, 1, none⟩ = some (.slice (some ⟨b2, 0, none⟩) zs.length zs.length) := cell_heap HR.out.hg rfl
      have d0 : wr.cell? ⟨g, 0, none⟩ = some (.slice (some ⟨b1, 0, none⟩) zs.length zs.length) := cell_heap HR.out.hg rfl
      have dk := cell_heap HR.out.h2 (wrs_get zs k hkl)
      by_cases hlt : i < n
      · obtain ⟨x, hx, hxl⟩ := HF.out i hlt
        obtain ⟨b', o', he, hb', dx⟩ := hRD.out i x hx
        simp at he
        obtain ⟨rfl, rfl⟩ := he
        have dx' := (hW.cell (p := ⟨b, o + i, none⟩) hb').trans dx
        have dxw := cell_heap HR.out.h2 (wrs_get zs x hxl)
        have hxl' : (x : Int) < zs.length := by omega
        have hkl' : (k : Int) < zs.length := by omega
        have hnext : Hid (mfold zs (F.take (max (i + 1) 1)) = (if wear zs x < wear zs k then some x else some k)) := by
          show mfold zs (F.take (max (i + 1) 1)) = _
          have hk := HK.out
          by_cases h0 : i = 0
          · subst h0
            have h1 := HX0.out
            rw [h1] at hx
            cases hx
            have e1 : max (0 + 1) 1 = max 0 1 := rfl
            rw [e1, hk]
            cases F with
            | nil => simp at h1
            | cons y F =>
              simp at h1
              subst h1
              have : some y = some k := hk
              cases this
              rw [if_neg (by omega)]
          · have e1 : max (i + 1) 1 = i + 1 := by omega
            have e2 : max i 1 = i := by omega
            rw [e1, List.take_add_one, hx, Option.toList_some, mfold_snoc]
            rw [e2] at hk
            rw [hk]
            rfl
        clear hx dx
        by_cases hw : wear zs x < wear zs k
        · have hw' : decide (wear zs x < wear zs k) = true := by simp [hw]
          go_wp2_with fail
          go_quiet (fail)
          go_wp2
          go_roundw
          case rel => exact ⟨i + 1, x, by omega, by go_num, rfl, hxl, by rw [hnext.out, if_pos hw], below_drewN hW _⟩
          case measure => simp [intOf]; omega
        · have hw' : decide (wear zs x < wear zs k) = false := by simp; omega
          go_wp2_with fail
          go_quiet (fail)
          go_wp2
          go_roundw
          case rel => exact ⟨i + 1, k, by omega, by go_num, rfl, hkl, by rw [hnext.out, if_neg (by omega)], below_drewN hW _⟩
          case measure => simp [intOf]; omega
      · have hin : i = n := by omega
        have hkm : k = m := by
          have h1 := HK.out
          rw [show max i 1 = n by omega, ← hHl.out, List.take_length, hHm.out] at h1
          cases h1; rfl
        subst hkm
        have dt := cell_heap HR.out.h1 (isf_get zs k hkl)
        have ft : wr.frozen? ⟨b1, k, none⟩ = false := free_heap HR.out.h1
        have hkl' : (k : Int) < zs.length := by omega
        go_wp2
        go_ret2
        refine ⟨rfl, ⟨?_, ?_, ?_, HA.out.n1, HA.out.n2, HA.out.n3, by simpa using HA.out.hn⟩, (Chg.of_below (S := fun k => k = b1 ∨ k = b2) (below_below hB hW (Nat.le_refl _))).setCell (p := ⟨b1, _, none⟩) (Or.inl (Or.inl rfl)) _⟩
        · rw [set_heap_ne HA.out.n1.symm, HR.out.hg]; simp
        · rw [set_heap HR.out.h1]; exact congrArg (fun l : List Value => some (Obj.cells l.toArray 4 (0, 0))) (isf_set zs k true (wear zs k))
        · rw [set_heap_ne HA.out.n3.symm, HR.out.h2, wrs_own]
end Go.Proofs.Ytpohncdabngifaa
