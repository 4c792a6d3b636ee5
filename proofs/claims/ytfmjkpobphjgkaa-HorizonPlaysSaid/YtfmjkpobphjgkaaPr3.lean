import Derived.Test.YtfmjkpobphjgkaaPr1
namespace Go.Proofs.Ytfmjkpobphjgkaa
open Go.RowKit
open BigFrame Lib

theorem news_take {w W : World} {ob q : Nat} {xs : List Int} (H : ∀ jj v, xs[jj]? = some v → W.cell? ⟨ob, jj, none⟩ = some (.int .i64 v)) : ∀ ad, (some (⟨ob, 0, none⟩ : Addr)) = some ad → ∀ (jj : Nat) (u : Value), ((xs.take q).map zi)[jj]? = some u → W.cell? (ad.add jj) = some u := by
  rintro ad had jj u hu
  cases had
  rw [List.getElem?_map, List.getElem?_take] at hu
  split at hu
  · cases hv : xs[jj]? with
    | none => rw [hv] at hu; cases hu
    | some v =>
      rw [hv] at hu; cases hu
      rw [show (⟨ob, 0, none⟩ : Addr).add jj = ⟨ob, 0 + jj, none⟩ from add_none, Nat.zero_add]
      exact H _ v hv
  · cases hu
theorem news_drop {ob q oc : Nat} {xs : List Int} (hlen : xs.length ≤ oc) : ∃ ad : Addr, (if oc = q + 1 then some (⟨ob, 0, none⟩ : Addr) else some ⟨ob, q + 1, none⟩) = some ad ∧ ∀ W : World, (∀ jj v, xs[jj]? = some v → W.cell? ⟨ob, jj, none⟩ = some (.int .i64 v)) → ∀ ad', some ad = some ad' → ∀ (jj : Nat) (u : Value), ((xs.drop (q + 1)).map zi)[jj]? = some u → W.cell? (ad'.add jj) = some u := by
  by_cases he : oc = q + 1
  · refine ⟨_, if_pos he, fun W H ad' had jj u hu => ?_⟩
    rw [List.getElem?_map, List.getElem?_drop, List.getElem?_eq_none (by omega)] at hu
    cases hu
  · refine ⟨_, if_neg he, fun W H ad' had jj u hu => ?_⟩
    cases had
    rw [List.getElem?_map, List.getElem?_drop] at hu
    cases hv : xs[q + 1 + jj]? with
    | none => rw [hv] at hu; cases hu
    | some v =>
      rw [hv] at hu; cases hu
      rw [show (⟨ob, q + 1, none⟩ : Addr).add jj = ⟨ob, q + 1 + jj, none⟩ from add_none]
      exact H _ v hv
theorem one_cellsB {l : List Int} : ∀ u ∈ l.map zi, u.oneCell' = true := by
  intro u hu; obtain ⟨x, _, rfl⟩ := List.mem_map.1 hu; rfl
theorem ts_lenB (D : BD) : (ts D).length = D.length := by simp [ts]

set_option maxRecDepth 100000 in
set_option maxHeartbeats 800000 in
theorem rclose_any {B g : Nat} {most last : Int} {D : BD} {ov tv : Value} (k : Int) (w : World) (hR : RefB B w g most last D ov tv) (hBw : B ≤ w.heap.size) :
    Calls Try.prog 13 #[.pointer (some ⟨g, 0, none⟩), .int .i64 k] w fun e w' => e = .returned (.int .i64 (if (tm D k).isSome then 0 else 14)) ∧ Chg (· = g) w w' ∧ ∃ ov' tv', RefB B w' g most last (cl D k) ov' tv' := by
  have PL := Lib.hid (place_any k w hR)
  have hlen := hR.pure.len
  have hl1 := hR.pure.l1
  have HN := Lib.hid hR.pure.nodup
  have HR := Lib.hid hR
  cases ht : tm D k with
  | none =>
    have hcl : Hid (cl D k = D) := cl_none ht
    have HT := Lib.hid ht
    clear ht hR
    simp only [Option.isSome_none, Bool.false_eq_true, if_false]
    go_enter Try.func13, Try.ntmps13
    go_wp2_with fail
    refine PL.out.mono ?_
    rintro e w1 ⟨⟨i, rfl, hi⟩, rfl⟩
    have hi2 : i = -1 := by
      rcases hi with ⟨h1, _⟩ | ⟨q, p, h1, hp, he⟩
      · exact h1
      · have := tm_at HN.out q p hp
        rw [he, HT.out] at this; cases this
    subst hi2
    clear hi
    go_wp2
    go_ret
    exact ⟨rfl, Chg.refl _ _, ov, tv, by rw [hcl.out]; exact HR.out⟩
  | some t =>
    have HT := Lib.hid ht
    clear ht
    simp only [Option.isSome_some, if_true]
    have c1 := hR.c1
    have c2 := hR.c2
    have hg := lt_heap hR.cell
    obtain ⟨oa, oc, rfl⟩ := own_form hR.ho
    obtain ⟨ta, tc, rfl⟩ := own_form hR.tmo
    clear hR
    generalize hdl : D.length = dl at *
    have HDL := Lib.hid hdl; clear hdl
    obtain ⟨i3, hi0, hz0, hz1, hz2⟩ := info_parts info3P
    have JI := Lib.hid hi0; have JZ0 := Lib.hid hz0; have JZ1 := Lib.hid hz1; have JZ2 := Lib.hid hz2
    clear hi0 hz0 hz1 hz2
    go_enter Try.func13, Try.ntmps13
    go_wp2_with fail
    refine PL.out.mono ?_
    rintro e w1 ⟨⟨i, rfl, hi⟩, rfl⟩
    obtain ⟨q, p, rfl, hp, he⟩ : ∃ (q : Nat) (p : Int × Int), i = q ∧ D[q]? = some p ∧ p.1 = k := by
      rcases hi with ⟨_, hn⟩ | h
      · have := HT.out
        rw [hn] at this; cases this
      · exact h
    have hcl : Hid (cl D k = D.take q ++ D.drop (q + 1)) := by show _ = _; rw [← he]; exact cl_at HN.out q p hp
    have hq : q < dl := by have := (List.getElem?_eq_some_iff.1 hp).1; rw [HDL.out] at this; exact this
    clear hi hp he
    obtain ⟨ob, hoa, hob1, hob2, hob3, hob4, hobc⟩ := row_slot (HDL.out ▸ HR.out.ho) (by omega)
    obtain ⟨tb, hta, htb1, htb2, htb3, htb4, htbc⟩ := row_slot (HDL.out ▸ HR.out.tmo) (by omega)
    subst hoa; subst hta
    have HOBC := Lib.hid hobc; have HTBC := Lib.hid htbc
    have hobg : ob ≠ g := by
      rintro rfl
      exact own_no HR.out.ho (noRow_type HR.out.cell (by decide)) rfl
    have htbg : tb ≠ g := by
      rintro rfl
      exact own_no HR.out.tmo (noRow_type HR.out.cell (by decide)) rfl
    clear hobc htbc
    have b1 : (0 : Int) ≤ (q : Int) := by omega
    have b2 : (q : Int) ≤ (dl : Int) := by omega
    have b3 : (q : Int) ≤ (oc : Int) := by omega
    have b4 : (q : Int) ≤ (tc : Int) := by omega
    have hwr : IntKind.i64.wrap ((q : Int) + 1) = (q : Int) + 1 := by rw [IntKind.wrap_i64]; omega
    have hp0 : (0 : Int) ≤ (q : Int) + 1 := by omega
    have hp1 : (q : Int) + 1 ≤ (dl : Int) := by omega
    have hp2 : ((q : Int) + 1).toNat = q + 1 := by omega
    have b9 : (dl : Int) ≤ (oc : Int) := by omega
    have b10 : (dl : Int) ≤ (tc : Int) := by omega
    obtain ⟨adA, hadA, hceA⟩ := news_drop (ob := ob) (q := q) (oc := oc) (xs := hs D) (by rw [hs_len, HDL.out]; exact hob3)
    obtain ⟨adB, hadB, hceB⟩ := news_drop (ob := tb) (q := q) (oc := tc) (xs := ts D) (by rw [ts_lenB, HDL.out]; exact htb3)
    have HCEA := Lib.hid hceA; have HCEB := Lib.hid hceB
    have hltA : Hid ((((hs D).take q).map zi).length = q * 1) := by show _ = _; simp only [List.length_map, List.length_take, hs_len, HDL.out]; omega
    have hldA : Hid ((((hs D).drop (q + 1)).map zi).length = (dl - (q + 1)) * 1) := by show _ = _; simp only [List.length_map, List.length_drop, hs_len, HDL.out]; omega
    have hltB : Hid ((((ts D).take q).map zi).length = q * 1) := by show _ = _; simp only [List.length_map, List.length_take, ts_lenB, HDL.out]; omega
    have hldB : Hid ((((ts D).drop (q + 1)).map zi).length = (dl - (q + 1)) * 1) := by show _ = _; simp only [List.length_map, List.length_drop, ts_lenB, HDL.out]; omega
    clear hceA hceB
    go_wp2_with (at_builtin; refine wpList_append_x rfl _ _ 27 rfl w.heap.size 3 i3 (.int .i64 0) 1 8 Try.underlying27 JI.out JZ0.out JZ1.out JZ2.out rfl (by decide) _ _ _ rfl (World.ownsRow_nil _ _ _ _) (some ⟨ob, 0, none⟩) q oc (((hs D).take q).map zi) rfl (by simp) hltA.out (news_take (w := w) HOBC.out) one_cellsB (by unfold maxLen; omega) (by omega) (Nat.le_refl _) ?_)
    intro v5 w5 hown5 hgr5 hb5
    have hB5 : Below w.heap.size w w5 := (Below.refl _ w).grown hgr5 (Nat.le_refl _) (fun kk hk => by simp [Value.ownBlock] at hk)
    have hs5 := hB5.size
    have hv5 : ∀ b, v5.ownBlock = some b → b = w.heap.size := by
      intro b hb
      rcases hb5 with h | h
      · rw [h] at hb; simp [Value.ownBlock] at hb
      · rw [h] at hb; cases hb; rfl
    have HV5 := Lib.hid hv5; have HO5 := Lib.hid hown5
    have c2' := (hB5.cell (p := ⟨g, 2, none⟩) hg).trans c2
    have HTB5 : Hid (∀ jj v, (ts D)[jj]? = some v → w5.cell? ⟨tb, jj, none⟩ = some (.int .i64 v)) := fun jj v hv => (hB5.cell (p := ⟨tb, jj, none⟩) htb2).trans (HTBC.out jj v hv)
    clear hgr5 hown5 hv5 hb5 c1 c2
    go_wp2_with (at_builtin; refine wpList_append_x rfl _ _ 27 rfl w5.heap.size 3 i3 (.int .i64 0) 1 8 Try.underlying27 JI.out JZ0.out JZ1.out JZ2.out rfl (by decide) _ _ _ rfl (World.ownsRow_nil _ _ _ _) (some ⟨tb, 0, none⟩) q tc (((ts D).take q).map zi) rfl (by simp) hltB.out (news_take (w := w) HTB5.out) one_cellsB (by unfold maxLen; omega) (by omega) (Nat.le_refl _) ?_)
    intro v6 w6 hown6 hgr6 hb6
    have hB56 : Below w5.heap.size w5 w6 := (Below.refl _ w5).grown hgr6 (Nat.le_refl _) (fun kk hk => by simp [Value.ownBlock] at hk)
    have hB6 : Below w.heap.size w w6 := hB5.trans (hB56.mono hs5)
    have hs56 := hB56.size
    have hv6 : ∀ b, v6.ownBlock = some b → b = w5.heap.size := by
      intro b hb
      rcases hb6 with h | h
      · rw [h] at hb; simp [Value.ownBlock] at hb
      · rw [h] at hb; cases hb; rfl
    have HV6 := Lib.hid hv6; have HO6 := Lib.hid hown6
    have HO56 := Lib.hid (own_below HO5.out hB56)
    have c1'' := (hB6.cell (p := ⟨g, 1, none⟩) hg).trans HR.out.c1
    have HOB6 : Hid (∀ jj v, (hs D)[jj]? = some v → w6.cell? ⟨ob, jj, none⟩ = some (.int .i64 v)) := fun jj v hv => (hB6.cell (p := ⟨ob, jj, none⟩) hob2).trans (HOBC.out jj v hv)
    have HCELL6 : Hid (w6.heap[g]? = some (.cells ([.int .i64 most, .slice (some ⟨ob, 0, none⟩) dl oc, .slice (some ⟨tb, 0, none⟩) dl tc, .int .i64 last] : List Value).toArray 29 (0, 0))) := by
      exact (hB6.block g hg).trans HR.out.cell
    obtain ⟨a5, c5, rfl⟩ := own_form HO56.out
    obtain ⟨a6, c6, rfl⟩ := own_form HO6.out
    clear hgr6 hown6 hv6 hb6 c2' hB56
    go_wp2_with (at_builtin; refine wpList_append_x rfl _ _ 27 rfl w.heap.size 3 i3 (.int .i64 0) 1 8 Try.underlying27 JI.out JZ0.out JZ1.out JZ2.out rfl (by decide) _ _ _ rfl HO56.out (some adA) (dl - (q + 1)) (oc - (q + 1)) (((hs D).drop (q + 1)).map zi) rfl (by simp) hldA.out (HCEA.out w6 HOB6.out) one_cellsB (by unfold maxLen; omega) (by omega) (by omega) ?_)
    intro v7 w7 hown7 hgr7 hb7
    obtain ⟨a7, c7, rfl⟩ := own_form hown7
    have hB7 : Below w.heap.size w w7 := hB6.grown hgr7 (by omega) (fun kk hk => by have := HV5.out kk hk; omega)
    have HC67 : Hid (Chg (fun k => (Value.slice a5 q c5).ownBlock = some k) w6 w7) := Chg.grown (Chg.refl _ _) hgr7 (fun k h => .inl h)
    have hne56 : (Value.slice a6 q c6).ownBlock = none ∨ (Value.slice a6 q c6).ownBlock ≠ (Value.slice a5 q c5).ownBlock := by
      cases h6 : (Value.slice a6 q c6).ownBlock with
      | none => exact .inl rfl
      | some b6 =>
        refine .inr (fun e => ?_)
        have h1 := HV6.out b6 h6
        have h2 := HV5.out b6 e.symm
        have h3 := (own_lt HO5.out b6 e.symm).1
        omega
    have HO67 := Lib.hid (HO6.out.kept hgr7 hne56)
    have HO7 := Lib.hid hown7
    have hv7 : ∀ b, (Value.slice a7 (q + (dl - (q + 1))) c7).ownBlock = some b → (b = w.heap.size ∧ w.heap.size < w5.heap.size) ∨ b = w6.heap.size := by
      intro b hb
      rcases hb7 with h | h
      · rw [h] at hb
        have := HV5.out b hb
        have h3 := (own_lt HO5.out b hb).1
        exact .inl ⟨this, by omega⟩
      · rw [h] at hb; cases hb; exact .inr rfl
    have HV7 := Lib.hid hv7
    have hs7 := hB7.size
    have HCELL7 : Hid (w7.heap[g]? = some (.cells ([.int .i64 most, .slice (some ⟨ob, 0, none⟩) dl oc, .slice (some ⟨tb, 0, none⟩) dl tc, .int .i64 last] : List Value).toArray 29 (0, 0))) := (HC67.out.block g (lt_heap HCELL6.out) (fun e => by have := HV5.out g e; omega)).trans HCELL6.out
    have k7 : w7.cell? ⟨g, 1, none⟩ = some (.slice (some ⟨ob, 0, none⟩) dl oc) := cell_heap HCELL7.out rfl
    have f7 : w7.frozen? ⟨g, 1, none⟩ = false := free_heap HCELL7.out
    have hcell8 : (w7.setCell ⟨g, 1, none⟩ (Value.slice a7 (q + (dl - (q + 1))) c7)).heap[g]? = some (.cells ([.int .i64 most, (Value.slice a7 (q + (dl - (q + 1))) c7), .slice (some ⟨tb, 0, none⟩) dl tc, .int .i64 last] : List Value).toArray 29 (0, 0)) := set_heap HCELL7.out
    have hC78 : Chg (· = g) w7 (w7.setCell ⟨g, 1, none⟩ (Value.slice a7 (q + (dl - (q + 1))) c7)) := Chg.setCell (S := (· = g)) (Chg.refl _ _) (p := ⟨g, 1, none⟩) (.inl rfl) _
    have HO8 := Lib.hid (own_chg HO7.out hC78 (fun b hb e => own_no HO7.out (by rw [e]; exact noRow_type HCELL7.out (by decide)) hb))
    have HO68 := Lib.hid (own_chg HO67.out hC78 (fun b hb e => own_no HO67.out (by rw [e]; exact noRow_type HCELL7.out (by decide)) hb))
    have HTB8 : Hid (∀ jj v, (ts D)[jj]? = some v → (w7.setCell ⟨g, 1, none⟩ (Value.slice a7 (q + (dl - (q + 1))) c7)).cell? ⟨tb, jj, none⟩ = some (.int .i64 v)) := fun jj v hv =>
      (World.cell?_of_block (a := ⟨tb, jj, none⟩) (hC78.block tb (by omega) htbg)).trans ((hB7.cell (p := ⟨tb, jj, none⟩) htb2).trans (HTBC.out jj v hv))
    have k8 : (w7.setCell ⟨g, 1, none⟩ (Value.slice a7 (q + (dl - (q + 1))) c7)).cell? ⟨g, 2, none⟩ = some (.slice (some ⟨tb, 0, none⟩) dl tc) := cell_heap hcell8 rfl
    have HC8 : Hid (Chg (· = g) w (w7.setCell ⟨g, 1, none⟩ (Value.slice a7 (q + (dl - (q + 1))) c7))) := (Chg.of_below hB7).trans hC78
    have hs78 := hC78.size
    have hs67 := HC67.out.size
    have HCELL8 := Lib.hid hcell8
    clear hgr7 hown7 hv7 hb7 hC78 hne56 c1'' hcell8
    go_wp2_with (at_builtin; refine wpList_append_x rfl _ _ 27 rfl w5.heap.size 3 i3 (.int .i64 0) 1 8 Try.underlying27 JI.out JZ0.out JZ1.out JZ2.out rfl (by decide) _ _ _ rfl HO68.out (some adB) (dl - (q + 1)) (tc - (q + 1)) (((ts D).drop (q + 1)).map zi) rfl (by simp) hldB.out (HCEB.out _ HTB8.out) one_cellsB (by unfold maxLen; omega) (by omega) (by omega) ?_)
    intro v9 w9 hown9 hgr9 hb9
    obtain ⟨a9, c9, rfl⟩ := own_form hown9
    have hs8' : (w7.setCell ⟨g, 1, none⟩ (Value.slice a7 (q + (dl - (q + 1))) c7)).heap.size = w7.heap.size := by simp [World.setCell]
    have HC89 : Hid (Chg (fun k => (Value.slice a6 q c6).ownBlock = some k) (w7.setCell ⟨g, 1, none⟩ (Value.slice a7 (q + (dl - (q + 1))) c7)) w9) := Chg.grown (Chg.refl _ _) hgr9 (fun k h => .inl h)
    have hne76 : (Value.slice a7 (q + (dl - (q + 1))) c7).ownBlock = none ∨ (Value.slice a7 (q + (dl - (q + 1))) c7).ownBlock ≠ (Value.slice a6 q c6).ownBlock := by
      cases h7 : (Value.slice a7 (q + (dl - (q + 1))) c7).ownBlock with
      | none => exact .inl rfl
      | some b7 =>
        refine .inr (fun e => ?_)
        have h1 := HV6.out b7 e.symm
        have h3 := (own_lt HO6.out b7 e.symm).1
        rcases HV7.out b7 h7 with h | h <;> omega
    have HO79 := Lib.hid (HO8.out.kept hgr9 hne76)
    have HO9 := Lib.hid hown9
    have HCELL9 : Hid (w9.heap[g]? = some (.cells ([.int .i64 most, (Value.slice a7 (q + (dl - (q + 1))) c7), .slice (some ⟨tb, 0, none⟩) dl tc, .int .i64 last] : List Value).toArray 29 (0, 0))) := (HC89.out.block g (lt_heap HCELL8.out) (fun e => by have := HV6.out g e; omega)).trans HCELL8.out
    have k9 : w9.cell? ⟨g, 2, none⟩ = some (.slice (some ⟨tb, 0, none⟩) dl tc) := cell_heap HCELL9.out rfl
    have f9 : w9.frozen? ⟨g, 2, none⟩ = false := free_heap HCELL9.out
    have hcell10 : (w9.setCell ⟨g, 2, none⟩ (Value.slice a9 (q + (dl - (q + 1))) c9)).heap[g]? = some (.cells ([.int .i64 most, (Value.slice a7 (q + (dl - (q + 1))) c7), (Value.slice a9 (q + (dl - (q + 1))) c9), .int .i64 last] : List Value).toArray 29 (0, 0)) := set_heap HCELL9.out
    have hC910 : Chg (· = g) w9 (w9.setCell ⟨g, 2, none⟩ (Value.slice a9 (q + (dl - (q + 1))) c9)) := Chg.setCell (S := (· = g)) (Chg.refl _ _) (p := ⟨g, 2, none⟩) (.inl rfl) _
    have hlnD : (D.take q ++ D.drop (q + 1)).length = q + (dl - (q + 1)) := by simp only [List.length_append, List.length_take, List.length_drop, HDL.out]; omega
    have hho10 := own_chg HO79.out hC910 (fun b hb e => own_no HO79.out (by rw [e]; exact noRow_type HCELL9.out (by decide)) hb)
    have htm10 := own_chg HO9.out hC910 (fun b hb e => own_no HO9.out (by rw [e]; exact noRow_type HCELL9.out (by decide)) hb)
    have HFIN : Hid (RefB B (w9.setCell ⟨g, 2, none⟩ (Value.slice a9 (q + (dl - (q + 1))) c9)) g most last (D.take q ++ D.drop (q + 1)) (Value.slice a7 (q + (dl - (q + 1))) c7) (Value.slice a9 (q + (dl - (q + 1))) c9)) := by
      refine ⟨hcell10, ?_, ?_, HR.out.bg, ?_⟩
      · rw [hlnD]
        have e : (hs (D.take q ++ D.drop (q + 1))).map zi = ((hs D).map zi).take q ++ ((hs D).map zi).drop (q + 1) := by simp [hs, List.map_take, List.map_drop]
        rw [e]
        simpa using own_base hho10 (show B ≤ w.heap.size from hBw)
      · rw [hlnD]
        have e : (ts (D.take q ++ D.drop (q + 1))).map zi = ((ts D).map zi).take q ++ ((ts D).map zi).drop (q + 1) := by simp [ts, List.map_take, List.map_drop]
        rw [e]
        simpa using own_base htm10 (show B ≤ w5.heap.size by omega)
      · rw [← hcl.out]; exact HR.out.pure.close k
    have HCF : Hid (Chg (· = g) w (w9.setCell ⟨g, 2, none⟩ (Value.slice a9 (q + (dl - (q + 1))) c9))) := by
      have h1 : Chg (· = g) w w9 := Chg.grown HC8.out hgr9 (fun kk hk => .inr (by have := HV6.out kk hk; omega))
      exact h1.trans hC910
    clear hgr9 hown9 hb9 hC910 hne76 hcell10 hho10 htm10 hlnD
    go_wp2
    go_ret
    exact ⟨rfl, HCF.out, _, _, by rw [hcl.out]; exact HFIN.out⟩
end Go.Proofs.Ytfmjkpobphjgkaa
