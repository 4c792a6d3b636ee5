import Derived.BigRegion
import Derived.Test.YtglkbkocdeimiaaSm
namespace Go.Proofs.Ytglkbkocdeimiaa
open Go.RowKit
open BigFrame Lib

theorem rdAt_append (l : List AV) (x : AV) (t : Int) : rdAt (l ++ [x]) t = if x.1 ≤ t then x else rdAt l t := by
  unfold rdAt
  rw [List.filter_append]
  by_cases h : x.1 ≤ t
  · rw [if_pos h]; simp [h]
  · rw [if_neg h]; simp [h]
theorem rdAt_nil (t : Int) : rdAt [] t = (0, zeros) := rfl
theorem zeros_len : zeros.length = 40 := rfl

/-- what lies in a cell of want: where, and what it is -/
structure WE where
  a : Option Addr
  c : Nat
  d : List Int
instance : Inhabited WE := ⟨⟨none, 0, []⟩⟩
def vW (e : WE) : Value := .slice e.a e.d.length e.c
structure Wnt (w0 w : World) (wb : Nat) (es : List WE) : Prop where
  cell : w.heap[wb]? = some (.cells (es.map vW).toArray 36 (0, 0))
  len : es.length = 20
  ok : ∀ e ∈ es, Rd u8 w0 e.a e.d ∧ (e.d = [] ∨ e.d.length = 40)
def want (es : List WE) (k : Int) : List Int := (es.getD k.toNat default).d
def shown (d : List Int) : List Int := if d = [] then zeros else d
/-- what the law holds against what is read -/
def Agree (A : Int → List AV) (t : Int) (es : List WE) : Prop := ∀ k : Int, 0 ≤ k → k < 20 → (rdAt (A k) t).2 = shown (want es k)

/-- one put laid into want -/
def wput (es : List WE) (p : PutV) : List WE := es.set p.lba.toNat ⟨p.a, p.c, p.d⟩
def wputs (es : List WE) (l : List PutV) : List WE := l.foldl wput es
theorem wputs_step (es : List WE) (l : List PutV) (i : Nat) (x : PutV) (h : l[i]? = some x) : wputs es (l.take (i + 1)) = wput (wputs es (l.take i)) x := by
  unfold wputs; rw [List.take_add_one, h, List.foldl_append]; rfl
theorem wput_len (es : List WE) (p : PutV) : (wput es p).length = es.length := by simp [wput]
theorem wputs_len : ∀ (l : List PutV) (es : List WE), (wputs es l).length = es.length
  | [], _ => rfl
  | p :: l, es => by show (wputs (wput es p) l).length = _; rw [wputs_len l, wput_len]
theorem want_wput (es : List WE) (p : PutV) (k : Int) (hl : es.length = 20) (h0 : 0 ≤ p.lba) (h1 : p.lba < 20) (hk0 : 0 ≤ k) : want (wput es p) k = if k = p.lba then p.d else want es k := by
  unfold want wput
  rw [List.getD_eq_getElem?_getD, List.getD_eq_getElem?_getD, List.getElem?_set]
  by_cases e : k = p.lba
  · subst e
    rw [if_pos rfl, if_pos rfl, if_pos (by omega)]; rfl
  · rw [if_neg (by omega), if_neg e]
theorem wputs_other : ∀ (l : List PutV) (es : List WE) (k : Int), es.length = 20 → (∀ x ∈ l, 0 ≤ x.lba ∧ x.lba < 20) → 0 ≤ k → k ∉ l.map (·.lba) → want (wputs es l) k = want es k
  | [], _, _, _, _, _, _ => rfl
  | p :: l, es, k, hl, hr, h0, hk => by
    simp only [List.map_cons, List.mem_cons, not_or] at hk
    show want (wputs (wput es p) l) k = _
    rw [wputs_other l _ k (by rw [wput_len]; exact hl) (fun x hx => hr x (by simp [hx])) h0 hk.2, want_wput es p k hl (hr p (by simp)).1 (hr p (by simp)).2 h0, if_neg hk.1]
theorem wputs_mem {l : List PutV} (h : Rises l) (es : List WE) (hl : es.length = 20) (hr : ∀ x ∈ l, 0 ≤ x.lba ∧ x.lba < 20) (i : Nat) (x : PutV) (hx : l[i]? = some x) : want (wputs es l) x.lba = x.d := by
  have e : l = l.take i ++ x :: l.drop (i + 1) := by
    obtain ⟨hi, rfl⟩ := List.getElem?_eq_some_iff.1 hx
    rw [← List.drop_eq_getElem_cons hi, List.take_append_drop]
  have hxl := hr x (List.mem_of_getElem? hx)
  conv => lhs; rw [e]
  unfold wputs
  rw [List.foldl_append, List.foldl_cons]
  show want (wputs (wput (wputs es (l.take i)) x) (l.drop (i + 1))) x.lba = _
  have hl2 : (wputs es (l.take i)).length = 20 := by rw [wputs_len]; exact hl
  rw [wputs_other _ _ _ (by rw [wput_len]; exact hl2) (fun y hy => hr y (List.mem_of_mem_drop hy)) hxl.1 (rises_late h i x hx), want_wput _ x _ hl2 hxl.1 hxl.2 hxl.1, if_pos rfl]

/-- what was applied at a time that is looked at is laid into want; what was applied later is not -/
theorem Agree.later {A : Int → List AV} {t s : Int} {es : List WE} {l : List PutV} (h : Agree A t es) (hR : Rises l) (hs : t < s) : Agree (addA s A l) t es := by
  intro k h0 h1
  rcases addA_cases hR s A k with e | ⟨x, hx, rfl, e⟩
  · rw [e]; exact h k h0 h1
  · rw [e, rdAt_append, if_neg (by show ¬ s ≤ t; omega)]; exact h _ h0 h1
theorem Agree.now {A : Int → List AV} {t s : Int} {es : List WE} {l : List PutV} (h : Agree A t es) (hl : es.length = 20) (hR : Rises l) (hr : ∀ x ∈ l, 0 ≤ x.lba ∧ x.lba < 20) (hd : ∀ x ∈ l, x.d.length = 40) (hs : s ≤ t) :
    Agree (addA s A l) t (wputs es l) := by
  intro k h0 h1
  by_cases hk : k ∈ l.map (·.lba)
  · obtain ⟨x, hx, rfl⟩ := List.mem_map.1 hk
    obtain ⟨i, hi⟩ := List.getElem?_of_mem hx
    rw [addA_mem hR s A i x hi, rdAt_append, if_pos (show s ≤ t from hs), wputs_mem hR es hl hr i x hi]
    have := hd x hx
    unfold shown
    rw [if_neg (by intro e; rw [e] at this; cases this)]
  · rw [addA_other s l A k hk, wputs_other l es k hl hr h0 hk]
    exact h k h0 h1

theorem Wnt.chg {S : Nat → Prop} {w0 w w' : World} {wb : Nat} {es : List WE} (h : Wnt w0 w wb es) (hC : Chg S w w') (hS : ¬ S wb) : Wnt w0 w' wb es :=
  ⟨(hC.block wb (lt_heap h.cell) hS).trans h.cell, h.len, h.ok⟩
theorem Wnt.get {w0 w : World} {wb : Nat} {es : List WE} (h : Wnt w0 w wb es) (k : Nat) (hk : k < 20) : ∃ e, es[k]? = some e ∧ w.cell? ⟨wb, k, none⟩ = some (vW e) ∧ want es k = e.d ∧ Rd u8 w0 e.a e.d ∧ (e.d = [] ∨ e.d.length = 40) := by
  have hl : k < es.length := by rw [h.len]; exact hk
  refine ⟨es[k], List.getElem?_eq_getElem hl, ?_, ?_, h.ok _ (List.getElem_mem hl)⟩
  · exact cell_heap h.cell (by rw [List.getElem?_map, List.getElem?_eq_getElem hl]; rfl)
  · unfold want
    rw [Int.toNat_natCast, List.getD_eq_getElem?_getD, List.getElem?_eq_getElem hl]; rfl
theorem Wnt.put {w0 w : World} {wb : Nat} {es : List WE} {p : PutV} (h : Wnt w0 w wb es) (hR : Rd u8 w0 p.a p.d) (hd : p.d.length = 40) : Wnt w0 (w.setCell ⟨wb, p.lba.toNat, none⟩ (.slice p.a p.d.length p.c)) wb (wput es p) := by
  refine ⟨?_, by rw [wput_len]; exact h.len, fun e he => ?_⟩
  · rw [set_heap h.cell]
    unfold wput
    rw [List.map_set]; rfl
  · rcases List.mem_or_eq_of_mem_set he with he | rfl
    · exact h.ok e he
    · exact ⟨hR, .inr hd⟩
open Classical in
theorem acode_facts {n last t : Int} {A : Int → List AV} {l : List PutV} (h : acode n last t l = 0) (hp : ExPure n t (addA t A l)) : last < t ∧ Rises l ∧ (∀ x ∈ l, 0 ≤ x.lba ∧ x.lba < n) ∧ ∀ x ∈ l, x.d.length = 40 := by
  unfold acode at h
  split at h
  · cases h
  rename_i h1
  split at h
  · cases h
  rename_i h2
  have hR : Rises l := Classical.not_not.1 h2
  refine ⟨by omega, hR, fun x hx => ?_, fun x hx => ?_⟩
  · obtain ⟨i, hi⟩ := List.getElem?_of_mem hx
    apply Classical.byContradiction
    intro hn
    have := hp.out x.lba hn
    rw [addA_mem hR t A i x hi] at this
    simp at this
  · obtain ⟨i, hi⟩ := List.getElem?_of_mem hx
    have := hp.len x.lba (t, x.d) (by rw [addA_mem hR t A i x hi]; simp)
    exact this
theorem Try.info36 : (Try.prog.info? 36).map (fun i => (i.zero, i.size, i.bytes)) = some (some (.slice none 0 0), 1, 24) := by kernel_rfl
theorem mk20 (W : World) : (Instr.makeSlice 29 (.int .i64 20) (.int .i64 20)).run Try.prog W = .ok (.slice (some ⟨W.heap.size, 0, none⟩) 20 20) (W.alloc (.cells ((List.replicate 20 (default : WE)).map vW).toArray 36)) := by
  have := make_run (P := Try.prog) (T := 29) (E := 36) (fun _ : Unit => [Value.slice none 0 0]) () Try.underlying29 Try.info36 rfl rfl (by omega) 20 (by omega) (by omega) W
  exact this

set_option maxRecDepth 100000 in
set_option maxHeartbeats 1000000 in
theorem snaps_any (a : Option Addr) (c : Nat) (l : List StV) (t : Int) (w : World) (hn : l.length ≤ 9223372036854775807) (ht0 : -9223372036854775808 ≤ t) (ht1 : t ≤ 9223372036854775807) (h1 : StepsAt w a l) :
    Calls Try.prog 3 #[.slice a l.length c, .int .i64 t] w fun e w' => e = .returned (.bool true) ∧ Below w.heap.size w w' := by
  have HAW := Lib.hid awake_any
  have H1 := Lib.hid h1
  have SM := Lib.hid (small_any a c l w hn h1)
  clear h1
  generalize hq : l.length = m at *
  have HM := Lib.hid hq; clear hq
  go_enter Try.func3, Try.ntmps3
  go_wp2_with fail
  refine SM.out.mono ?_
  rintro e w1 ⟨⟨b, rfl, hb⟩, hB1⟩
  cases b with
  | false =>
    clear hb
    go_wp2_with fail
    refine (HAW.out _).mono ?_
    rintro e w2 ⟨rfl, hB2⟩
    go_wp2
    go_ret
    exact ⟨rfl, hB1.trans (hB2.mono hB1.size)⟩
  | true =>
    have HSM := Lib.hid (hb rfl)
    have hm100 : m ≤ 100 := (hb rfl).1
    clear hb
    go_wp2_with fail
    refine (xnew_good w.heap.size 20 _ (by omega) (by omega) hB1.size).mono ?_
    rintro e w2 ⟨rfl, hB2, hX2⟩
    have HX2 := Lib.hid hX2; clear hX2
    go_wp2_with fail
    rw [mk20]
    have hs1 := hB1.size
    have hs2 := hB2.size
    have hW3 : Wnt w (w2.alloc (.cells ((List.replicate 20 (default : WE)).map vW).toArray 36)) w2.heap.size (List.replicate 20 default) :=
      ⟨alloc_new rfl, by simp, fun e he => by rw [List.eq_of_mem_replicate he]; exact ⟨Rd.nil _ _ _, .inl rfl⟩⟩
    have hX3 : ExAt w.heap.size (w2.alloc (.cells ((List.replicate 20 (default : WE)).map vW).toArray 36)) (w1.heap.size + 1) w1.heap.size 20 0 (fun _ => []) := HX2.out.below ((Below.refl _ w2).alloc (Nat.le_refl _) _)
    have hB3 : Below w.heap.size w (w2.alloc (.cells ((List.replicate 20 (default : WE)).map vW).toArray 36)) := (hB1.trans (hB2.mono hs1)).alloc (by omega) _
    have hA3 : Agree (fun _ => []) t (List.replicate 20 (default : WE)) := by
      intro k h0 h1
      have : want (List.replicate 20 (default : WE)) k = [] := by
        unfold want
        rw [List.getD_eq_getElem?_getD, List.getElem?_replicate]
        split <;> rfl
      rw [this]; rfl
    have HW3 := Lib.hid hW3; have HX3 := Lib.hid hX3; have HA3 := Lib.hid hA3
    clear hW3 hX3 hA3
    have hwb : w.heap.size ≤ w2.heap.size := by omega
    generalize w2.alloc (.cells ((List.replicate 20 (default : WE)).map vW).toArray 36) = w3 at *
    generalize w1.heap.size = r at *
    generalize w2.heap.size = wb at *
    go_wp2_with fail
    go_loopw [8] (fun iv wr => ∃ i : Nat, i ≤ m ∧ iv = .int .i64 i ∧ Below w.heap.size w wr ∧ ∃ last A es, ExAt w.heap.size wr (r + 1) r 20 last A ∧ Wnt w wr wb es ∧ Agree A t es) (fun iv _ => m - (intOf iv).toNat)
    case atStart => exact ⟨0, Nat.zero_le _, rfl, hB3, 0, _, _, HX3.out, HW3.out, HA3.out⟩
    case round =>
      obtain ⟨i, hi, rfl, hB, last, A, es, hX, hW, hAg⟩ := hrel
      have HX := Lib.hid hX; have HW := Lib.hid hW; have HAG := Lib.hid hAg
      clear hX hW hAg
      by_cases hlt : i < m
      · have hx : l[i]? = some (l[i]'(by rw [HM.out]; exact hlt)) := List.getElem?_eq_getElem _
        generalize l[i]'(by rw [HM.out]; exact hlt) = x at hx
        obtain ⟨b, o, rfl, e1, d0, d1, d2, _, d4⟩ := H1.out.below hB i x hx
        have hxl := HSM.out.2 x (List.mem_of_getElem? hx)
        have HX1 := Lib.hid hx
        have D4 := Lib.hid d4
        clear hx d4
        by_cases hk1 : x.kind = 1
        · have AP := Lib.hid (apply_any (l := x.l) x.time x.a x.c wr (by omega) D4.out.2.1.1 D4.out.2.1.2 (fun W _ hBW => by
            obtain ⟨b', o', _, _, _, _, _, _, q⟩ := H1.out.below (hB.trans hBW) i x HX1.out
            exact q.2.2.2.1) HX.out hB.size)
          rw [hk1] at d0
          clear hk1
          go_wp2_with fail
          refine AP.out.mono ?_
          rintro e w5 ⟨rfl, hC5, hB5, hX5⟩
          have hnw : ¬ (wb = r + 1 ∨ S70 r wr wb) := by
            rintro (e | e | ⟨cur, e⟩)
            · have h1 := HX.out.cell; rw [← e, HW.out.cell] at h1; simp at h1
            · obtain ⟨mm, EE, hE, _⟩ := HX.out.ex
              obtain ⟨es1, cl, hb, _⟩ := hE.map
              rw [← e, HW.out.cell] at hb; cases hb
            · rw [HW.out.cell] at e; cases e
          have HW5 := Lib.hid (HW.out.chg hC5 hnw)
          have HBw : Hid (Below w.heap.size w w5) := hB.trans hB5
          clear hnw hC5
          by_cases hc : acode 20 last x.time x.l = 0
          · rw [hc] at hX5 ⊢
            rw [if_pos rfl, if_pos rfl] at hX5
            have hf := acode_facts hc hX5.pure
            have HF := Lib.hid hf
            have HX5 := Lib.hid hX5
            clear hc hX5 hf
            obtain ⟨b', o', eb, e15, _, d15, d25, _, d45⟩ := H1.out.below HBw.out i x HX1.out
            cases eb
            have D45 := Lib.hid d45.2.2.2.1
            clear d45 d0 d1 d2
            have hst := Lib.hid d15; have hsp := Lib.hid d25
            have hmp : x.l.length ≤ 20000 := hxl
            generalize hq : x.l.length = mp at *
            have HMP := Lib.hid hq; clear hq
            have hmp2 := Lib.hid hmp
            clear hst hsp d15 d25
            go_wp2_with fail
            go_loopw [9] (fun kv wr2 => ∃ j : Nat, j ≤ mp ∧ kv = .int .i64 j ∧ Chg (· = wb) w5 wr2 ∧ Wnt w wr2 wb (wputs es (x.l.take j)) ∧ (x.time ≤ t ∨ j = 0)) (fun kv _ => mp - (intOf kv).toNat)
            case atStart => exact ⟨0, Nat.zero_le _, rfl, Chg.refl _ _, HW5.out, .inr rfl⟩
            case round =>
              obtain ⟨j, hj, rfl, hC6, hW6, hor⟩ := hrel
              have HC6 := Lib.hid hC6; have HW6 := Lib.hid hW6
              clear hC6 hW6
              have hBr : Below w.heap.size w wr := below_chg HBw.out HC6.out (by have := HBw.out.size; omega) (fun k hk => by omega)
              obtain ⟨b6, o6, eb6, e6, _, f1, f2, _, _, q2, _, q4, _⟩ := H1.out.below hBr i x HX1.out
              cases eb6
              rw [HMP.out] at f2
              have HBr := Lib.hid hBr
              by_cases hcont : j < mp ∧ x.time ≤ t
              · obtain ⟨hjl, htt⟩ := hcont
                have hy : x.l[j]? = some (x.l[j]'(by rw [HMP.out]; exact hjl)) := List.getElem?_eq_getElem _
                generalize x.l[j]'(by rw [HMP.out]; exact hjl) = y at hy
                obtain ⟨b7, o7, ea7, e7, g0, g1, g2⟩ := q4 j y hy
                have hmem := List.mem_of_getElem? hy
                have hyr := HF.out.2.2.1 y hmem
                have hyl := HF.out.2.2.2 y hmem
                have t3 : decide (x.time ≤ t) = true := by simpa using htt
                rw [ea7] at f2
                have hyr0 := hyr.1
                have hyr1 := hyr.2
                obtain ⟨kl, hkl⟩ : ∃ kl : Nat, y.lba = kl := ⟨y.lba.toNat, by omega⟩
                obtain ⟨we, _, hwc, _⟩ := HW6.out.get kl (by omega)
                have hfz : wr.frozen? ⟨wb, kl, none⟩ = false := free_heap HW6.out.cell
                have hput := HW6.out.put (p := y) (by
                  obtain ⟨b8, o8, eb8, _, _, _, _, _, q8⟩ := H1.out i x HX1.out
                  obtain ⟨_, _, _, _, _, _, q9⟩ := q8.2.2.2.1 j y hy
                  exact q9.2.2.2.2) hyl
                rw [hyl, hkl, Int.toNat_natCast] at hput
                have HPUT := Lib.hid hput
                have HY := Lib.hid hy
                rw [hyl] at g1
                rw [hkl] at g0
                have hkl20 : kl < 20 := by omega
                clear hput hy q4 hyr hyl hmem g2 q2
                go_wp2_with fail
                go_region
                go_wp2
                go_roundw
                case rel =>
                  refine ⟨j + 1, by omega, by go_num, HC6.out.drew.setCell (.inl rfl) _, ?_, .inl htt⟩
                  rw [wputs_step _ _ _ _ HY.out]
                  exact ⟨HPUT.out.cell, HPUT.out.len, HPUT.out.ok⟩
                case measure => simp [intOf]; omega
              · have hX6 : ExAt w.heap.size wr (r + 1) r 20 x.time (addA x.time A x.l) := HX5.out.chg HC6.out (fun k hk => hk ▸ noRow_type HW5.out.cell (by decide)) (fun k hk => hk ▸ noRow_type HW5.out.cell (by decide)) (fun e => by
                    obtain ⟨mm, EE, hE, _⟩ := HX5.out.ex
                    obtain ⟨es1, cl, hb9, _⟩ := hE.map
                    rw [show r = wb from e, HW5.out.cell] at hb9; cases hb9) (fun e => by
                    have h1 := HX5.out.cell
                    rw [show r + 1 = wb from e, HW5.out.cell] at h1; simp at h1)
                have hag : Hid (Agree (addA x.time A x.l) t (wputs es (x.l.take j))) := by
                  show Agree _ _ _
                  by_cases htt : x.time ≤ t
                  · have : j = mp := by
                      have := fun h => hcont ⟨h, htt⟩
                      omega
                    rw [this, List.take_of_length_le (by rw [HMP.out]; omega)]
                    exact HAG.out.now HW5.out.len HF.out.2.1 HF.out.2.2.1 HF.out.2.2.2 htt
                  · have : j = 0 := by
                      rcases hor with h | h
                      · exact (htt h).elim
                      · exact h
                    subst this
                    exact HAG.out.later HF.out.2.1 (by omega)
                have HX6 := Lib.hid hX6
                have hex : (¬ j < mp) ∨ (j < mp ∧ decide (x.time ≤ t) = false) := by
                  by_cases h : j < mp
                  · right; refine ⟨h, decide_eq_false (fun h2 => hcont ⟨h, h2⟩)⟩
                  · exact .inl h
                clear hX6 hcont hor q2 q4
                generalize wputs es (x.l.take j) = es6 at *
                rcases hex with hex | ⟨hex, hex2⟩
                all_goals
                  go_wp2_with fail
                  go_loopw [10] (fun kv wr3 => ∃ k : Nat, k ≤ 20 ∧ kv = .int .i64 k ∧ Below wr.heap.size wr wr3) (fun kv _ => 20 - (intOf kv).toNat)
                  case atStart => exact ⟨0, Nat.zero_le _, rfl, Below.refl _ _⟩
                  case round =>
                    obtain ⟨k, hk, rfl, hB7⟩ := hrel
                    have hBs : Below w.heap.size w wr := HBr.out.trans (hB7.mono HBr.out.size)
                    have HX7 := Lib.hid (HX6.out.below hB7)
                    have HW7 := Lib.hid (HW6.out.chg (S := fun _ => False) (Chg.of_below hB7) id)
                    have LA := Lib.hid (last_any wr HX7.out)
                    by_cases hk20 : k < 20
                    · have hcond : (decide (t ≤ x.time) = true) ∨ (decide (t ≤ x.time) = false ∧ ((i : Int) == (m : Int) - 1) = true) ∨ (decide (t ≤ x.time) = false ∧ ((i : Int) == (m : Int) - 1) = false) := by
                        cases h8 : decide (t ≤ x.time) with
                        | true => exact .inl rfl
                        | false =>
                          right
                          cases h9 : ((i : Int) == (m : Int) - 1) with
                          | true => exact .inl ⟨rfl, rfl⟩
                          | false => exact .inr ⟨rfl, rfl⟩
                      obtain ⟨we, hwe, hwc, hww, hwr, hwl⟩ := HW7.out.get k hk20
                      have G := xget_any k t wr HX7.out (by omega)
                      have hagk := hag.out k (by omega) (by omega)
                      rw [hww] at hagk
                      rw [hagk] at G
                      have HG := Lib.hid G
                      have HWL := Lib.hid hwl
                      have HWR := Lib.hid hwr
                      clear G hagk hww hwe hwl hwr
                      unfold vW at hwc
                      rcases hcond with c1 | ⟨c1, c2⟩ | ⟨c1, c2⟩
                      · go_wp2_with fail
                        refine LA.out.mono ?_
                        rintro e w8 ⟨rfl, rfl⟩
                        go_wp2_with fail
                        refine HG.out.mono ?_
                        rintro e w9 ⟨a9, c9, rfl, hB9, hown9, hl9⟩
                        have hz9 := (hB9.cell (p := ⟨wb, k, none⟩) (lt_heap HW7.out.cell)).trans hwc
                        have hR9 := Lib.hid (Rd.of_own hown9).2
                        have HL9 := Lib.hid hl9
                        clear hown9 hl9
                        rcases HWL.out with hd | hd
                        · rw [hd] at hz9
                          simp only [List.length_nil] at hz9
                          have hsh : Hid (shown we.d = zeros) := by show _ = _; unfold shown; rw [if_pos hd]
                          clear hd hwc
                          go_wp2_with fail
                          rw [mk40]
                          have hB10 : Below w9.heap.size w9 (w9.alloc (.cells (zeros.map Go.Proofs.Ytglkbkocdeimiaa.u8).toArray 5)) := (Below.refl _ w9).alloc (Nat.le_refl _) _
                          have hby := bytes_any a9 (some ⟨w9.heap.size, 0, none⟩) c9 40 zeros zeros (w9.alloc (.cells (zeros.map Go.Proofs.Ytglkbkocdeimiaa.u8).toArray 5)) (by rw [zeros_len]; omega) ((hsh.out ▸ hR9.out).below hB10) (Rd.of_own (World.ownsRow_lit w9 _ 40 (Nat.zero_le _) (by unfold maxLen; omega) rfl)).2
                          rw [zeros_len, decide_eq_true rfl] at hby
                          have HBY := Lib.hid hby; clear hby
                          generalize w9.alloc (.cells (zeros.map Go.Proofs.Ytglkbkocdeimiaa.u8).toArray 5) = w10 at *
                          go_wp2_with fail
                          refine HBY.out.mono ?_
                          rintro e w11 ⟨rfl, hB11⟩
                          go_wp2
                          have b9 := hB7.trans (hB9.mono hB7.size)
                          have b10 := b9.trans (hB10.mono b9.size)
                          exact ⟨⟨k + 1, by omega, by first | rfl | go_num | simp, b10.trans (hB11.mono b10.size)⟩, by simp [intOf]; omega⟩
                        · have hsh : Hid (shown we.d = we.d) := by
                            show _ = _
                            unfold shown
                            rw [if_neg (by intro e; rw [e] at hd; cases hd)]
                          rw [hd] at hz9
                          have HD := Lib.hid hd
                          clear hd hwc
                          have hby := bytes_any a9 we.a c9 we.c we.d we.d w9 (by rw [HD.out]; omega) (hsh.out ▸ hR9.out) (HWR.out.below (hBs.trans (hB9.mono hBs.size)))
                          rw [HD.out, decide_eq_true rfl] at hby
                          have HBY := Lib.hid hby; clear hby
                          go_wp2_with fail
                          refine HBY.out.mono ?_
                          rintro e w11 ⟨rfl, hB11⟩
                          go_wp2
                          have b9 := hB7.trans (hB9.mono hB7.size)
                          exact ⟨⟨k + 1, by omega, by first | rfl | go_num | simp, b9.trans (hB11.mono b9.size)⟩, by simp [intOf]; omega⟩
                      · go_wp2_with fail
                        refine LA.out.mono ?_
                        rintro e w8 ⟨rfl, rfl⟩
                        go_wp2_with fail
                        refine HG.out.mono ?_
                        rintro e w9 ⟨a9, c9, rfl, hB9, hown9, hl9⟩
                        have hz9 := (hB9.cell (p := ⟨wb, k, none⟩) (lt_heap HW7.out.cell)).trans hwc
                        have hR9 := Lib.hid (Rd.of_own hown9).2
                        have HL9 := Lib.hid hl9
                        clear hown9 hl9
                        rcases HWL.out with hd | hd
                        · rw [hd] at hz9
                          simp only [List.length_nil] at hz9
                          have hsh : Hid (shown we.d = zeros) := by show _ = _; unfold shown; rw [if_pos hd]
                          clear hd hwc
                          go_wp2_with fail
                          rw [mk40]
                          have hB10 : Below w9.heap.size w9 (w9.alloc (.cells (zeros.map Go.Proofs.Ytglkbkocdeimiaa.u8).toArray 5)) := (Below.refl _ w9).alloc (Nat.le_refl _) _
                          have hby := bytes_any a9 (some ⟨w9.heap.size, 0, none⟩) c9 40 zeros zeros (w9.alloc (.cells (zeros.map Go.Proofs.Ytglkbkocdeimiaa.u8).toArray 5)) (by rw [zeros_len]; omega) ((hsh.out ▸ hR9.out).below hB10) (Rd.of_own (World.ownsRow_lit w9 _ 40 (Nat.zero_le _) (by unfold maxLen; omega) rfl)).2
                          rw [zeros_len, decide_eq_true rfl] at hby
                          have HBY := Lib.hid hby; clear hby
                          generalize w9.alloc (.cells (zeros.map Go.Proofs.Ytglkbkocdeimiaa.u8).toArray 5) = w10 at *
                          go_wp2_with fail
                          refine HBY.out.mono ?_
                          rintro e w11 ⟨rfl, hB11⟩
                          go_wp2
                          have b9 := hB7.trans (hB9.mono hB7.size)
                          have b10 := b9.trans (hB10.mono b9.size)
                          exact ⟨⟨k + 1, by omega, by first | rfl | go_num | simp, b10.trans (hB11.mono b10.size)⟩, by simp [intOf]; omega⟩
                        · have hsh : Hid (shown we.d = we.d) := by
                            show _ = _
                            unfold shown
                            rw [if_neg (by intro e; rw [e] at hd; cases hd)]
                          rw [hd] at hz9
                          have HD := Lib.hid hd
                          clear hd hwc
                          have hby := bytes_any a9 we.a c9 we.c we.d we.d w9 (by rw [HD.out]; omega) (hsh.out ▸ hR9.out) (HWR.out.below (hBs.trans (hB9.mono hBs.size)))
                          rw [HD.out, decide_eq_true rfl] at hby
                          have HBY := Lib.hid hby; clear hby
                          go_wp2_with fail
                          refine HBY.out.mono ?_
                          rintro e w11 ⟨rfl, hB11⟩
                          go_wp2
                          have b9 := hB7.trans (hB9.mono hB7.size)
                          exact ⟨⟨k + 1, by omega, by first | rfl | go_num | simp, b9.trans (hB11.mono b9.size)⟩, by simp [intOf]; omega⟩
                      · go_wp2_with fail
                        refine LA.out.mono ?_
                        rintro e w8 ⟨rfl, rfl⟩
                        go_wp2
                        exact ⟨⟨i + 1, by omega, by first | rfl | go_num | simp, hBs, _, _, es6, HX7.out, HW7.out, hag.out⟩, by simp [intOf]; omega⟩
                    · go_wp2
                      exact ⟨⟨i + 1, by omega, by first | rfl | go_num | simp, hBs, _, _, es6, HX7.out, HW7.out, hag.out⟩, by simp [intOf]; omega⟩
          · have t2 : (acode 20 last x.time x.l != 0) = true := by simpa using hc
            rw [if_neg hc, if_neg hc] at hX5
            have HX5 := Lib.hid hX5
            clear hX5 hc
            generalize acode 20 last x.time x.l = cx at *
            go_wp2
            go_roundw
            case rel => exact ⟨i + 1, by omega, by go_num, HBw.out, last, A, es, HX5.out, HW5.out, HAG.out⟩
            case measure => simp [intOf]; omega
        · have t1 : (x.kind != 1) = true := by simpa using hk1
          clear hk1
          go_wp2
          go_roundw
          case rel => exact ⟨i + 1, by omega, by go_num, hB, last, A, es, HX.out, HW.out, HAG.out⟩
          case measure => simp [intOf]; omega
      · go_wp2_with fail
        refine (HAW.out _).mono ?_
        rintro e w5 ⟨rfl, hB5⟩
        go_wp2
        go_ret
        exact ⟨rfl, hB.trans (hB5.mono hB.size)⟩
end Go.Proofs.Ytglkbkocdeimiaa
