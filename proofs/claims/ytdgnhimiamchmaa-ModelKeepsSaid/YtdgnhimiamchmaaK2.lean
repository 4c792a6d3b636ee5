import Derived.Test.YtdgnhimiamchmaaK1
import Derived.Test.YtdgnhimiamchmaaD2
import Derived.Test.YtdgnhimiamchmaaA1
import Derived.Deep.CutBlock
import Derived.Deep.DeepCutAuto
namespace Go.Proofs.Ytdgnhimiamchmaa
open Go.RowKit
open BigFrame Lib
open Go.ChangeMaps (setBlock)

theorem new_all (n : Int) (w : World) (h1 : 1 ≤ n) (h2 : n ≤ 1048576) : Calls Try.prog 18 #[.int .i64 n] w fun e w' =>
    e = .returned (.tuple #[.pointer (some ⟨w.heap.size + 1, 0, none⟩), .int .i64 0]) ∧ Below w.heap.size w w' ∧ ∀ Bs, Kp.MAt Bs w' (w.heap.size + 1) w.heap.size n (fun _ => zeros) := by
  go_enter Try.func18, Try.ntmps18
  go_wp2_with fail
  rw [run_mkmap]
  go_wp2
  go_ret2
  refine ⟨by simp, ((Below.refl _ w).alloc (Nat.le_refl _) _).alloc (by simp) _, fun Bs => ⟨?_, ⟨[], (MapIs.new w).of_eq (alloc_heap (by simp)), fun k => rfl⟩, h1, h2⟩⟩
  rw [alloc_new (by simp)]
theorem Kp.MAt.low {Bs : Nat} {S : Nat → Prop} {w w' : World} {g r : Nat} {n : Int} {d : Int → List Int} (h : Kp.MAt Bs w g r n d) (hC : Chg S w w') (hS : ∀ k, S k → k < Bs) (hg : ¬ S g) (hr : ¬ S r) : Kp.MAt Bs w' g r n d := by
  obtain ⟨h1, ⟨m, h2, h3⟩, h4, h5⟩ := h
  refine ⟨(hC.block g (lt_heap h1) hg).trans h1, ⟨m, h2.of_eq (hC.block r h2.lt hr), fun k => ?_⟩, h4, h5⟩
  have := h3 k
  cases hm : mget m k with
  | none => rw [hm] at this; exact this
  | some v =>
    rw [hm] at this
    obtain ⟨ad, c, e1, e2, e3, e4, e5⟩ := this
    refine ⟨ad, c, e1, e2.chg hC (fun b o e s => ?_), e3, e4, e5⟩
    cases e
    have := hS b s
    simp at e5; omega

set_option maxRecDepth 100000 in
set_option maxHeartbeats 600000 in
theorem keeps_any (x k : Int) (w : World) (hx0 : -9223372036854775808 ≤ x) (hx1 : x ≤ 9223372036854775807) (hk0 : -9223372036854775808 ≤ k) (hk1 : k ≤ 9223372036854775807) :
    Calls Try.prog 9 #[.int .i64 x, .int .i64 k] w fun e w' => e = .returned (.bool true) ∧ Below w.heap.size w w' := by
  have HAW := Lib.hid awake_any
  have HRD := Lib.hid (round_any x 10 w (by omega) (by omega) hx0 hx1)
  have hL0 := Int.emod_nonneg x (show (10 : Int) ≠ 0 by omega)
  have hL1 := Int.emod_lt_of_pos x (show (0 : Int) < 10 by omega)
  generalize x % 10 = L at *
  have HDA := Lib.hid (fun W => data_all k W hk0 hk1)
  have hgl : (gat k).length = 40 := gat_len k
  have hnz : allz (gat k) = false := gat_nz k
  have HGL := Lib.hid hgl; have HNZ := Lib.hid hnz
  clear hgl hnz
  generalize gat k = dk at *
  go_enter Try.func9, Try.ntmps9
  go_wp2_with fail
  refine HRD.out.mono ?_
  rintro e w0 ⟨rfl, rfl⟩
  go_wp2_with fail
  refine (new_all 10 w (by omega) (by omega)).mono ?_
  rintro e w1 ⟨rfl, hB1, hM1⟩
  have HM1 := Lib.hid hM1
  have hs1 := hB1.size
  have hr1 := (hM1 0).lt_r
  have hg1 := lt_heap (hM1 0).cell
  clear hM1
  go_wp2_with fail
  refine (HDA.out w1).mono ?_
  rintro e w2 ⟨a2, c2, rfl, hB2, hown2⟩
  have hs2 := hB2.size
  obtain ⟨db, hdb, hdb1, hdb2⟩ : ∃ db, a2 = some ⟨db, 0, none⟩ ∧ w1.heap.size ≤ db ∧ db < w2.heap.size := by
    rcases hown2.2 with ⟨h1, h2⟩ | ⟨g', cap, cur, h1, h2, h3, _⟩
    · omega
    · injection h1 with e1 _ _; exact ⟨g', e1, h2, lt_heap h3⟩
  subst hdb
  have HO2 := Lib.hid hown2
  clear hown2
  have hB12 : Below w.heap.size w w2 := hB1.trans (hB2.mono hs1)
  go_wp2_with fail
  have hBa : Below w2.heap.size w2 (w2.alloc (.cells #[.int .i64 L, .slice (some ⟨db, 0, none⟩) 40 c2] 39)) := (Below.refl _ w2).alloc (Nat.le_refl _) _
  have hR3 : Rd u8 (w2.alloc (.cells #[.int .i64 L, .slice (some ⟨db, 0, none⟩) 40 c2] 39)) (some ⟨db, 0, none⟩) dk := (Rd.of_own HO2.out).2.below hBa
  have hP := puts_one (k := L) (d := dk) (by omega) (by omega) HGL.out (own_cap HO2.out) (alloc_new (w := w2) (o := .cells #[.int .i64 L, .slice (some ⟨db, 0, none⟩) 40 c2] 39) rfl) hR3
  have hs3 : (w2.alloc (.cells #[.int .i64 L, .slice (some ⟨db, 0, none⟩) 40 c2] 39)).heap.size = w2.heap.size + 1 := by simp
  have hM3 : Kp.MAt (w2.heap.size + 1) (w2.alloc (.cells #[.int .i64 L, .slice (some ⟨db, 0, none⟩) 40 c2] 39)) (w.heap.size + 1) w.heap.size 10 (fun _ => zeros) := ((HM1.out _).below hB2).below (hBa.mono (by omega))
  have hRUN := Kp.run_any 0 _ 1 _ _ (by simp) hP hM3 (by omega)
  rw [code_one 10 L _ c2 dk (by omega) (by omega) HGL.out, after_one 10 L _ c2 dk (by omega) (by omega) HGL.out] at hRUN
  have hB3 : Below w.heap.size w (w2.alloc (.cells #[.int .i64 L, .slice (some ⟨db, 0, none⟩) 40 c2] 39)) := hB12.trans (hBa.mono (by omega))
  have HO3 := Lib.hid (own_below HO2.out hBa)
  have hpb3 : Hid ((w2.alloc (.cells #[.int .i64 L, .slice (some ⟨db, 0, none⟩) 40 c2] 39)).heap[w2.heap.size]? = some (.cells ([.int .i64 L, .slice (some ⟨db, 0, none⟩) 40 c2] : List Value).toArray 39 (0, 0))) := alloc_new rfl
  clear hP hR3 hM3 hBa
  generalize w2.alloc (.cells #[.int .i64 L, .slice (some ⟨db, 0, none⟩) 40 c2] 39) = w3 at *
  refine hRUN.mono ?_
  rintro e w4 ⟨rfl, hC4, hM4⟩
  clear hRUN
  have hB4 : Below w.heap.size w w4 := below_chg hB3 hC4 (Nat.le_refl _) (fun k hk => by omega)
  have hs4 := hB4.size
  have hs34 := hC4.size
  have HM4 := Lib.hid hM4
  obtain ⟨mm, hmm⟩ := HM4.out.map
  have HO4 := Lib.hid (own_chg HO3.out hC4 (fun b hb e => by
    have h1 := own_ge HO3.out b hb
    omega))
  have hpb4 := (hC4.block w2.heap.size (by omega) (by omega)).trans hpb3.out
  have HPB4 := Lib.hid hpb4
  obtain ⟨curd, hcurd⟩ := (own_lt HO4.out db rfl).2
  have hx0 : dk[0]? = some (dk[0]'(by rw [HGL.out]; omega)) := List.getElem?_eq_getElem _
  generalize dk[0]'(by rw [HGL.out]; omega) = y0 at hx0
  have q0 : w4.cell? ⟨db, 0, none⟩ = some (.int .u8 y0) := by
    have := HO4.out.cellAt 0 (by omega)
    rw [List.getElem?_map, hx0] at this; exact this
  have f0 : w4.frozen? ⟨db, 0, none⟩ = false := free_heap hcurd
  have HCUR := Lib.hid hcurd
  clear hM4 hC4 hpb4 hmm hcurd hx0
  -- d[0]++
  have hC45 : Chg (· = db) w4 (w4.setCell ⟨db, 0, none⟩ (.int .u8 ((y0 + 1) % 256))) := Chg.setCell (S := (· = db)) (Chg.refl _ _) (p := ⟨db, 0, none⟩) (.inl rfl) _
  have hB5 : Below w.heap.size w (w4.setCell ⟨db, 0, none⟩ (.int .u8 ((y0 + 1) % 256))) := hB4.setCell (by show w.heap.size ≤ db; omega) _
  have hs5 : w4.heap.size ≤ (w4.setCell ⟨db, 0, none⟩ (.int .u8 ((y0 + 1) % 256))).heap.size := hC45.size
  have hM5 := HM4.out.low hC45 (fun k hk => by omega) (by omega) (by omega)
  have hdp : w2.heap.size ≠ db := by omega
  have hpb5 : (w4.setCell ⟨db, 0, none⟩ (.int .u8 ((y0 + 1) % 256))).heap[w2.heap.size]? = some (.cells ([.int .i64 L, .slice (some ⟨db, 0, none⟩) 40 c2] : List Value).toArray 39 (0, 0)) := (hC45.block w2.heap.size (by omega) hdp).trans HPB4.out
  have HM5 := Lib.hid hM5; have HPB5 := Lib.hid hpb5
  clear hC45 hM5 hpb5
  go_upto_region 10 with (fail)
  generalize w4.setCell ⟨db, 0, none⟩ (.int .u8 ((y0 + 1) % 256)) = w5 at *
  have p0 : w5.cell? ⟨w2.heap.size, 0, none⟩ = some (.int .i64 L) := cell_heap HPB5.out rfl
  have pf : w5.frozen? ⟨w2.heap.size, 0, none⟩ = false := free_heap HPB5.out
  -- p[0].LBA++
  have hC56 : Chg (· = w2.heap.size) w5 (w5.setCell ⟨w2.heap.size, 0, none⟩ (.int .i64 (L + 1))) := Chg.setCell (S := (· = w2.heap.size)) (Chg.refl _ _) (p := ⟨w2.heap.size, 0, none⟩) (.inl rfl) _
  have hB6 : Below w.heap.size w (w5.setCell ⟨w2.heap.size, 0, none⟩ (.int .i64 (L + 1))) := hB5.setCell (by show w.heap.size ≤ w2.heap.size; omega) _
  have hs6 : w5.heap.size ≤ (w5.setCell ⟨w2.heap.size, 0, none⟩ (.int .i64 (L + 1))).heap.size := hC56.size
  have hM6 := (HM5.out.low hC56 (fun k hk => by omega) (by omega) (by omega)).old
  have HM6 := Lib.hid hM6
  clear hC56 hM6 q0 f0
  go_upto_region 11 with (fail)
  generalize w5.setCell ⟨w2.heap.size, 0, none⟩ (.int .i64 (L + 1)) = w6 at *
  clear p0 pf
  have G6 := get_any L w6 HM6.out (by omega)
  simp only [if_true] at G6
  have HG6 := Lib.hid G6
  clear G6
  go_wp2_with fail
  refine HG6.out.mono ?_
  rintro e w7 ⟨a7, c7, rfl, hB7, hown7, _⟩
  have hs7 := hB7.size
  have HO7 := Lib.hid hown7
  clear hown7
  go_wp2_with fail
  refine (HDA.out w7).mono ?_
  rintro e w8 ⟨a8, c8, rfl, hB8, hown8⟩
  have hs8 := hB8.size
  have hB68 : Below w6.heap.size w6 w8 := hB7.trans (hB8.mono hs7)
  have HO78 := Lib.hid (own_below HO7.out hB8)
  have BY8 := bytes_any a7 a8 c7 c8 dk dk w8 (by rw [HGL.out]; omega) (Rd.of_own HO78.out).2 (Rd.of_own hown8).2
  rw [HGL.out, decide_eq_true rfl] at BY8
  have HBY8 := Lib.hid BY8
  clear BY8 hown8
  go_wp2_with fail
  refine HBY8.out.mono ?_
  rintro e w9 ⟨rfl, hB9⟩
  have hs9 := hB9.size
  have hB69 : Below w6.heap.size w6 w9 := hB68.trans (hB9.mono (by omega))
  obtain ⟨bb, hbb, hbb1, hbb2⟩ : ∃ bb, a7 = some ⟨bb, 0, none⟩ ∧ w6.heap.size ≤ bb ∧ 40 ≤ c7 := by
    rcases HO7.out.2 with ⟨h1, h2⟩ | ⟨g', cap, cur, h1, h2, h3, h4, _⟩
    · omega
    · injection h1 with e1 _ e2; subst e2; exact ⟨g', e1, h2, h4⟩
  subst hbb
  have HO79 := Lib.hid (own_below HO78.out hB9)
  obtain ⟨curb, hcurb⟩ := (own_lt HO79.out bb rfl).2
  have hx1 : dk[1]? = some (dk[1]'(by rw [HGL.out]; omega)) := List.getElem?_eq_getElem _
  generalize dk[1]'(by rw [HGL.out]; omega) = y1 at hx1
  have q1 : w9.cell? ⟨bb, 1, none⟩ = some (.int .u8 y1) := by
    have := HO79.out.cellAt 1 (by omega)
    rw [List.getElem?_map, hx1] at this; exact this
  have f1 : w9.frozen? ⟨bb, 1, none⟩ = false := free_heap hcurb
  have hB10 : Below w6.heap.size w6 (w9.setCell ⟨bb, 1, none⟩ (.int .u8 ((y1 + 1) % 256))) := hB69.setCell (by show w6.heap.size ≤ bb; omega) _
  clear hcurb hx1
  go_upto_region 15 with (fail)
  generalize w9.setCell ⟨bb, 1, none⟩ (.int .u8 ((y1 + 1) % 256)) = w10 at *
  clear q1 f1
  have hs10 := hB10.size
  have hout : Out 10 (fun j => if j = L then dk else zeros) := fun j hj => by
    show (if j = L then dk else zeros) = zeros
    rw [if_neg (by omega)]
  have AL := Lib.hid (all_any w10 (HM6.out.below hB10) hout)
  have hfull : full (fun j => if j = L then dk else zeros) 10 = [L] := by
    refine pair_unique _ _ (full_lt _ _) (List.pairwise_singleton _ _) (fun j => ?_)
    rw [full_mem]
    constructor
    · rintro ⟨_, hne⟩
      by_cases e : j = L
      · simp [e]
      · rw [if_neg e] at hne; exact (hne rfl).elim
    · intro hj
      simp at hj; subst hj
      refine ⟨by omega, ?_⟩
      rw [if_pos rfl]
      intro e
      have := HNZ.out
      rw [e, allz_zeros] at this; cases this
  rw [hfull] at AL
  clear hfull
  go_wp2_with fail
  refine AL.out.mono ?_
  rintro e w11 ⟨a11, c11, ps, rfl, hB11, hO11, hps⟩
  have hs11 := hB11.size
  have hp1 : ps.length = 1 := by have := congrArg List.length hps; simpa using this
  obtain ⟨p0, rfl⟩ : ∃ p0, ps = [p0] := by
    match ps, hp1 with
    | [p0], _ => exact ⟨p0, rfl⟩
  have hrow := hO11.row
  have hdat := hO11.data p0 (by simp)
  simp only [List.length_singleton, List.flatMap_cons, List.flatMap_nil, List.append_nil] at hrow
  obtain ⟨lb, hlb, hlb1, hlb2⟩ : ∃ lb, a11 = some ⟨lb, 0, none⟩ ∧ w10.heap.size ≤ lb ∧ 1 ≤ c11 := by
    rcases hrow.2 with ⟨h1, h2⟩ | ⟨g', cap, cur, h1, h2, h3, h4, _⟩
    · omega
    · injection h1 with e1 _ e2; subst e2; exact ⟨g', e1, h2, h4⟩
  subst hlb
  obtain ⟨eb, heb, heb1, heb2⟩ : ∃ eb, p0.a = some ⟨eb, 0, none⟩ ∧ w10.heap.size ≤ eb ∧ 40 ≤ p0.c := by
    rcases hdat.2 with ⟨h1, h2⟩ | ⟨g', cap, cur, h1, h2, h3, h4, _⟩
    · omega
    · injection h1 with e1 _ e2; rw [e2]; exact ⟨g', e1, h2, h4⟩
  have l1 : w11.cell? ⟨lb, 1, none⟩ = some (.slice (some ⟨eb, 0, none⟩) 40 p0.c) := by
    have := hrow.cellAt 1 (by omega)
    rw [this]; simp [encP, heb]
  rw [heb] at hdat
  obtain ⟨cure, hcure⟩ := (own_lt hdat eb rfl).2
  have hdl := (Rd.of_own hdat).1
  have hx2 : p0.d[2]? = some (p0.d[2]'(by omega)) := List.getElem?_eq_getElem _
  generalize p0.d[2]'(by omega) = y2 at hx2
  have q2 : w11.cell? ⟨eb, 2, none⟩ = some (.int .u8 y2) := by
    have := hdat.cellAt 2 (by omega)
    rw [List.getElem?_map, hx2] at this; exact this
  have f2 : w11.frozen? ⟨eb, 2, none⟩ = false := free_heap hcure
  have hB12' : Below w6.heap.size w6 (w11.setCell ⟨eb, 2, none⟩ (.int .u8 ((y2 + 1) % 256))) := (hB10.trans (hB11.mono hs10)).setCell (by show w6.heap.size ≤ eb; omega) _
  generalize p0.c = pc at *
  clear hrow hdat hdl hx2 hcure hps hp1 heb hO11
  simp only [List.length_singleton]
  go_upto_region 19 with (fail)
  generalize w11.setCell ⟨eb, 2, none⟩ (.int .u8 ((y2 + 1) % 256)) = w12 at *
  clear l1 q2 f2
  have hs12 := hB12'.size
  have G12 := get_any L w12 (HM6.out.below hB12') (by omega)
  simp only [if_true] at G12
  have HG12 := Lib.hid G12
  clear G12
  go_wp2_with fail
  refine HG12.out.mono ?_
  rintro e w13 ⟨a13, c13, rfl, hB13, hown13, _⟩
  have hs13 := hB13.size
  have HO13 := Lib.hid hown13
  clear hown13
  go_wp2_with fail
  refine (HDA.out w13).mono ?_
  rintro e w14 ⟨a14, c14, rfl, hB14, hown14⟩
  have hs14 := hB14.size
  have BY14 := bytes_any a13 a14 c13 c14 dk dk w14 (by rw [HGL.out]; omega) ((Rd.of_own HO13.out).2.below hB14) (Rd.of_own hown14).2
  rw [HGL.out, decide_eq_true rfl] at BY14
  have HBY14 := Lib.hid BY14
  clear BY14 hown14
  go_wp2_with fail
  refine HBY14.out.mono ?_
  rintro e w15 ⟨rfl, hB15⟩
  have hs15 := hB15.size
  go_wp2_with fail
  refine (HAW.out _).mono ?_
  rintro e w16 ⟨rfl, hB16⟩
  go_wp2
  go_ret
  have h1 : Below w6.heap.size w6 w16 := (((hB12'.trans (hB13.mono (by omega))).trans (hB14.mono (by omega))).trans (hB15.mono (by omega))).trans (hB16.mono (by omega))
  exact ⟨rfl, hB6.trans (h1.mono hB6.size)⟩
end Go.Proofs.Ytdgnhimiamchmaa
