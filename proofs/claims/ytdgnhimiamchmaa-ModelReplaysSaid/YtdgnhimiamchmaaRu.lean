import Derived.Test.YtdgnhimiamchmaaR4
import Derived.Test.YtdgnhimiamchmaaRef
namespace Go.Proofs.Ytdgnhimiamchmaa
open Go.RowKit
open BigFrame Lib
open Go.ChangeMaps (setBlock)

theorem upd_shown : ∀ (l : List PutV) (d D : Int → List Int), (∀ x ∈ l, x.d.length = 40) → (∀ k, d k = shown (D k)) → ∀ k, upd d l k = shown (upd D l k)
  | [], _, _, _, h, k => h k
  | p :: l, d, D, hl, h, k => by
    show upd (put1 d p) l k = shown (upd (put1 D p) l k)
    refine upd_shown l _ _ (fun x hx => hl x (by simp [hx])) (fun j => ?_) k
    unfold put1
    split
    · rw [shown_len (hl p (by simp))]
    · exact h j
theorem after_shown (n : Int) (l : List PutV) (d D : Int → List Int) (h : ∀ k, d k = shown (D k)) (k : Int) : after n l d k = shown (after n l D k) := by
  unfold after
  split
  · rename_i hc
    exact upd_shown l d D (code_len hc) h k
  · exact h k
theorem runs_shown (n : Int) : ∀ (l : List TxV) (d D : Int → List Int), (∀ k, d k = shown (D k)) → ∀ k, runs n l d k = shown (runs n l D k)
  | [], _, _, h, k => h k
  | x :: l, d, D, h, k => runs_shown n l _ _ (after_shown n x.l d D h) k
theorem upd_out (n : Int) : ∀ (l : List PutV) (d : Int → List Int), (∀ x ∈ l, 0 ≤ x.lba ∧ x.lba < n) → Out n d → Out n (upd d l)
  | [], _, _, h => h
  | p :: l, d, hl, h => by
    show Out n (upd (put1 d p) l)
    refine upd_out n l _ (fun x hx => hl x (by simp [hx])) (fun k hk => ?_)
    unfold put1
    rw [if_neg (by rintro rfl; exact hk (hl p (by simp)))]
    exact h k hk
theorem after_out (n : Int) (l : List PutV) (d : Int → List Int) (h : Out n d) : Out n (after n l d) := by
  unfold after
  split
  · rename_i hc; exact upd_out n l d (code_in hc) h
  · exact h
theorem runs_out (n : Int) : ∀ (l : List TxV) (d : Int → List Int), Out n d → Out n (runs n l d)
  | [], _, h => h
  | x :: l, d, h => runs_out n l _ (after_out n x.l d h)
theorem full_same {d D : Int → List Int} {n : Nat} (hl : ∀ k, D k = [] ∨ (D k).length = 40) (hd : ∀ k, d k = shown (D k)) : ((full d n).map fun k => (k, d k)) = (rfull D n).map fun k => (k, D k) := by
  rw [rfull_full hl hd]
  apply List.map_congr_left
  intro k hk
  have h1 := ((full_mem d n k).1 hk).2
  rw [hd] at h1 ⊢
  rcases hl k with h2 | h2
  · rw [h2] at h1; exact (h1 rfl).elim
  · rw [shown_len h2]
/-- what All answers, as a row of puts -/
theorem all_at {g r : Nat} {n : Int} {d : Int → List Int} (w : World) (hM : MAt w g r n d) (ho : Out n d) :
    Calls Try.prog 36 #[.pointer (some ⟨g, 0, none⟩)] w fun e w' => ∃ a c ps, e = .returned (.slice a ps.length c) ∧ Below w.heap.size w w' ∧ PutsAt w' a ps ∧ ps.map lv = ((full d n).map fun k => (k, d k)) ∧ (∀ x ∈ ps, x.d.length = 40) ∧ ps.length ≤ 1048576 := by
  have hhi := hM.hi
  refine (all_any w hM ho).mono ?_
  rintro e w' ⟨a, c, ps, rfl, hB, hP, hl⟩
  have hk : ∀ p ∈ ps, p.lba ∈ full d n := by
    intro p hp
    have : lv p ∈ (full d n).map fun k => (k, d k) := hl ▸ List.mem_map.2 ⟨p, hp, rfl⟩
    obtain ⟨k, hk, he⟩ := List.mem_map.1 this
    have : k = p.lba := congrArg Prod.fst he
    exact this ▸ hk
  refine ⟨a, c, ps, rfl, hB, hP.at (fun p hp => ?_), hl, fun p hp => ((Rd.of_own (hP.data p hp)).1).symm, ?_⟩
  · have := ((full_mem d n p.lba).1 (hk p hp)).1
    omega
  · have h1 := congrArg List.length hl
    simp at h1
    have : (full d n).length ≤ n.toNat := by unfold full; exact Nat.le_trans (List.length_filter_le _ _) (by simp)
    omega

set_option maxRecDepth 100000 in
set_option maxHeartbeats 1000000 in
theorem runs_law (nb : Int) (a : Option Addr) (c : Nat) (l : List TxV) (k : Int) (w : World) (_n0 : -9223372036854775808 ≤ nb) (_n1 : nb ≤ 9223372036854775807) (hn : l.length ≤ 9223372036854775807) (h1 : TxsAt w a l) (hk0 : -9223372036854775808 ≤ k) (hk1 : k ≤ 9223372036854775807) :
    Calls Try.prog 10 #[.int .i64 nb, .slice a l.length c, .int .i64 k] w fun e w' => e = .returned (.bool true) ∧ Below w.heap.size w w' := by
  have HAW := Lib.hid awake_any
  have H1 := Lib.hid h1
  have SM := Lib.hid (smallT_any a c l w hn h1)
  clear h1
  generalize hq : l.length = m at *
  have HM := Lib.hid hq; clear hq
  go_enter Try.func10, Try.ntmps10
  go_wp2_with fail
  refine SM.out.mono ?_
  rintro e w1 ⟨⟨b, rfl, hb⟩, hB1⟩
  have hs1 := hB1.size
  cases b with
  | false =>
    clear hb
    go_wp2_with fail
    refine (HAW.out _).mono ?_
    rintro e w2 ⟨rfl, hB2⟩
    go_wp2
    go_ret
    exact ⟨rfl, hB1.trans (hB2.mono hs1)⟩
  | true =>
    have HB := Lib.hid (hb rfl)
    clear hb
    by_cases h2 : 2000 < nb
    · go_wp2_with fail
      refine (HAW.out _).mono ?_
      rintro e w2 ⟨rfl, hB2⟩
      go_wp2
      go_ret
      exact ⟨rfl, hB1.trans (hB2.mono hs1)⟩
    · have h2' : nb ≤ 2000 := by omega
      have t1 : decide (2000 < nb) = false := by simpa using h2
      clear h2
      by_cases h3 : nb < 1
      · have N1 := Lib.hid (new_bad nb w1 (.inl h3))
        have N2 := Lib.hid (rnew_bad nb w1 (.inl h3))
        go_wp2_with fail
        refine N1.out.mono ?_
        rintro e w' ⟨rfl, rfl⟩
        go_wp2_with fail
        refine N2.out.mono ?_
        rintro e w' ⟨rfl, rfl⟩
        go_wp2_with fail
        refine (HAW.out _).mono ?_
        rintro e w2 ⟨rfl, hB2⟩
        go_wp2
        go_ret
        exact ⟨rfl, hB1.trans (hB2.mono hs1)⟩
      · obtain ⟨n, rfl⟩ : ∃ n : Nat, nb = n := ⟨nb.toNat, by omega⟩
        have hn1 : 1 ≤ n := by omega
        have hn2 : n ≤ 2000 := by omega
        clear h3
        go_wp2_with fail
        refine (new_good n w1 (by omega) (by omega)).mono ?_
        rintro e w2 ⟨rfl, hB2, hM2⟩
        have HM2 := Lib.hid hM2; clear hM2
        have RN := Lib.hid (rnew_good n w2 hn1 (by omega))
        go_wp2_with fail
        refine RN.out.mono ?_
        rintro e w3 ⟨rfl, hB3, hX3⟩
        have HX3 := Lib.hid hX3; clear hX3
        have HM3 := Lib.hid (HM2.out.below hB3)
        have hs2 := hB2.size
        have hs3 := hB3.size
        have hB3' : Below w.heap.size w w3 := (hB1.trans (hB2.mono hs1)).trans (hB3.mono (by omega))
        have hr1 := HM2.out.lt_r
        have hg1 := lt_heap HM2.out.cell
        have hr2 : w2.heap.size < w3.heap.size := by have := lt_heap HX3.out.top; omega
        generalize hq1 : w1.heap.size = r1 at *
        generalize hq2 : w2.heap.size = r2 at *
        have FR : Hid (∀ W, Chg (fun k => k = r1 ∨ k = r2) w3 W → Below w.heap.size w W) := fun W hW => hB3'.trans (hW.below (by omega) (fun k hk e => by omega))
        go_wp2_with fail
        go_loopw [11] (fun iv wr => ∃ i : Nat, i ≤ m ∧ iv = .int .i64 i ∧ Chg (fun k => k = r1 ∨ k = r2) w3 wr ∧ MAt wr (r1 + 1) r1 n (runs n (l.take i) (fun _ => zeros)) ∧ RefM wr (r2 + 1) r2 n (runs n (l.take i) (fun _ => []))) (fun iv _ => m - (intOf iv).toNat)
        case atStart => exact ⟨0, Nat.zero_le _, rfl, Chg.refl _ _, HM3.out, HX3.out⟩
        case round =>
          obtain ⟨i, hi, rfl, hC, hM, hX⟩ := hrel
          have HC := Lib.hid hC; have HMr := Lib.hid hM; have HXr := Lib.hid hX
          clear hC hM hX
          by_cases hlt : i < m
          · have hx : l[i]? = some (l[i]'(by rw [HM.out]; exact hlt)) := List.getElem?_eq_getElem _
            generalize l[i]'(by rw [HM.out]; exact hlt) = x at hx
            have hT := H1.out.below (FR.out _ HC.out)
            obtain ⟨b, o, rfl, e1, d1, d2, d3, d4⟩ := hT i x hx
            have hxl := HB.out.2 x (List.mem_of_getElem? hx)
            have HX := Lib.hid hx; have HT := Lib.hid hT
            have HMAP : Hid (∃ m, MapIs wr r1 m) := HMr.out.map
            have R1 := Lib.hid (run_any x.time x.a x.c x.l wr.drew (by omega) (d4.below (below_drewN (Below.refl _ wr) 1)) (HMr.out.below (below_drewN (Below.refl _ wr) 1)))
            have hwr := HC.out.size
            clear hx hT d3 d4
            generalize hq : x.l.length = ml at *
            have HQ := Lib.hid hq; clear hq
            go_wp2_with fail
            go_region_held3 (fun w' => w'.cell? ⟨b, o + i * 2, none⟩ = some (.int .i64 x.time) ∧ w'.cell? ⟨b, o + i * 2 + 1, none⟩ = some (.slice x.a ml x.c))
              (go_keep)
              (first
               | (go_at_call 19
                  refine R1.out.mono ?_
                  rintro e w5 ⟨rfl, hC5, hM5⟩
                  have hCw5 : Chg (· = r1) wr w5 := ((Chg.refl _ wr).drew).trans hC5
                  have hS5 : ∀ k, k = r1 → ∃ m, MapIs wr k m := by rintro k rfl; exact HMAP.out
                  obtain ⟨b', o', eb, e15, q1, q2, _, q4⟩ := HT.out.chg hCw5 hS5 i x HX.out
                  cases eb
                  rw [HQ.out] at q2
                  have hX5 := HXr.out.chg hCw5 (fun k hk => by subst hk; obtain ⟨m, hm⟩ := HMAP.out; exact noU8_map hm) (by omega) (by omega)
                  have RR := HQ.out ▸ rrun_any x.time x.a x.c x.l w5 (by rw [HQ.out]; omega) q4 hX5
                  have HCw5 := Lib.hid hCw5; have HM5 := Lib.hid hM5; have HR := Lib.hid RR; have HNI : Hid (NoU8 w5 r2) := hX5.no
                  have q5 : b ≠ r2 := by rintro rfl; exact hX5.noInt _ _ _ q1
                  clear hC5 hM5 hCw5 hS5 hX5 RR q4)
               | (go_at_call 28
                  refine HR.out.mono ?_
                  rintro e w6 ⟨rfl, hC6, hX6⟩
                  have s1 := (World.cell?_of_block (a := ⟨b, o + i * 2, none⟩) (hC6.block b e15 q5)).trans q1
                  have s2 := (World.cell?_of_block (a := ⟨b, o + i * 2 + 1, none⟩) (hC6.block b e15 q5)).trans q2))
            have HM6 := Lib.hid (HM5.out.chg_no hC6 (by rintro k rfl; exact HNI.out) (by omega) (by omega))
            have HX6 := Lib.hid hX6
            have HC6 : Hid (Chg (fun k => k = r1 ∨ k = r2) w3 w6) := (HC.out.trans (HCw5.out.mono (fun _ _ h => .inl h))).trans (hC6.mono (fun _ _ h => .inr h))
            have t5 : (code n x.l != code n x.l) = false := by simp
            clear hC6 hX6
            generalize code n x.l = cx at *
            go_wp2
            go_roundw
            case rel => exact ⟨i + 1, by omega, by go_num, HC6.out, by rw [runs_step _ _ _ _ _ HX.out]; exact HM6.out, by rw [runs_step _ _ _ _ _ HX.out]; exact HX6.out⟩
            case measure => simp [intOf]; omega
          · have htk : l.take i = l := List.take_of_length_le (by rw [HM.out]; omega)
            rw [htk] at HMr HXr
            have hd := runs_shown n l (fun _ => zeros) (fun _ => []) (fun k => rfl)
            have hout := runs_out n l (fun _ => zeros) (fun k _ => rfl)
            have HBw : Hid (Below w.heap.size w wr) := FR.out _ HC.out
            clear htk
            generalize runs n l (fun _ => zeros) = d at *
            generalize runs n l (fun _ => []) = D at *
            have hsame := full_same HXr.out.len hd (n := n)
            have AA := Lib.hid (fun W (hW : Below wr.heap.size wr W) => all_at W (HMr.out.below hW) hout)
            have RA := Lib.hid (fun W (hW : Below wr.heap.size wr W) => rall_any W (HXr.out.below hW))
            have SA := Lib.hid (fun W (hW : Below wr.heap.size wr W) => same_self d ▸ same_any W (HMr.out.below hW) (HMr.out.below hW))
            have HSAME := Lib.hid hsame
            have hwr := HBw.out.size
            -- both Gets
            have GET : Hid (∃ (a1 : Value) (e1 : Int), (∀ W, Below wr.heap.size wr W → Calls Try.prog 21 #[.pointer (some ⟨r1 + 1, 0, none⟩), .int .i64 k] W fun e w' => ∃ a c l, e = .returned (.tuple #[.slice a (List.length l) c, .int .i64 e1]) ∧ Below W.heap.size W w' ∧ Rd u8 w' a l ∧ l.length ≤ 40 ∧ l = (if 0 ≤ k ∧ k < n then d k else [])) ∧
                (∀ W, Below wr.heap.size wr W → Calls Try.prog 35 #[.pointer (some ⟨r2 + 1, 0, none⟩), .int .i64 k] W fun e w' => ∃ a c l, e = .returned (.tuple #[.slice a (List.length l) c, .int .i64 e1]) ∧ Below W.heap.size W w' ∧ Rd u8 w' a l ∧ l.length ≤ 40 ∧ l = (if 0 ≤ k ∧ k < n then d k else []))) := by
              by_cases hin : 0 ≤ k ∧ k < n
              · refine ⟨.bool true, 0, fun W hW => (get_any k W (HMr.out.below hW) hin).mono ?_, fun W hW => (rget_any k W (HXr.out.below hW) hin).mono ?_⟩
                · rintro e w' ⟨a', c', rfl, hB, hown, hl⟩
                  exact ⟨a', c', d k, by rw [hl], hB, (Rd.of_own hown).2, by omega, by rw [if_pos hin]⟩
                · rintro e w' ⟨a', c', rfl, hB, hR, hl⟩
                  exact ⟨a', c', shown (D k), by rw [hl], hB, hR, by omega, by rw [if_pos hin, hd]⟩
              · refine ⟨.bool true, 2, fun W hW => (get_bad k W (HMr.out.below hW) hin).mono ?_, fun W hW => (rget_bad k W (HXr.out.below hW) hin).mono ?_⟩
                · rintro e w' ⟨rfl, rfl⟩
                  exact ⟨none, 0, [], rfl, Below.refl _ _, Rd.nil _ _ _, by simp, by rw [if_neg hin]⟩
                · rintro e w' ⟨rfl, rfl⟩
                  exact ⟨none, 0, [], rfl, Below.refl _ _, Rd.nil _ _ _, by simp, by rw [if_neg hin]⟩
            obtain ⟨_, e1, G1, G2⟩ := GET.out
            have HG1 := Lib.hid G1; have HG2 := Lib.hid G2
            clear G1 G2 hd hsame hout GET
            generalize (if 0 ≤ k ∧ k < (n : Int) then d k else []) = gl at *
            go_wp2_with fail
            refine (HG1.out _ (Below.refl _ _)).mono ?_
            rintro e w4 ⟨a4, c4, l4, rfl, hB4, hR4, hl4, rfl⟩
            have HR4 := Lib.hid hR4
            clear hR4
            go_wp2_with fail
            refine (HG2.out _ hB4).mono ?_
            rintro e w5 ⟨a5, c5, l5, rfl, hB5, hR5, hl5, he5⟩
            subst he5
            have HR5 := Lib.hid hR5
            have hB5' : Below wr.heap.size wr w5 := hB4.trans (hB5.mono hB4.size)
            clear hR5
            go_wp2_with fail
            refine (AA.out _ hB5').mono ?_
            rintro e w6 ⟨a6, c6, p6, rfl, hB6, hP6, hl6, h40, hp6⟩
            have HP6 := Lib.hid hP6; have HL6 := Lib.hid hl6; have H40 := Lib.hid h40
            have hB6' : Below wr.heap.size wr w6 := hB5'.trans (hB6.mono hB5'.size)
            clear hP6 hl6 h40
            go_wp2_with fail
            refine (RA.out _ hB6').mono ?_
            rintro e w7 ⟨a7, c7, p7, rfl, hB7, hP7, hl7⟩
            have hB7' : Below wr.heap.size wr w7 := hB6'.trans (hB7.mono hB6'.size)
            have SP := Lib.hid (samePuts_any a6 a7 c6 c7 p6 p7 w7 (by omega) (HP6.out.below hB7) hP7 (by rw [HL6.out, hl7, HSAME.out]) H40.out)
            clear hP7 hl7
            go_wp2_with fail
            refine SP.out.mono ?_
            rintro e w8 ⟨rfl, hB8⟩
            have hB8' : Below wr.heap.size wr w8 := hB7'.trans (hB8.mono hB7'.size)
            have hB58 : Below w5.heap.size w5 w8 := (hB6.trans (hB7.mono hB6.size)).trans (hB8.mono (Nat.le_trans hB6.size hB7.size))
            have BY := bytes_any a4 a5 c4 c5 l5 l5 w8 (by omega) ((HR4.out.below hB5).below hB58) (HR5.out.below hB58)
            rw [decide_eq_true rfl] at BY
            have HBY := Lib.hid BY; clear BY
            go_wp2_with fail
            refine HBY.out.mono ?_
            rintro e w9 ⟨rfl, hB9⟩
            have hB9' : Below wr.heap.size wr w9 := hB8'.trans (hB9.mono hB8'.size)
            have t6 : (e1 == e1) = true := by simp
            go_wp2_with fail
            refine (SA.out _ hB9').mono ?_
            rintro e w10 ⟨rfl, hB10⟩
            have hB10' : Below wr.heap.size wr w10 := hB9'.trans (hB10.mono hB9'.size)
            go_wp2_with fail
            refine (HAW.out _).mono ?_
            rintro e w11 ⟨rfl, hB11⟩
            go_wp2
            go_ret
            exact ⟨rfl, (HBw.out.trans (hB10'.mono hwr)).trans (hB11.mono (Nat.le_trans hwr hB10'.size))⟩

theorem runs_row (nb : Int) (a : Option Addr) (c : Nat) (l : List TxV) (k : Int) (w : World) (n0 : -9223372036854775808 ≤ nb) (n1 : nb ≤ 9223372036854775807) (hn : l.length ≤ maxLen) (h1 : TxsAt w a l) (hk0 : -9223372036854775808 ≤ k) (hk1 : k ≤ 9223372036854775807) :
    Calls Try.prog 10 #[.int .i64 nb, .slice a l.length c, .int .i64 k] w fun e w' => e = .returned (.bool true) ∧ Below w.heap.size w w' :=
  runs_law nb a c l k w n0 n1 (by unfold maxLen at hn; omega) h1 hk0 hk1
end Go.Proofs.Ytdgnhimiamchmaa
