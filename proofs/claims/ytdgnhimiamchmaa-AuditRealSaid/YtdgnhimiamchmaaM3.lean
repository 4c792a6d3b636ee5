import Derived.Deep.RegionHeld3
import Derived.Test.YtdgnhimiamchmaaM2
namespace Go.Proofs.Ytdgnhimiamchmaa
open Go.RowKit
open BigFrame Lib
open Go.ChangeMaps (setBlock)

theorem drop_cons {α : Type} {l : List α} {i : Nat} {x : α} (h : l[i]? = some x) : l.drop i = x :: l.drop (i + 1) := by
  obtain ⟨hi, rfl⟩ := List.getElem?_eq_some_iff.1 h
  exact List.drop_eq_getElem_cons hi
def argBad : List Int → List PutV → Bool
  | _, [] => false
  | seen, p :: l => decide (p.lba ∈ seen) || (p.d.length != 40 || argBad (seen ++ [p.lba]) l)
theorem argBad_len : ∀ (l : List PutV) (seen : List Int), argBad seen l = false → ∀ x ∈ l, x.d.length = 40
  | [], _, _, x, hx => by simp at hx
  | p :: l, seen, h, x, hx => by
    rw [argBad, Bool.or_eq_false_iff, Bool.or_eq_false_iff] at h
    rcases List.mem_cons.1 hx with rfl | hx
    · simpa using h.2.1
    · exact argBad_len l _ h.2.2 x hx
def code (n : Int) (l : List PutV) : Int := if anyBad n l = true then 2 else if argBad [] l = true then 1 else 0
def put1 (d : Int → List Int) (p : PutV) : Int → List Int := fun k => if k = p.lba then p.d else d k
def upd (d : Int → List Int) (l : List PutV) : Int → List Int := l.foldl put1 d
def after (n : Int) (l : List PutV) (d : Int → List Int) : Int → List Int := if code n l = 0 then upd d l else d

theorem Try.zero3 {w : World} : (zeroValue 3).run Try.prog w = .ok (.int .i64 0) w := Try.zeroValue3 _
theorem code_len {n : Int} {l : List PutV} (h : code n l = 0) : ∀ x ∈ l, x.d.length = 40 := by
  apply argBad_len l []
  unfold code at h
  split at h
  · cases h
  · split at h
    · cases h
    · rename_i h2; simpa using h2
theorem run_bad {g r : Nat} {n : Int} {d : Int → List Int} (t : Int) (a : Option Addr) (c : Nat) (l : List PutV) (w : World) (hn : l.length ≤ 140737488351232) (h1 : PutsAt w a l) (hM : MAt w g r n d) (hbad : anyBad n l = true) :
    Calls Try.prog 19 #[.pointer (some ⟨g, 0, none⟩), .agg #[.int .i64 t, .slice a l.length c]] w fun e w' => e = .returned (.int .i64 2) ∧ Below w.heap.size w w' := by
  have HC := Lib.hid (fun W (hW : Below w.heap.size w W) bm hb => contP_any (bm := bm) a c l W hn (h1.below hW) (hM.below hW) hb)
  have c0 := hM.c0
  have n1 : (n == 0) = false := by have := hM.lo; simp; omega
  have hg := lt_heap hM.cell
  have HB := Lib.hid hbad
  clear h1 hM hbad
  go_enter Try.func19, Try.ntmps19
  go_wp2_with fail
  refine (HC.out _ (((Below.refl _ w).alloc (Nat.le_refl _) _).alloc (by first | omega | (simp; done) | (simp; omega) | (go_num; done)) _) _ (by first | omega | (simp; done) | (simp; omega) | (go_num; done))).mono ?_
  rintro e w1 ⟨rfl, hB⟩
  rw [HB.out]
  go_wp2
  go_ret
  exact ⟨rfl, (((Below.refl _ w).alloc (Nat.le_refl _) _).alloc (by first | omega | (simp; done) | (simp; omega) | (go_num; done)) _).trans (hB.mono (by first | omega | (simp; done) | (simp; omega) | (go_num; done)))⟩

set_option maxRecDepth 100000 in
set_option maxHeartbeats 400000 in
theorem run_arg {g r : Nat} {n : Int} {d : Int → List Int} (t : Int) (a : Option Addr) (c : Nat) (l : List PutV) (w : World) (hn : l.length ≤ 1000000) (h1 : PutsAt w a l) (hM : MAt w g r n d) (hbad : anyBad n l = false) :
    Calls Try.prog 19 #[.pointer (some ⟨g, 0, none⟩), .agg #[.int .i64 t, .slice a l.length c]] w fun e w' => e = .returned (.int .i64 (code n l)) ∧ Chg (· = r) w w' ∧ MAt w' g r n (after n l d) := by
  have HD := Lib.hid hM
  have HC := Lib.hid (fun W (hW : Below w.heap.size w W) bm hb => contP_any (bm := bm) a c l W (by omega) (h1.below hW) (hM.below hW) hb)
  have c0 := hM.c0
  have n1 : (n == 0) = false := by have := hM.lo; simp; omega
  have hg := lt_heap hM.cell
  have HR := hM.lt_r
  have HB := Lib.hid hbad
  have H1 := Lib.hid h1
  clear h1 hM hbad
  generalize hq : l.length = m at *
  have HM := Lib.hid hq; clear hq
  go_enter Try.func19, Try.ntmps19
  go_wp2_with fail
  refine (HC.out _ (((Below.refl _ w).alloc (Nat.le_refl _) _).alloc (by first | omega | (simp; done) | (simp; omega) | (go_num; done)) _) _ (by first | omega | (simp; done) | (simp; omega) | (go_num; done))).mono ?_
  rintro e w1 ⟨rfl, hB⟩
  have b0 : w1.cell? ⟨w.heap.size, 0, none⟩ = some (.pointer (some ⟨g, 0, none⟩)) := (hB.cell (p := ⟨w.heap.size, 0, none⟩) (by first | omega | (simp; done) | (simp; omega) | (go_num; done))).trans (by first | omega | (simp; done) | (simp; omega) | (go_num; done))
  have b1 : w1.cell? ⟨w.heap.size + 1, 1, none⟩ = some (.slice a m c) := (hB.cell (p := ⟨w.heap.size + 1, 1, none⟩) (by first | omega | (simp; done) | (simp; omega) | (go_num; done))).trans (by first | omega | (simp; done) | (simp; omega) | (go_num; done))
  have hsz := hB.size
  simp at hsz
  have hB1 : Below w.heap.size w w1 := (((Below.refl _ w).alloc (Nat.le_refl _) _).alloc (by first | omega | (simp; done) | (simp; omega) | (go_num; done)) _).trans (hB.mono (by first | omega | (simp; done) | (simp; omega) | (go_num; done)))
  clear hB
  rw [HB.out]
  go_wp2_with fail
  rw [run_mkmap]
  have hm := MapIs.new w1
  generalize hw2 : w1.alloc (.map #[] 0) = w2 at hm
  have hB2 : Below w1.heap.size w1 w2 := by rw [← hw2]; exact (Below.refl _ w1).alloc (Nat.le_refl _) _
  have b2 : w2.cell? ⟨w.heap.size, 0, none⟩ = some (.pointer (some ⟨g, 0, none⟩)) := (hB2.cell (p := ⟨w.heap.size, 0, none⟩) (by first | omega | (simp; done) | (simp; omega) | (go_num; done))).trans b0
  have b3 : w2.cell? ⟨w.heap.size + 1, 1, none⟩ = some (.slice a m c) := (hB2.cell (p := ⟨w.heap.size + 1, 1, none⟩) (by first | omega | (simp; done) | (simp; omega) | (go_num; done))).trans b1
  generalize w1.heap.size = q at *
  have b4 : Hid (PutsAt w2 a l) := PutsAt.below (H1.out.below hB1) (by rw [← hw2]; exact (Below.refl _ w1).alloc (Nat.le_refl _) _)
  have hqs : q < w2.heap.size := hm.lt
  clear hw2 HC H1 b0 b1
  have hfin0 : ∀ W, Chg (· = q) w2 W → Below w.heap.size w W := by
    intro W hW
    exact (hB1.trans (hB2.mono (by omega))).trans (hW.below (by omega) (fun k hk e => by omega))
  have hfin : code n l = 1 → ∀ W, Chg (· = q) w2 W → Chg (· = r) w W ∧ MAt W g r n (after n l d) := by
    intro hc W hW
    refine ⟨Chg.of_below (hfin0 W hW), ?_⟩
    rw [show after n l d = d by unfold after; rw [hc]; rfl]
    exact HD.out.below (hfin0 W hW)
  go_wp2_with fail
  go_loopw [29] (fun iv wr => ∃ i : Nat, i ≤ m ∧ iv = .int .i64 i ∧ Chg (· = q) w2 wr ∧ argBad [] l = argBad ((l.take i).map (·.lba)) (l.drop i) ∧ ∃ mm, MapIs wr q mm ∧ ∀ k, mget mm k = if k ∈ (l.take i).map (·.lba) then some (.int .i64 1) else none) (fun iv _ => m - (intOf iv).toNat)
  case atStart => exact ⟨0, Nat.zero_le _, rfl, Chg.refl _ _, rfl, [], hm, fun k => rfl⟩
  case round =>
    obtain ⟨i, hi, rfl, hC, ht, mm, hmm, hmv⟩ := hrel
    have HT := Lib.hid ht; have HV := Lib.hid hmv; clear ht hmv
    have r3 : wr.cell? ⟨w.heap.size + 1, 1, none⟩ = some (.slice a m c) := (World.cell?_of_block (a := ⟨w.heap.size + 1, 1, none⟩) (hC.block _ (by show w.heap.size + 1 < _; omega) (by show ¬ (w.heap.size + 1 = q); omega))).trans b3
    by_cases hlt : i < m
    · have hx : l[i]? = some (l[i]'(by rw [HM.out]; exact hlt)) := List.getElem?_eq_getElem _
      generalize l[i]'(by rw [HM.out]; exact hlt) = x at hx
      obtain ⟨b, o, rfl, e1, d1, d2, d3⟩ := b4.out.chg hC (fun k hk => by subst hk; exact ⟨_, hm⟩) i x hx
      have hmW : MapIs (wr.alloc (Obj.cells #[.int .i64 x.lba, .slice x.a x.d.length x.c] 39)) q mm := hmm.of_eq (alloc_heap hmm.lt)
      have f0 : (wr.alloc (Obj.cells #[.int .i64 x.lba, .slice x.a x.d.length x.c] 39)).cell? ⟨wr.heap.size, 0, none⟩ = some (.int .i64 x.lba) := by first | omega | (simp; done) | (simp; omega) | (go_num; done)
      have f1 : (wr.alloc (Obj.cells #[.int .i64 x.lba, .slice x.a x.d.length x.c] 39)).cell? ⟨wr.heap.size, 1, none⟩ = some (.slice x.a x.d.length x.c) := by first | omega | (simp; done) | (simp; omega) | (go_num; done)
      have hCW : Chg (· = q) w2 (wr.alloc (Obj.cells #[.int .i64 x.lba, .slice x.a x.d.length x.c] 39)) := hC.alloc _
      have hqr : q < wr.heap.size := hmm.lt
      by_cases hin : x.lba ∈ (l.take i).map (·.lba)
      · go_wp2_with fail
        rw [map_lookup hmW Try.underlying85 Try.underlying3 Try.zero3, HV.out, if_pos hin]
        obtain ⟨o3, ho, hm3⟩ := map_update (P := Try.prog) (k := x.lba) (v := .int .i64 2) hmW Try.underlying85 Try.underlying3
        have F0 : (setBlock (wr.alloc (Obj.cells #[.int .i64 x.lba, .slice x.a x.d.length x.c] 39)) q o3).cell? ⟨wr.heap.size, 0, none⟩ = some (.int .i64 x.lba) := (World.cell?_of_block (a := ⟨wr.heap.size, 0, none⟩) (setBlock_other (by show wr.heap.size ≠ q; omega))).trans f0
        go_wp2_with fail
        rw [map_lookup hm3 Try.underlying85 Try.underlying3 Try.zero3, mget_put, if_pos rfl]
        have hc : Hid (code n l = 1) := by
          show _ = _
          have := HT.out
          rw [drop_cons hx, argBad, decide_eq_true hin] at this
          unfold code
          rw [HB.out, this]; rfl
        go_wp2
        go_ret
        exact ⟨by rw [hc.out]; rfl, hfin hc.out _ (hCW.trans ((setBlock_chg o3).mono (fun _ _ h => h)))⟩
      · obtain ⟨o3, ho, hm3⟩ := map_update (P := Try.prog) (k := x.lba) (v := .int .i64 1) hmW Try.underlying85 Try.underlying3
        have F0 : (setBlock (wr.alloc (Obj.cells #[.int .i64 x.lba, .slice x.a x.d.length x.c] 39)) q o3).cell? ⟨wr.heap.size, 0, none⟩ = some (.int .i64 x.lba) := (World.cell?_of_block (a := ⟨wr.heap.size, 0, none⟩) (setBlock_other (by show wr.heap.size ≠ q; omega))).trans f0
        have F1 : (setBlock (wr.alloc (Obj.cells #[.int .i64 x.lba, .slice x.a x.d.length x.c] 39)) q o3).cell? ⟨wr.heap.size, 1, none⟩ = some (.slice x.a x.d.length x.c) := (World.cell?_of_block (a := ⟨wr.heap.size, 1, none⟩) (setBlock_other (by show wr.heap.size ≠ q; omega))).trans f1
        have hC3 : Chg (· = q) w2 (setBlock (wr.alloc (Obj.cells #[.int .i64 x.lba, .slice x.a x.d.length x.c] 39)) q o3) := hCW.trans ((setBlock_chg o3).mono (fun _ _ h => h))
        have D3 := Lib.hid d3; clear d3
        have hd := D3.out.2.2.1
        unfold maxLen at hd
        by_cases h40 : x.d.length = 40
        · have t40 : ((x.d.length : Int) != 40) = false := by simp; omega
          have H40 := Lib.hid h40; clear h40
          go_wp2_with fail
          rw [map_lookup hmW Try.underlying85 Try.underlying3 Try.zero3, HV.out, if_neg hin]
          go_wp2_with fail
          rw [map_lookup hm3 Try.underlying85 Try.underlying3 Try.zero3, mget_put, if_pos rfl]
          go_wp2
          go_roundw
          case rel => 
            refine ⟨i + 1, by omega, by go_num, hC3, ?_, _, hm3, fun k => ?_⟩
            · rw [HT.out, drop_cons hx, argBad, decide_eq_false hin, H40.out, List.take_add_one, hx]; simp
            · rw [mget_put, List.take_add_one, hx, HV.out]
              by_cases e : k = x.lba
              · subst e; simp
              · rw [if_neg e]; simp [e]
          case measure => simp [intOf]; omega
        · have t40 : ((x.d.length : Int) != 40) = true := by simp; omega
          have hc : Hid (code n l = 1) := by
            show _ = _
            have := HT.out
            rw [drop_cons hx, argBad, show (x.d.length != 40) = true by simpa using h40] at this
            unfold code
            rw [HB.out, this]; simp
          clear h40
          go_wp2_with fail
          rw [map_lookup hmW Try.underlying85 Try.underlying3 Try.zero3, HV.out, if_neg hin]
          go_wp2_with fail
          rw [map_lookup hm3 Try.underlying85 Try.underlying3 Try.zero3, mget_put, if_pos rfl]
          go_wp2
          go_ret
          exact ⟨by rw [hc.out]; rfl, hfin hc.out _ hC3⟩
    · have hB3 := hfin0 _ hC
      have r2 : wr.cell? ⟨w.heap.size, 0, none⟩ = some (.pointer (some ⟨g, 0, none⟩)) := (World.cell?_of_block (a := ⟨w.heap.size, 0, none⟩) (hC.block _ (by show w.heap.size < _; omega) (by show ¬ (w.heap.size = q); omega))).trans b2
      have hc : Hid (code n l = 0) := by
        show _ = _
        have := HT.out
        rw [List.drop_eq_nil_of_le (by rw [HM.out]; omega), argBad] at this
        unfold code
        rw [HB.out, this]; rfl
      have hP3 := Lib.hid (b4.out.chg hC (fun k hk => by subst hk; exact ⟨_, hm⟩))
      have hM3 := Lib.hid (HD.out.below hB3)
      clear HT HV hmm hfin hfin0 b3 b2 b4 hm HB hB1 hB2 HD hC
      have hx0 : w.heap.size + 1 < wr.heap.size := by have := World.block_lt_of_cell? wr _ r3; exact this
      have hgx : g < w.heap.size := hg
      have hrx : r < wr.heap.size := hM3.out.lt_r
      generalize wr = w3 at *
      have hrb : r < w.heap.size := HR
      go_wp2_with fail
      go_loopw [53] (fun iv wr => ∃ i : Nat, i ≤ m ∧ iv = .int .i64 i ∧ Chg (· = r) w3 wr ∧ MAt wr g r n (upd d (l.take i))) (fun iv _ => m - (intOf iv).toNat)
      case atStart => exact ⟨0, Nat.zero_le _, rfl, Chg.refl _ _, hM3.out⟩
      case round =>
        obtain ⟨i, hi, rfl, hC, hMr⟩ := hrel
        have HMr := Lib.hid hMr; clear hMr
        by_cases hlt : i < m
        · have hx : l[i]? = some (l[i]'(by rw [HM.out]; exact hlt)) := List.getElem?_eq_getElem _
          generalize l[i]'(by rw [HM.out]; exact hlt) = x at hx
          obtain ⟨b, o, rfl, e1, d1, d2, d3⟩ := hP3.out.chg hC (fun k hk => by subst hk; exact hM3.out.map) i x hx
          have hlen := code_len hc.out x (List.mem_of_getElem? hx)
          have hX := Lib.hid hx; clear hx
          obtain ⟨b5, o5, hxa, hb5, _⟩ := d3.2.2.2.2.head (by omega)
          obtain ⟨xl, xa, xc, xd⟩ := x
          simp only at hlen hxa d1 d2
          subst hxa
          have hxd : Rd u8 wr (some ⟨b5, o5, none⟩) xd := d3.2.2.2.2
          have hxl1 : -9223372036854775808 ≤ xl := d3.1
          have hxl2 : xl ≤ 9223372036854775807 := d3.2.1
          have d40 : xd.length = 40 := hlen
          have rr2 : wr.cell? ⟨w.heap.size, 0, none⟩ = some (.pointer (some ⟨g, 0, none⟩)) := (World.cell?_of_block (a := ⟨w.heap.size, 0, none⟩) (hC.block _ (by show w.heap.size < _; omega) (by show ¬ (w.heap.size = r); omega))).trans r2
          have G1 := HMr.out.c1
          have hrs := hC.size
          have hne : g ≠ r := by
            intro e
            obtain ⟨m5, es, cl, h5, _⟩ := HMr.out.map
            have := HMr.out.cell
            rw [e, h5] at this
            cases this
          rw [d40] at d2
          have D40 := Lib.hid d40
          clear d3 hlen d40
          have HXD := Lib.hid hxd; clear hxd
          have hgs : g < wr.heap.size := by omega
          go_wp2_with fail
          have k1 := (World.cell?_alloc_past (.cells #[.int .i64 xl, .slice (some ⟨b5, o5, none⟩) 40 xc] 39) w.heap.size 0 (w := wr) (by omega)).trans rr2
          have k2 := (World.cell?_alloc_past (.cells #[.int .i64 xl, .slice (some ⟨b5, o5, none⟩) 40 xc] 39) g 1 (w := wr) hgs).trans G1
          have k3 : (wr.alloc (.cells #[.int .i64 xl, .slice (some ⟨b5, o5, none⟩) 40 xc] 39)).cell? ⟨wr.heap.size, 0, none⟩ = some (.int .i64 xl) := by first | omega | (simp; done) | (simp; omega) | (go_num; done)
          have k4 : (wr.alloc (.cells #[.int .i64 xl, .slice (some ⟨b5, o5, none⟩) 40 xc] 39)).cell? ⟨wr.heap.size, 1, none⟩ = some (.slice (some ⟨b5, o5, none⟩) 40 xc) := by first | omega | (simp; done) | (simp; omega) | (go_num; done)
          have HMW : Hid (MAt (wr.alloc (.cells #[.int .i64 xl, .slice (some ⟨b5, o5, none⟩) 40 xc] 39)) g r n (upd d (l.take i))) := HMr.out.below ((Below.refl _ wr).alloc (Nat.le_refl _) _)
          have hBW : Below wr.heap.size wr (wr.alloc (.cells #[.int .i64 xl, .slice (some ⟨b5, o5, none⟩) 40 xc] 39)) := (Below.refl _ wr).alloc (Nat.le_refl _) _
          have hsW : (wr.alloc (.cells #[.int .i64 xl, .slice (some ⟨b5, o5, none⟩) 40 xc] 39)).heap.size = wr.heap.size + 1 := by simp
          generalize wr.alloc (.cells #[.int .i64 xl, .slice (some ⟨b5, o5, none⟩) 40 xc] 39) = W at *
          have CL := Lib.hid (fun W' (hW' : Below W.heap.size W W') => D40.out ▸ clone_some ⟨b5, o5, none⟩ xc xd W' (by rw [D40.out]; omega) (HXD.out.below (hBW.trans (hW'.mono (by omega)))))
          have LB := Lib.hid (fun (v : Value) w1 (hW : Below W.heap.size W w1) => (HMW.out.below hW))
          have hCWr : Chg (· = r) wr W := Chg.of_below hBW
          have HXW : Hid (Rd u8 W (some ⟨b5, o5, none⟩) xd) := HXD.out.below hBW
          generalize wr.heap.size = bp at *
          go_region_held3 (fun w' => w'.cell? ⟨w.heap.size, 0, none⟩ = some (.pointer (some ⟨g, 0, none⟩)) ∧ w'.cell? ⟨g, 1, none⟩ = some (.map (some r)) ∧ w'.cell? ⟨bp, 0, none⟩ = some (.int .i64 xl) ∧ w'.cell? ⟨bp, 1, none⟩ = some (.slice (some ⟨b5, o5, none⟩) 40 xc))
            (go_keep)
            (first
             | (go_at_call 44
                refine (CL.out _ (below_drewN (Below.refl _ W) 1)).mono ?_
                rintro e w1 ⟨a', c', rfl, hBc, hown⟩
                have hBd : Below W.heap.size W w1 := (below_drewN (Below.refl _ W) 1).trans hBc
                have HOW := Lib.hid hown
                clear hown
                obtain ⟨m1, hm1, hm2⟩ := (LB.out (.int .i64 0) w1 hBd).ex
                obtain ⟨o3, ho, hm3⟩ := map_update (P := Try.prog) (k := xl) (v := .slice a' 40 c') hm1 Try.underlying80 Try.underlying3
                have s1 := (hBd.cell (p := ⟨w.heap.size, 0, none⟩) (by show w.heap.size < _; omega)).trans k1
                have s2 := (hBd.cell (p := ⟨g, 1, none⟩) (by show g < _; omega)).trans k2
                have s3 := (hBd.cell (p := ⟨bp, 0, none⟩) (by show bp < _; omega)).trans k3
                have s4 := (hBd.cell (p := ⟨bp, 1, none⟩) (by show bp < _; omega)).trans k4
                have t1 := (World.cell?_of_block (a := ⟨w.heap.size, 0, none⟩) (setBlock_other (w := w1) (o := o3) (r := r) (by show w.heap.size ≠ r; omega))).trans s1
                have t2 := (World.cell?_of_block (a := ⟨g, 1, none⟩) (setBlock_other (w := w1) (o := o3) (r := r) (by show g ≠ r; omega))).trans s2
                have t3 := (World.cell?_of_block (a := ⟨bp, 0, none⟩) (setBlock_other (w := w1) (o := o3) (r := r) (by show bp ≠ r; omega))).trans s3
                have t4 := (World.cell?_of_block (a := ⟨bp, 1, none⟩) (setBlock_other (w := w1) (o := o3) (r := r) (by show bp ≠ r; omega))).trans s4))
          have hC4 : Chg (· = r) w3 (setBlock w1 r o3) := ((hC.trans hCWr).trans (Chg.of_below hBd)).trans (setBlock_chg o3)
          have hCs : Chg (· = r) w1 (setBlock w1 r o3) := setBlock_chg o3
          have hX4 : Hid (Rd u8 (setBlock w1 r o3) (some ⟨b5, o5, none⟩) xd) := (HXW.out.below hBd).chg_map hCs (fun k hk => by subst hk; exact ⟨_, hm1⟩)
          have hY4 : Hid (Rd u8 (setBlock w1 r o3) a' xd) := (Rd.of_own HOW.out).2.chg_map hCs (fun k hk => by subst hk; exact ⟨_, hm1⟩)
          have hg4 : Hid ((setBlock w1 r o3).heap[g]? = some (.cells ([.int .i64 n, .map (some r)] : List Value).toArray 82 (0, 0))) := (setBlock_other (by omega)).trans ((hBd.block g (by omega)).trans (HMW.out.cell))
          have hE4 : Hid (∀ k, Ent (setBlock w1 r o3) (mget m1 k) (upd d (l.take i) k)) := fun k => (hm2 k).chg hCs (fun k hk => by subst hk; exact ⟨_, hm1⟩)
          have hup : Hid (upd d (l.take (i + 1)) = put1 (upd d (l.take i)) ⟨xl, some ⟨b5, o5, none⟩, xc, xd⟩) := by
            show _ = _
            unfold upd
            rw [List.take_add_one, hX.out, List.foldl_append]; rfl
          have NO := Lib.hid (D40.out ▸ noughts_any (some ⟨b5, o5, none⟩) xc xd (setBlock w1 r o3) (by rw [D40.out]; omega) hX4.out)
          have hs4 : (setBlock w1 r o3).heap.size = w1.heap.size := setBlock_size o3
          have hs1 := hBd.size
          generalize setBlock w1 r o3 = w4 at *
          clear s1 s2 s3 s4 k1 k2 k3 k4 CL LB ho hBc
          cases hz : allz xd with
          | false =>
            have HZ := Lib.hid hz; clear hz
            go_wp2_with fail
            refine NO.out.mono ?_
            rintro e w5 ⟨rfl, hB5⟩
            rw [HZ.out]
            go_wp2
            go_roundw
            case rel =>
              refine ⟨i + 1, by omega, by go_num, hC4.trans (Chg.of_below hB5), ?_⟩
              rw [hup.out]
              have hM4 : MAt w4 g r n (put1 (upd d (l.take i)) ⟨xl, some ⟨b5, o5, none⟩, xc, xd⟩) := by
                refine ⟨hg4.out, ⟨_, hm3, fun k => ?_⟩, HMr.out.lo, HMr.out.hi⟩
                rw [mget_put]
                unfold put1
                by_cases e : k = xl
                · rw [if_pos e, if_pos e]
                  obtain ⟨b6, o6, h6, _⟩ := hY4.out.head (by rw [D40.out]; omega)
                  subst h6
                  exact ⟨_, _, rfl, hY4.out, D40.out, HZ.out⟩
                · rw [if_neg e, if_neg e]
                  exact hE4.out k
              exact hM4.below hB5
            case measure => simp [intOf]; omega
          | true =>
            have HZ := Lib.hid hz; clear hz
            go_wp2_with fail
            refine NO.out.mono ?_
            rintro e w5 ⟨rfl, hB5⟩
            rw [HZ.out]
            have k1 := (hB5.cell (p := ⟨w.heap.size, 0, none⟩) (by show w.heap.size < _; omega)).trans t1
            have k2 := (hB5.cell (p := ⟨g, 1, none⟩) (by show g < _; omega)).trans t2
            have k3 := (hB5.cell (p := ⟨bp, 0, none⟩) (by show bp < _; omega)).trans t3
            have hm5 : MapIs w5.drew r (mput m1 xl (.slice a' 40 c')) := (hm3.of_eq (hB5.block r (by omega))).of_eq rfl
            obtain ⟨o4, ho4, hm6⟩ := map_delete (P := Try.prog) (k := xl) (ty := 0) hm5 Try.underlying80 Try.underlying3 3
            go_wp2_with fail
            have hC6 : Chg (· = r) w3 (setBlock w5.drew r o4) := (hC4.trans ((Chg.of_below hB5).drew)).trans ((setBlock_chg o4).mono (fun _ _ h => h))
            have hC45 : Chg (· = r) w4 (setBlock w5.drew r o4) := ((Chg.of_below hB5).drew).trans (setBlock_chg o4)
            go_region
            go_wp2
            go_roundw
            case rel =>
              refine ⟨i + 1, by omega, by go_num, hC6, ?_⟩
              rw [hup.out]
              refine ⟨(setBlock_other (by omega)).trans ((hB5.block g (by omega)).trans hg4.out), ⟨_, hm6, fun k => ?_⟩, HMr.out.lo, HMr.out.hi⟩
              rw [mget_del _ _ _ (nodup_put _ _ _ hm1.nodup), mget_put]
              unfold put1
              by_cases e : k = xl
              · rw [if_pos e, if_pos e]
                exact allz_iff xd D40.out HZ.out
              · rw [if_neg e, if_neg e, if_neg e]
                exact (hE4.out k).chg hC45 (fun k hk => by subst hk; exact ⟨_, hm3⟩)
            case measure => simp [intOf]; omega
        · go_wp2
          go_ret
          refine ⟨by rw [hc.out]; rfl, ?_⟩
          refine ⟨(Chg.of_below hB3).trans hC, ?_⟩
          rw [show after n l d = upd d l by unfold after; rw [hc.out]; rfl]
          have := HMr.out
          rwa [List.take_of_length_le (by rw [HM.out]; omega)] at this

theorem run_any {g r : Nat} {n : Int} {d : Int → List Int} (t : Int) (a : Option Addr) (c : Nat) (l : List PutV) (w : World) (hn : l.length ≤ 1000000) (h1 : PutsAt w a l) (hM : MAt w g r n d) :
    Calls Try.prog 19 #[.pointer (some ⟨g, 0, none⟩), .agg #[.int .i64 t, .slice a l.length c]] w fun e w' => e = .returned (.int .i64 (code n l)) ∧ Chg (· = r) w w' ∧ MAt w' g r n (after n l d) := by
  cases hb : anyBad n l with
  | false => exact run_arg t a c l w hn h1 hM hb
  | true =>
    have hc : code n l = 2 := by unfold code; rw [hb]; rfl
    refine (run_bad t a c l w (by omega) h1 hM hb).mono ?_
    rintro e w' ⟨rfl, hB⟩
    rw [hc]
    refine ⟨rfl, Chg.of_below hB, ?_⟩
    rw [show after n l d = d by unfold after; rw [hc]; rfl]
    exact hM.below hB
end Go.Proofs.Ytdgnhimiamchmaa
