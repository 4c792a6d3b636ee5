import Derived.Test.YtglkbkocdeimiaaE10
namespace Go.Proofs.Ytglkbkocdeimiaa
open Go.RowKit
open BigFrame Lib
open Go.ChangeMaps (setBlock)

def pr (A : Int → List AV) (h : Int) : Int → List AV := fun k => (A k).drop (cut (A k) h)
def cuts (A : Int → List AV) (h : Int) (n : Nat) : Nat := sumN (fun k => cut (A k) h) n
theorem sum_le {f g : Int → Nat} : ∀ (l : List Int), (∀ k ∈ l, f k ≤ g k) → (l.map f).sum ≤ (l.map g).sum
  | [], _ => Nat.le_refl _
  | k :: l, h => by
    simp only [List.map_cons, List.sum_cons]
    have := sum_le l (fun x hx => h x (by simp [hx]))
    have := h k (by simp)
    omega

theorem flat_drop {α : Type} {enc : α → List Value} {k : Nat} (hk : ∀ x, (enc x).length = k) : ∀ (l : List α) (j : Nat), (l.drop j).flatMap enc = (l.flatMap enc).drop (j * k)
  | l, 0 => by simp
  | [], j + 1 => by simp
  | x :: l, j + 1 => by
    have e : (j + 1) * k = (enc x).length + j * k := by rw [hk, Nat.succ_mul]; omega
    rw [List.drop_succ_cons, List.flatMap_cons, flat_drop hk l j, e, List.drop_append]
    simp

set_option maxRecDepth 100000 in
set_option maxHeartbeats 2000000 in
theorem prune_any {B g r n : Nat} {last : Int} {A : Int → List AV} (h : Int) (w : World) (hX : ExAt B w g r n last A) (hn : n ≤ 1000) (hBw : B ≤ w.heap.size) :
    Calls Try.prog 18 #[.pointer (some ⟨g, 0, none⟩), .int .i64 h] w fun e w' => e = .returned (.int .i64 (cuts A h n)) ∧ Chg (· = r) w w' ∧ Below B w w' ∧ ExAt B w' g r n last (pr A h) := by
  have GO := Lib.hid (gone_any w hX)
  have c1 := hX.c1
  have hPU := Lib.hid hX.pure
  have hBg := hX.bg
  have hBr := hX.br
  have HCELL := Lib.hid hX.cell
  obtain ⟨m, E, hE, hA⟩ := hX.ex
  have hgl := lt_heap hX.cell
  have hrl := hE.map.lt
  have hgr : g ≠ r := by
    rintro rfl
    obtain ⟨es, cl, hb, _⟩ := hE.map
    rw [hX.cell] at hb; cases hb
  have hs := hE.sum (n := n) (fun k hk => by have := hX.pure.out k hk; rw [hA k] at this; simpa [absV] using this) (fun k => cut (A k) h) (fun k hk => by rw [hA k, hk]; rfl)
  have hle : cuts A h n ≤ 1099511627776000 := by
    have := sumN_le (fun k => cut (A k) h) (fun _ => 1099511627776) n (fun k _ _ => Nat.le_trans (cut_le _ _) (hX.pure.short k))
    rw [sumN_const] at this
    unfold cuts
    have h2 : n * 1099511627776 ≤ 1000 * 1099511627776 := Nat.mul_le_mul_right _ hn
    omega
  have HS : Hid (((m.map (·.1)).map fun k => cut (A k) h).sum = cuts A h n) := hs
  have HE := Lib.hid hE
  have HA := Lib.hid hA
  obtain ⟨o, ho, hR⟩ := map_range (P := Try.prog) hE.map Try.underlying60
  clear hX hE hA hs
  go_enter Try.func18, Try.ntmps18
  go_wp2_with fail
  refine GO.out.mono ?_
  rintro e w' ⟨rfl, rfl⟩
  go_wp2_with fail
  have hB0 : Below w.heap.size w (w.alloc o) := (Below.refl _ w).alloc (Nat.le_refl _) _
  generalize hit : w.heap.size = it at *
  generalize w.alloc o = w2 at *
  clear ho
  have hBd0 : Below B w w2 := hB0.mono hBw
  go_loopg [4] m.length (fun k sv wr => Chg (· = r) w wr ∧ Below B w wr ∧ ∃ (left m' : IM) (E' : Int → List Ver) (s : Nat), k = left.length ∧ RangeIs wr it r m' left ∧ ExMap B wr r m' E' ∧ sv = .int .i64 s ∧
      s + ((left.map (·.1)).map fun k => cut (A k) h).sum = cuts A h n ∧ (∀ k, k ∈ left.map (·.1) → E' k = E k) ∧ (∀ k, k ∉ left.map (·.1) → E' k = (E k).drop (cut (A k) h)))
  case atStart =>
    refine ⟨Chg.of_below (by rw [hit]; exact hB0), hBd0, m, m, E, 0, rfl, hR, HE.out.chg (S := fun _ => False) (Chg.of_below (by rw [hit]; exact hB0)) (fun _ h => h.elim) (fun _ h => h.elim) id, rfl, by rw [HS.out]; omega, fun k _ => rfl, fun k hk => ?_⟩
    have : E k = [] := by
      apply Classical.byContradiction
      intro hx
      obtain ⟨p, hp, he⟩ := HE.out.key_mem hx
      exact hk (List.mem_map.2 ⟨p, hp, he⟩)
    simp [this]
  case round =>
    obtain ⟨hC, hBB, left, m', E', s, hk, hR1, hE', rfl, hsum, hl1, hl2⟩ := hrel
    have HC := Lib.hid hC; have HBB := Lib.hid hBB; have HK := Lib.hid hk; have HE' := Lib.hid hE'; have HSUM := Lib.hid hsum; have HL1 := Lib.hid hl1; have HL2 := Lib.hid hl2
    clear hC hBB hk hE' hsum hl1 hl2
    have hwr := HC.out.size
    rcases range_next (P := Try.prog) hR1 0 with ⟨hl0, hn0⟩ | ⟨p, left', w', hp1, hp2, hp3, hp4, hp5, hn1, hn2, hR2, hC2, hs2⟩
    · have hd : Hid (s = cuts A h n) := by
        show _ = _
        have := HSUM.out
        rw [hl0] at this; simpa using this
      have hfin : Hid (∀ k, pr A h k = absV (E' k)) := by
        intro k
        rw [HL2.out k (by rw [hl0]; simp)]
        unfold pr absV
        rw [HA.out k]
        unfold absV
        rw [List.map_drop]
      clear hl0
      go_wp2
      go_ret
      refine ⟨by rw [hd.out]; rfl, HC.out, HBB.out, ?_⟩
      exact ⟨(HC.out.block g (by rw [hit]; exact hgl) hgr).trans HCELL.out, hBg, hBr, ⟨m', E', HE'.out, hfin.out⟩, hPU.out.sub (fun k => List.drop_sublist _ _)⟩
    · have hit' : it < wr.heap.size := hR1.lt
      have hne := hR1.ne
      have hperm := Lib.hid (range_perm hR1.keys hR2.keys hp1 hp3 hp4 hp5)
      have hpl : p.1 ∈ left.map (·.1) := List.mem_map.2 ⟨p, hp1, rfl⟩
      have hpl' : p.1 ∉ left'.map (·.1) := by
        have := (hperm.out.map (·.1)).nodup_iff.1 hR1.keys
        simp only [List.map_cons, List.nodup_cons] at this
        exact this.1
      have hkin : p.1 ∈ m'.map (·.1) := List.mem_map.2 ⟨p, hp2, rfl⟩
      have hnoit : ∀ e, NoRow wr e it := by
        intro e cur hcur
        obtain ⟨es, clock, since, seen, c0, h1, h2, h3, h4, h5, h6, h7⟩ := hR1
        rw [hcur] at h6; cases h6
      have hE2 : ExMap B w' r m' E' := HE'.out.chg hC2 (by rintro k rfl; exact hnoit 5) (by rintro k rfl; exact hnoit 70) (fun e => hne e.symm)
      have hC2' : Chg (· = r) w w' := ⟨hC2.os.trans HC.out.os, hC2.tape.trans HC.out.tape, hC2.output.trans HC.out.output, Nat.le_trans HC.out.size hC2.size, fun k hk hn => by
        have hki : k ≠ it := by rw [← hit]; omega
        exact (hC2.block k (by omega) hki).trans (HC.out.block k hk hn)⟩
      have hBB' : Below B w w' := ⟨hC2.os.trans HBB.out.os, hC2.tape.trans HBB.out.tape, hC2.output.trans HBB.out.output, by omega, fun k hk => by
        have hki : k ≠ it := by rw [← hit]; omega
        exact (hC2.block k (by omega) hki).trans (HBB.out.block k hk)⟩
      have hcell' : w'.heap[g]? = some (.cells ([.int .i64 n, .map (some r), .int .i64 last] : List Value).toArray 62 (0, 0)) := (hC2'.block g (by rw [hit] at *; omega) hgr).trans HCELL.out
      have hX' : ExAt B w' g r n last (fun k => absV (E' k)) := ⟨hcell', hBg, hBr, ⟨m', E', hE2, fun _ => rfl⟩, hPU.out.sub (fun k => by
        show (absV (E' k)).Sublist (A k)
        rw [HA.out k]
        by_cases hk : k ∈ left.map (·.1)
        · rw [HL1.out k hk]; exact List.Sublist.refl _
        · rw [HL2.out k hk]; unfold absV; rw [List.map_drop]; exact List.drop_sublist _ _)⟩
      have AT := Lib.hid (at_any p.1 h w' hX')
      have c1' := hX'.c1
      obtain ⟨b, cap, hpv, hown, hlen, hbl⟩ := hE2.entry hp2
      have hEE := HL1.out p.1 hpl
      have HOWN := Lib.hid hown
      have HX' := Lib.hid hX'; have HE2 := Lib.hid hE2; have HC2 := Lib.hid hC2'; have HBB' := Lib.hid hBB'; have HR2 := Lib.hid hR2
      have HSS : Hid (s + cut (A p.1) h + ((left'.map (·.1)).map fun k => cut (A k) h).sum = cuts A h n) := by
        show _ = _
        have h1 := HSUM.out
        have h2 := ((hperm.out.map (·.1)).map fun k => cut (A k) h).sum_nat
        rw [h2] at h1
        simp only [List.map_cons, List.sum_cons] at h1
        omega
      have HL1' : Hid (∀ k, k ∈ left'.map (·.1) → k ∈ left.map (·.1)) := by
        intro k hk
        obtain ⟨q, hq, rfl⟩ := List.mem_map.1 hk
        exact List.mem_map.2 ⟨q, hp4 q hq, rfl⟩
      have HL2' : Hid (∀ k, k ∉ left'.map (·.1) → k ≠ p.1 → k ∉ left.map (·.1)) := by
        intro k hk hne hin
        obtain ⟨q, hq, rfl⟩ := List.mem_map.1 hin
        rcases hp3 q hq with rfl | h
        · exact hne rfl
        · exact hk (List.mem_map.2 ⟨q, h, rfl⟩)
      have HAP : Hid (A p.1 = absV (E' p.1)) := by show _ = _; rw [hEE]; exact HA.out p.1
      have HPL := Lib.hid hpl; have HPL' := Lib.hid hpl'; have HKI := Lib.hid hkin; have HEE := Lib.hid hEE
      have hlm : (E' p.1).length ≤ 1099511627776 := by
        have := hPU.out.short p.1
        rw [HAP.out] at this; simpa [absV] using this
      have hit2 : it < w'.heap.size := by omega
      have hs3 : w.heap.size ≤ w'.heap.size := by omega
      have hr3 : r < w'.heap.size := hE2.map.lt
      have HP5 := Lib.hid hp5
      clear hp1 hp2 hp3 hp4 hp5 hEE hpl hpl' hkin hown hX' hE2 hC2' hBB' hR1 hR2 hC2 hcell' hperm hnoit
      obtain ⟨pk, pv⟩ := p
      simp only at *
      subst hpv
      generalize hle : (E' pk).length = len at *
      have HLE := Lib.hid hle; clear hle
      go_wp2_with fail
      refine AT.out.mono ?_
      rintro e w5 ⟨⟨i, rfl, hi⟩, rfl⟩
      have HI := Lib.hid hi
      have i0 := hi.1
      have i1 : i < (len : Int) := by have := hi.2.1; simpa [absV, HLE.out] using this
      have HCUT : Hid (cut (A pk) h = i.toNat) := by show _ = _; rw [HAP.out]; exact cut_at hi (by have := hPU.out.rise pk; rw [HAP.out] at this; exact this)
      clear hi
      by_cases hi0 : 0 < i
      · obtain ⟨j, rfl⟩ : ∃ j : Nat, i = (j : Int) := ⟨i.toNat, by omega⟩
        have hj0 : 0 < j := by omega
        have hjl : j < len := by omega
        have hcj : Hid (cut (A pk) h = j) := by show _ = _; rw [HCUT.out]; omega
        have hXS : ((E' pk).drop j).length = len - j := by rw [List.length_drop, HLE.out]
        have hflat : ((E' pk).drop j).flatMap encV = ((E' pk).flatMap encV).drop (j * 2) := flat_drop (enc := encV) (k := 2) (fun _ => rfl) _ _
        have hfl : ((E' pk).flatMap encV).length = len * 2 := by rw [flat_len (k := 2) (fun _ => rfl), HLE.out]
        have CL := Lib.hid (fun W (hW : Below w'.heap.size w' W) => cloneV ⟨b, j * 2, none⟩ (len - j) (cap - j) (((E' pk).drop j).flatMap encV) W (by omega) (by rw [flat_len (k := 2) (fun _ => rfl), hXS]) (Nat.lt_of_lt_of_le hbl hW.size)
          (fun q u hu => by
            rw [hflat, List.getElem?_drop] at hu
            have hq : j * 2 + q < len * 2 := by have := (List.getElem?_eq_some_iff.1 hu).1; omega
            have hc := HOWN.out.cellAt (j * 2 + q) (by omega)
            rw [hu] at hc
            rw [show (Addr.mk b (j * 2) none).add q = ⟨b, j * 2 + q, none⟩ from by unfold Addr.add; split <;> simp_all]
            exact (hW.cell (p := ⟨b, j * 2 + q, none⟩) hbl).trans hc)
          (fun u hu => by
            obtain ⟨x, _, hx⟩ := List.mem_flatMap.1 hu
            simp [encV] at hx
            rcases hx with rfl | rfl <;> rfl))
        obtain ⟨hc1, hc2⟩ : len ≤ cap ∧ cap ≤ maxLen := by
          rcases HOWN.out.2 with ⟨_, h2⟩ | ⟨g', cap', cur, h1, h2, h3, h4, h5, h6⟩
          · omega
          · injection h1 with _ _ e; subst e; exact ⟨h4, h5⟩
        have b1 : (0 : Int) ≤ (j : Int) := by omega
        have hcapj : Hid (¬ (cap = j)) := by show ¬ _; omega
        have hgl' : g < w'.heap.size := by omega
        have b2 : (j : Int) ≤ (len : Int) := by omega
        have b3 : (len : Int) ≤ (cap : Int) := by omega
        have b4 : (j : Int) ≤ (cap : Int) := by omega
        have hsj : s + j ≤ 1099511627776000 := by have := HSS.out; rw [hcj.out] at this; omega
        have HXS := Lib.hid hXS
        clear hflat hfl hXS
        go_wp2_with fail
        go_region_held3 (fun W => W.cell? ⟨g, 1, none⟩ = some (.map (some r)))
          (go_keep)
          (first
           | (go_at_call 34
              rw [if_neg hcapj.out]
              refine (CL.out _ ((Below.refl _ _).drew)).mono ?_
              rintro e w6 ⟨a6, c6, rfl, hB6, hown6⟩
              obtain ⟨gg, rfl, hgg⟩ : ∃ gg, a6 = some ⟨gg, 0, none⟩ ∧ w'.heap.size ≤ gg := by
                rcases hown6.2 with ⟨_, h2⟩ | ⟨g', cap', cur, h1, h2, h3, h4, h5, h6⟩
                · omega
                · injection h1 with e1 _ _; exact ⟨g', e1, h2⟩
              have hB6' : Below w'.heap.size w' w6 := (Below.refl _ _).drew.trans hB6
              have hg6 : w6.cell? ⟨g, 1, none⟩ = some (.map (some r)) := (hB6'.cell (p := ⟨g, 1, none⟩) hgl').trans c1'
              obtain ⟨oo, hoo, hR6⟩ := range_update (P := Try.prog) (v := .slice (some ⟨gg, 0, none⟩) (len - j) c6) (HR2.out.below hB6') HKI.out HPL'.out Try.underlying60 Try.underlying3
              have hg7 : (setBlock w6 r oo).cell? ⟨g, 1, none⟩ = some (.map (some r)) := (World.cell?_of_block (a := ⟨g, 1, none⟩) (setBlock_other hgr)).trans hg6
              have HOWN6 := Lib.hid hown6; have HR6 := Lib.hid hR6
              clear hown6 hR6 hB6))
        have hEd : Hid (((E' pk).drop j).length = len - j) := HXS.out
        have hm6 : Hid (Chg (· = r) w (setBlock w6 r oo)) := ⟨hB6'.os.trans HC2.out.os, hB6'.tape.trans HC2.out.tape, hB6'.output.trans HC2.out.output, by rw [setBlock_size]; exact Nat.le_trans HC2.out.size hB6'.size, fun k hk hn => by
          exact (setBlock_other hn).trans ((hB6'.block k (by omega)).trans (HC2.out.block k hk hn))⟩
        have hb6 : Hid (Below B w (setBlock w6 r oo)) := ⟨hB6'.os.trans HBB'.out.os, hB6'.tape.trans HBB'.out.tape, hB6'.output.trans HBB'.out.output, by rw [setBlock_size]; exact Nat.le_trans HBB'.out.size hB6'.size, fun k hk => by
          have hk2 : k < w.heap.size := by omega
          exact (setBlock_other (by omega)).trans ((hB6'.block k (by omega)).trans (HBB'.out.block k hk))⟩
        have hE6 : ExMap B w6 r m' E' := HE2.out.chg (S := fun _ => False) (Chg.of_below hB6') (fun _ h => h.elim) (fun _ h => h.elim) id
        have hX7 := hE6.repl (l' := (E' pk).drop j) (k := pk) (H := w'.heap.size) (gg := gg) (cap := c6) (o := oo) (by rw [hEd.out]; exact HOWN6.out) (by intro e; have := hEd.out; rw [e] at this; simp at this; omega) (by omega)
          (fun q u hq hu => by
            have h1 := HE2.out.ent q
            rw [hq] at h1
            have hv : VRow B w' u (E' q) := h1
            rcases hv.1.2 with ⟨e1, _⟩ | ⟨g', cap', cur, e1, e2, e3, _⟩
            · rw [e1] at hu; cases hu
            · rw [e1] at hu
              have hu2 : g' = gg := by simpa [Value.ownBlock] using hu
              have h3 : g' < w'.heap.size := lt_heap e3
              omega)
          (fun x hx => by
            have h1 := hE6.ent pk
            cases hq : mget m' pk with
            | none => rw [hq] at h1; have h2 : E' pk = [] := h1; rw [h2] at hx; simp at hx
            | some u =>
              rw [hq] at h1
              have hv : VRow B w6 u (E' pk) := h1
              exact hv.2.2 x (List.mem_of_mem_drop hx))
          (by rw [hEd.out]; exact HR6.out.map)
        rw [hEd.out] at hX7
        have HX7 := Lib.hid hX7
        clear hX7 hE6 hB6' hg6 hoo
        go_wp2
        go_roundg left'.length
        case rel =>
          refine ⟨hm6.out, hb6.out, left', _, _, s + j, rfl, HR6.out, HX7.out, by go_num, by have := HSS.out; rw [hcj.out] at this; simpa using this, fun k hk => ?_, fun k hk => ?_⟩
          · have e : k ≠ pk := by rintro rfl; exact HPL'.out hk
            rw [if_neg e]; exact HL1.out k (HL1'.out k hk)
          · by_cases e : k = pk
            · subst e; rw [if_pos rfl, hcj.out, HEE.out]
            · rw [if_neg e]; exact HL2.out k (HL2'.out k hk e)
        case measure => have h1 := HK.out; have h2 := HP5.out; omega
      · have hc0 : Hid (cut (A pk) h = 0) := by show _ = _; rw [HCUT.out]; omega
        have t1 : decide (0 < i) = false := by simpa using hi0
        go_wp2_with fail
        go_roundg left'.length
        case rel =>
          refine ⟨HC2.out, HBB'.out, left', m', E', s, rfl, HR2.out, HE2.out, rfl, by have := HSS.out; rw [hc0.out] at this; simpa using this, fun k hk => HL1.out k (HL1'.out k hk), fun k hk => ?_⟩
          by_cases e : k = pk
          · subst e; rw [hc0.out]; exact HEE.out
          · exact HL2.out k (HL2'.out k hk e)
        case measure => have h1 := HK.out; have h2 := HP5.out; omega
end Go.Proofs.Ytglkbkocdeimiaa
