import Derived.Deep.AppendLies
import Derived.Test.YtdgnhimiamchmaaAw
import Derived.Test.YtdgnhimiamchmaaSk
namespace Go.Proofs.Ytdgnhimiamchmaa
open Go.RowKit
open BigFrame Lib
open Go.ChangeMaps (setBlock)

theorem own_below {w w' : World} {B : Nat} {e : TypeId} {s : Nat} {v : Value} {n : Nat} {xs : List Value} (h : w.ownsRow B e s v n xs) (hB : Below w.heap.size w w') : w'.ownsRow B e s v n xs := by
  refine ⟨h.1, ?_⟩
  rcases h.2 with h1 | ⟨g, cap, cur, h1, h2, h3, h4⟩
  · exact .inl h1
  · exact .inr ⟨g, cap, cur, h1, h2, (hB.block g (lt_heap h3)).trans h3, h4⟩
theorem own_chg {S : Nat → Prop} {w w' : World} {B : Nat} {e : TypeId} {s : Nat} {v : Value} {n : Nat} {xs : List Value} (h : w.ownsRow B e s v n xs) (hC : Chg S w w') (hS : ∀ b, v.ownBlock = some b → ¬ S b) : w'.ownsRow B e s v n xs := by
  refine ⟨h.1, ?_⟩
  rcases h.2 with h1 | ⟨g, cap, cur, h1, h2, h3, h4⟩
  · exact .inl h1
  · exact .inr ⟨g, cap, cur, h1, h2, (hC.block g (lt_heap h3) (hS g (by rw [h1]; rfl))).trans h3, h4⟩
theorem own_base {w : World} {B B' : Nat} {e : TypeId} {s : Nat} {v : Value} {n : Nat} {xs : List Value} (h : w.ownsRow B e s v n xs) (hB : B' ≤ B) : w.ownsRow B' e s v n xs := by
  refine ⟨h.1, ?_⟩
  rcases h.2 with h1 | ⟨g, cap, cur, h1, h2, h4⟩
  · exact .inl h1
  · exact .inr ⟨g, cap, cur, h1, Nat.le_trans hB h2, h4⟩
def NoRow (w : World) (e : TypeId) (k : Nat) : Prop := ∀ cur, w.heap[k]? ≠ some (.cells cur e (0, 0))
theorem own_no {w : World} {B : Nat} {e : TypeId} {s : Nat} {v : Value} {n : Nat} {xs : List Value} (h : w.ownsRow B e s v n xs) {k : Nat} (hk : NoRow w e k) : v.ownBlock ≠ some k := by
  rcases h.2 with ⟨h1, _⟩ | ⟨g, cap, cur, h1, h2, h3, h4⟩
  · rw [h1]; simp [Value.ownBlock]
  · rw [h1]; simp only [Value.ownBlock]
    rintro e; cases e
    exact hk _ h3
theorem noRow_map {w : World} {e : TypeId} {k : Nat} {m : IM} (h : MapIs w k m) : NoRow w e k := by
  obtain ⟨es, cl, hb, _⟩ := h
  intro cur hc; rw [hb] at hc; cases hc
theorem noRow_type {w : World} {e e' : TypeId} {k : Nat} {cur : Array Value} {z : Nat × Nat} (h : w.heap[k]? = some (.cells cur e' z)) (hne : e' ≠ e) : NoRow w e k := by
  intro c hc; rw [h] at hc; cases hc; exact hne rfl
theorem own_ge {w : World} {B : Nat} {e : TypeId} {s : Nat} {v : Value} {n : Nat} {xs : List Value} (h : w.ownsRow B e s v n xs) : ∀ b, v.ownBlock = some b → B ≤ b := by
  intro b hb
  rcases h.2 with ⟨h1, _⟩ | ⟨g, cap, cur, h1, h2, h3, h4⟩
  · rw [h1] at hb; cases hb
  · rw [h1] at hb; cases hb; exact h2
theorem own_lt {w : World} {B : Nat} {e : TypeId} {s : Nat} {v : Value} {n : Nat} {xs : List Value} (h : w.ownsRow B e s v n xs) : ∀ b, v.ownBlock = some b → b < w.heap.size ∧ ∃ cur, w.heap[b]? = some (.cells cur e (0, 0)) := by
  intro b hb
  rcases h.2 with ⟨h1, _⟩ | ⟨g, cap, cur, h1, h2, h3, h4⟩
  · rw [h1] at hb; cases hb
  · rw [h1] at hb; cases hb; exact ⟨lt_heap h3, cur, h3⟩

/-! what All answers -/
def encP (p : PutV) : List Value := [.int .i64 p.lba, .slice p.a 40 p.c]
structure PutsOwn (B : Nat) (w : World) (v : Value) (ps : List PutV) : Prop where
  row : w.ownsRow B 39 2 v ps.length (ps.flatMap encP)
  data : ∀ p ∈ ps, w.ownsRow B 5 1 (.slice p.a 40 p.c) 40 (p.d.map u8)
def lv (p : PutV) : Int × List Int := (p.lba, p.d)
theorem PutsOwn.below {B : Nat} {w w' : World} {v : Value} {ps : List PutV} (h : PutsOwn B w v ps) (hB : Below w.heap.size w w') : PutsOwn B w' v ps :=
  ⟨own_below h.row hB, fun p hp => own_below (h.data p hp) hB⟩
theorem PutsOwn.base {B B' : Nat} {w : World} {v : Value} {ps : List PutV} (h : PutsOwn B w v ps) (hB : B' ≤ B) : PutsOwn B' w v ps :=
  ⟨own_base h.row hB, fun p hp => own_base (h.data p hp) hB⟩

/-- the blocks that are not noughts -/
def full (d : Int → List Int) (n : Int) : List Int := ((List.range n.toNat).map fun i : Nat => (i : Int)).filter fun k => decide (d k ≠ zeros)
def Out (n : Int) (d : Int → List Int) : Prop := ∀ k, ¬ (0 ≤ k ∧ k < n) → d k = zeros

theorem pair_unique : ∀ (l1 l2 : List Int), l1.Pairwise (· < ·) → l2.Pairwise (· < ·) → (∀ x, x ∈ l1 ↔ x ∈ l2) → l1 = l2
  | [], [], _, _, _ => rfl
  | [], y :: l2, _, _, h => by have := (h y).2 (by simp); simp at this
  | x :: l1, [], _, _, h => by have := (h x).1 (by simp); simp at this
  | x :: l1, y :: l2, h1, h2, h => by
    rw [List.pairwise_cons] at h1 h2
    have hxy : x = y := by
      have a := (h x).1 (by simp)
      have b := (h y).2 (by simp)
      rcases List.mem_cons.1 a with a | a
      · exact a
      · rcases List.mem_cons.1 b with b | b
        · exact b.symm
        · have := h1.1 y b; have := h2.1 x a; omega
    subst hxy
    rw [pair_unique l1 l2 h1.2 h2.2 (fun z => by
      have hz := h z
      simp only [List.mem_cons] at hz
      constructor
      · intro hm
        rcases hz.1 (.inr hm) with e | e
        · have := h1.1 z hm; omega
        · exact e
      · intro hm
        rcases hz.2 (.inr hm) with e | e
        · have := h2.1 z hm; omega
        · exact e)]
theorem sortI_lt (l : List Int) (hn : l.Nodup) : (sortI l).Pairwise (· < ·) := by
  have hp : (sortI l).Perm l := List.mergeSort_perm _ _
  have h1 : (sortI l).Pairwise (fun a b => a ≤ b) := by
    have := List.pairwise_mergeSort (le := fun x y : Int => decide (x ≤ y)) (fun a b c h1 h2 => by simp at *; omega) (fun a b => by simp; omega) l
    exact this.imp (fun h => by simpa using h)
  have h2 : (sortI l).Nodup := hp.nodup_iff.2 hn
  exact (h1.and h2).imp (fun ⟨a, b⟩ => by omega)
theorem full_lt (d : Int → List Int) (n : Int) : (full d n).Pairwise (· < ·) := by
  unfold full
  refine List.Pairwise.filter _ ?_
  rw [List.pairwise_map]
  exact List.pairwise_lt_range.imp (fun h => by omega)
theorem full_mem (d : Int → List Int) (n k : Int) : k ∈ full d n ↔ (0 ≤ k ∧ k < n) ∧ d k ≠ zeros := by
  simp only [full, List.mem_filter, List.mem_map, List.mem_range, decide_eq_true_eq]
  constructor
  · rintro ⟨⟨i, h1, rfl⟩, h2⟩; exact ⟨by omega, h2⟩
  · rintro ⟨h1, h2⟩; exact ⟨⟨k.toNat, by omega, by omega⟩, h2⟩
theorem keys_full {w : World} {m : IM} {d : Int → List Int} {n : Int} (h : ∀ k, Ent w (mget m k) (d k)) (hn : (m.map (·.1)).Nodup) (ho : Out n d) : sortI (keysOf m) = full d n := by
  refine pair_unique _ _ (sortI_lt _ hn) (full_lt d n) (fun k => ?_)
  have hp : (sortI (keysOf m)).Perm (keysOf m) := List.mergeSort_perm _ _
  rw [hp.mem_iff, full_mem]
  have := Ent.key h k
  show k ∈ m.map (·.1) ↔ _
  rw [this]
  constructor
  · intro hk
    refine ⟨?_, hk⟩
    apply Classical.byContradiction
    intro hx; exact hk (ho k hx)
  · exact fun h => h.2

theorem Try.info39 : (Try.prog.info? 39).map (fun i => (i.zero, i.size, i.bytes)) = some (some (.agg #[.int .i64 0, .slice none 0 0]), 2, 32) := by kernel_rfl

set_option maxRecDepth 100000 in
set_option maxHeartbeats 1000000 in
theorem all_any {g r : Nat} {n : Int} {d : Int → List Int} (w : World) (hM : MAt w g r n d) (ho : Out n d) :
    Calls Try.prog 36 #[.pointer (some ⟨g, 0, none⟩)] w fun e w' => ∃ a c ps, e = .returned (.slice a ps.length c) ∧ Below w.heap.size w w' ∧ PutsOwn w.heap.size w' (.slice a ps.length c) ps ∧ ps.map lv = (full d n).map fun k => (k, d k) := by
  have HM := Lib.hid hM
  have c1 := hM.c1
  have hhi := hM.hi
  have hlo := hM.lo
  obtain ⟨hcell, ⟨m, hm, hE⟩, _, _⟩ := hM
  have hkeys := keys_full hE hm.nodup ho
  have hB1 : Below w.heap.size w (w.alloc (.cells #[.map (some r)] 80)) := (Below.refl _ w).alloc (Nat.le_refl _) _
  have hin : ∀ x ∈ keysOf m, 0 ≤ x ∧ x < n := by
    intro x hx
    have : x ∈ full d n := by rw [← hkeys]; exact (List.mergeSort_perm _ _).mem_iff.2 hx
    exact ((full_mem d n x).1 this).1
  have hml : m.length = (full d n).length := by rw [← hkeys]; unfold sortI; rw [List.length_mergeSort]; simp [keysOf]
  have hfl : (full d n).length ≤ n.toNat := by unfold full; exact Nat.le_trans (List.length_filter_le _ _) (by simp)
  have hS := sorted_any r w.heap.size m (w.alloc (.cells #[.map (some r)] 80)) (hm.of_eq (alloc_heap hm.lt)) (cell_heap (c := [.map (some r)]) (alloc_new rfl) rfl) (fun x hx => by have := hin x hx; omega) (by omega)
  rw [hkeys, hml] at hS
  have HS := Lib.hid hS
  have hfn : (full d n).length ≤ 1048576 := by omega
  have HFM := Lib.hid (full_mem d n)
  have HGET : Hid (∀ k ∈ full d n, ∃ ad c, mget m k = some (.slice (some ad) 40 c) ∧ Rd u8 w (some ad) (d k) ∧ (d k).length = 40) := by
    intro k hk
    have h1 := hE k
    have h2 := ((HFM.out k).1 hk).2
    cases hg : mget m k with
    | none => rw [hg] at h1; exact (h2 h1).elim
    | some v =>
      rw [hg] at h1
      obtain ⟨ad, c, rfl, h3, h4, _⟩ := h1
      exact ⟨ad, c, rfl, h3, h4⟩
  have HMM := Lib.hid hm
  have HCELL := Lib.hid hcell
  obtain ⟨i0, hi0, hz0, hz1, hz2⟩ := info_parts Try.info39
  have HI := Lib.hid hi0; have HZ0 := Lib.hid hz0; have HZ1 := Lib.hid hz1; have HZ2 := Lib.hid hz2
  clear hS hkeys hml hin hE hm hcell hfl hi0 hz0 hz1 hz2
  generalize full d n = ks at *
  generalize hq : ks.length = len at *
  have HL := Lib.hid hq; clear hq
  go_enter Try.func36, Try.ntmps36
  go_wp2_with fail
  refine (keys_any r w).mono ?_
  rintro e w1 ⟨rfl, rfl⟩
  have hs1 : (w.alloc (.cells #[.map (some r)] 80)).heap.size = w.heap.size + 1 := by simp
  go_wp2_with fail
  refine HS.out.mono ?_
  rintro e w2 ⟨a, c, rfl, hB2, hown⟩
  have hB2' : Below w.heap.size w w2 := hB1.trans (hB2.mono hB1.size)
  have HO2 := Lib.hid hown
  have HR2 := Lib.hid (fun (i : Nat) (x : Int) (hi : ks[i]? = some x) => show ∃ b o, a = some ⟨b, o, none⟩ ∧ b < w2.heap.size ∧ w2.cell? ⟨b, o + i, none⟩ = some (.int .i64 x) from (Rd.of_own (f := Value.int .i64) hown).2 i x hi)
  have hs2 := hB2'.size
  clear hown hB2 hs1
  go_wp2_with fail
  go_loopw [2, 14] (fun ov iv wr => ∃ (i : Nat) (ps : List PutV), i ≤ len ∧ iv = .int .i64 i ∧ Below w2.heap.size w2 wr ∧ PutsOwn w2.heap.size wr ov ps ∧ ps.length = i ∧ ps.map lv = (ks.take i).map fun k => (k, d k)) (fun _ iv _ => len - (intOf iv).toNat)
  case atStart => exact ⟨0, [], Nat.zero_le _, rfl, Below.refl _ _, ⟨⟨rfl, .inl ⟨rfl, rfl⟩⟩, fun p hp => by simp at hp⟩, rfl, rfl⟩
  case round =>
    obtain ⟨i, ps, hi, rfl, hB, hP, hpl, hpk⟩ := hrel
    have HP := Lib.hid hP; have HPL := Lib.hid hpl; have HPK := Lib.hid hpk
    have hbw : Below w.heap.size w wr := hB2'.trans (hB.mono hs2)
    obtain ⟨oa, oc, rfl⟩ := own_form hP.row
    clear hP hpl hpk
    by_cases hlt : i < len
    · have hx : ks[i]? = some (ks[i]'(by rw [HL.out]; exact hlt)) := List.getElem?_eq_getElem _
      generalize ks[i]'(by rw [HL.out]; exact hlt) = k at hx
      obtain ⟨b2, o2, ea, e2, d2⟩ := HR2.out i k hx
      subst ea
      have d2' : wr.cell? ⟨b2, o2 + i, none⟩ = some (.int .i64 k) := (hB.cell (p := ⟨b2, o2 + i, none⟩) e2).trans d2
      have hkm := List.mem_of_getElem? hx
      have hkb := (HFM.out k).1 hkm
      obtain ⟨ad, vc, hgk, hRk, hlk⟩ := HGET.out k hkm
      have hL := map_lookup (P := Try.prog) (k := k) (HMM.out.of_eq (hbw.block r HMM.out.lt)) Try.underlying80 Try.underlying3 (Try.zeroValue35 wr)
      rw [hgk] at hL
      have c1r : wr.cell? ⟨g, 1, none⟩ = some (.map (some r)) := cell_heap ((hbw.block g (lt_heap HCELL.out)).trans HCELL.out) rfl
      have hk0 := hkb.1.1
      have hk1 := hkb.1.2
      have CL := Lib.hid (hlk ▸ clone_some ad vc (d k) wr (by omega) (hRk.below hbw))
      have HX := Lib.hid hx
      have HLK := Lib.hid hlk
      have HLL := Lib.hid hL
      have HRK := Lib.hid hRk
      clear hx hkm hkb hgk hRk hlk d2 hL
      go_wp2_with fail
      rw [HLL.out]
      go_wp2_with fail
      refine CL.out.mono ?_
      rintro e w3 ⟨a3, c3, rfl, hB3, hown3⟩
      have HO3 := Lib.hid hown3
      have HROW := Lib.hid (own_below HP.out.row hB3)
      have hs3 := hB.size
      have hs4 := hB3.size
      clear hown3
      generalize hq : ps.length = pl at *
      have hpl2 : pl = i := HPL.out
      have HQ := Lib.hid hq
      subst hpl2
      clear hq
      have HRW : Hid (w3.ownsRow w2.heap.size 39 2 (.slice oa pl oc) pl (ps.flatMap encP)) := HROW.out
      go_wp2_with (at_builtin; refine wpList_append_own _ rfl _ _ 23 rfl w2.heap.size 39 i0 _ 2 32 Try.underlying23 HI.out HZ0.out HZ1.out HZ2.out rfl (by decide) _ _ _ rfl (HRW.out.alloc _) ⟨w3.heap.size, 0, none⟩ 1 1 [.int .i64 k, .slice a3 40 c3] rfl rfl ?c0 ?c2 ?c3 ?c4 ?c5 ?_)
      case c0 => exact World.news_of_block (cs := #[.int .i64 k, .slice a3 40 c3]) (t := 39) (fr := (0, 0)) (alloc_new rfl)
      case c2 => intro u hu; simp at hu; rcases hu with rfl | rfl <;> rfl
      case c3 => unfold maxLen; omega
      case c4 => omega
      case c5 => simp; omega
      intro v' w4 hown4 hgr _
      have hB34 : Below w3.heap.size w3 (w3.alloc (.cells #[.int .i64 k, .slice a3 40 c3] 39)) := (Below.refl _ w3).alloc (Nat.le_refl _) _
      have hB4 : Below w2.heap.size w2 w4 := ((hB.trans (hB3.mono hs3)).trans (hB34.mono (by omega))).grown hgr (by simp; omega) (fun kk hk => own_ge HROW.out kk hk)
      have C4 : Chg (fun b => (Value.slice oa pl oc).ownBlock = some b) (w3.alloc (.cells #[.int .i64 k, .slice a3 40 c3] 39)) w4 := Chg.grown (Chg.refl _ _) hgr (fun k h => .inl h)
      have hdat : ∀ (p : PutV) (B0 : Nat), w3.ownsRow B0 5 1 (.slice p.a 40 p.c) 40 (p.d.map u8) → w4.ownsRow B0 5 1 (.slice p.a 40 p.c) 40 (p.d.map u8) := by
        intro p B0 hp
        have h5 := own_below hp hB34
        refine own_chg h5 C4 (fun b hb hvb => ?_)
        obtain ⟨_, cur, hc⟩ := own_lt (own_below HROW.out hB34) b hvb
        exact own_no h5 (noRow_type hc (by decide)) hb
      have HO4 := Lib.hid hown4
      have HD := Lib.hid hdat
      clear hown4 hgr hdat C4
      go_wp2
      go_roundw
      case rel =>
        refine ⟨pl + 1, ps ++ [⟨k, a3, c3, d k⟩], by omega, by go_num, hB4, ⟨?_, fun p hp => ?_⟩, by simp [HQ.out], ?_⟩
        · rw [List.length_append, HQ.out, List.flatMap_append]
          exact HO4.out
        · rcases List.mem_append.1 hp with hp | hp
          · exact HD.out p _ (own_below (HP.out.data p hp) hB3)
          · simp at hp; subst hp
            exact HD.out ⟨k, a3, c3, d k⟩ _ (own_base HO3.out (by omega))
        · rw [List.map_append, HPK.out, List.take_add_one, HX.out]
          simp [lv]
      case measure => simp [intOf]; omega
    · obtain rfl : i = len := by omega
      go_wp2
      go_ret
      refine ⟨oa, oc, ps, by first | rfl | (rw [HPL.out]; rfl), hbw, ?_, ?_⟩
      · exact HP.out.base hs2
      · rw [HPK.out, List.take_of_length_le (by rw [HL.out]; omega)]
end Go.Proofs.Ytdgnhimiamchmaa
