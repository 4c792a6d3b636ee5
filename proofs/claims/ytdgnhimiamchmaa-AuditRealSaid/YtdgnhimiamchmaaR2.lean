import Derived.Test.YtdgnhimiamchmaaR1
namespace Go.Proofs.Ytdgnhimiamchmaa
open Go.RowKit
open BigFrame Lib
open Go.ChangeMaps (setBlock)

theorem puts_of_row {w : World} {B : Nat} {a : Option Addr} {c : Nat} {ps : List PutV} (h : w.ownsRow B 39 2 (.slice a ps.length c) ps.length (ps.flatMap encP)) (hp : ∀ p ∈ ps, p.d.length = 40 ∧ PutOk w p) : PutsAt w a ps := by
  intro i x hi
  have hlt := (List.getElem?_eq_some_iff.1 hi).1
  obtain ⟨h40, hok⟩ := hp x (List.mem_of_getElem? hi)
  rcases h.2 with ⟨_, h2⟩ | ⟨g', cap, cur, h1, h2, h3, h4⟩
  · omega
  · simp at h1
    obtain ⟨rfl, rfl⟩ := h1
    have g0 := flat_get (enc := encP) (k := 2) (fun _ => rfl) ps i 0 (by omega)
    have g1 := flat_get (enc := encP) (k := 2) (fun _ => rfl) ps i 1 (by omega)
    rw [hi] at g0 g1
    simp only [Option.bind_some] at g0 g1
    have c0 := h.cellAt (i * 2 + 0) (by omega)
    have c1 := h.cellAt (i * 2 + 1) (by omega)
    refine ⟨g', 0, rfl, lt_heap h3, ?_, ?_, hok⟩
    · rw [Nat.zero_add]; exact c0.trans g0
    · rw [Nat.zero_add, h40]; exact c1.trans g1
theorem PutsOwn.at {B : Nat} {w : World} {a : Option Addr} {c : Nat} {ps : List PutV} (h : PutsOwn B w (.slice a ps.length c) ps) (hb : ∀ p ∈ ps, -9223372036854775808 ≤ p.lba ∧ p.lba ≤ 9223372036854775807) : PutsAt w a ps :=
  puts_of_row h.row (fun p hp => by
    have hd := h.data p hp
    have hl := (Rd.of_own hd).1
    exact ⟨hl.symm, (hb p hp).1, (hb p hp).2, by rw [← hl]; unfold maxLen; omega, own_cap hd, (Rd.of_own hd).2⟩)

/-- those that are not blank -/
def rfull (D : Int → List Int) (n : Nat) : List Int := ((List.range n).map fun i : Nat => (i : Int)).filter fun k => !allz (D k)
theorem rfull_succ (D : Int → List Int) (n : Nat) : rfull D (n + 1) = if allz (D n) = true then rfull D n else rfull D n ++ [(n : Int)] := by
  unfold rfull
  rw [List.range_succ, List.map_append, List.filter_append]
  cases h : allz (D n) with
  | true => simp [h]
  | false => simp [h]
theorem rfull_full {D d : Int → List Int} {n : Nat} (h : ∀ k, D k = [] ∨ (D k).length = 40) (hd : ∀ k, d k = shown (D k)) : rfull D n = full d n := by
  unfold rfull full
  rw [Int.toNat_natCast]
  apply List.filter_congr
  intro k _
  have := allz_shown (h k)
  rw [← hd] at this
  rw [Bool.eq_iff_iff]
  simp only [Bool.not_eq_true', decide_eq_true_eq, ne_eq]
  rw [← Bool.not_eq_true, this]

set_option maxRecDepth 100000 in
set_option maxHeartbeats 1000000 in
theorem rall_any {gx lb n : Nat} {D : Int → List Int} (w : World) (hM : RefM w gx lb n D) :
    Calls Try.prog 30 #[.pointer (some ⟨gx, 0, none⟩)] w fun e w' => ∃ a c ps, e = .returned (.slice a ps.length c) ∧ Below w.heap.size w w' ∧ PutsAt w' a ps ∧ ps.map lv = (rfull D n).map fun k => (k, D k) := by
  have HM := Lib.hid hM
  have hhi := hM.hi
  have hgl := lt_heap hM.top
  obtain ⟨i0, hi0, hz0, hz1, hz2⟩ := info_parts Try.info39
  have HI := Lib.hid hi0; have HZ0 := Lib.hid hz0; have HZ1 := Lib.hid hz1; have HZ2 := Lib.hid hz2
  clear hi0 hz0 hz1 hz2 hM
  go_enter Try.func30, Try.ntmps30
  go_wp2_with fail
  go_loopw [3, 4] (fun ov iv wr => ∃ (i : Nat) (ps : List PutV), i ≤ n ∧ iv = .int .i64 i ∧ Below w.heap.size w wr ∧ wr.ownsRow w.heap.size 39 2 ov ps.length (ps.flatMap encP) ∧ (∀ p ∈ ps, p.d.length = 40 ∧ PutOk w p) ∧ ps.length ≤ i ∧ ps.map lv = (rfull D i).map fun k => (k, D k)) (fun _ iv _ => n - (intOf iv).toNat)
  case atStart => exact ⟨0, [], Nat.zero_le _, rfl, Below.refl _ _, ⟨rfl, .inl ⟨rfl, rfl⟩⟩, fun p hp => by simp at hp, Nat.le_refl _, rfl⟩
  case round =>
    obtain ⟨i, ps, hi, rfl, hB, hP, hok, hpl, hpk⟩ := hrel
    have HP := Lib.hid hP; have HOK := Lib.hid hok; have HPK := Lib.hid hpk
    have hMr := HM.out.below hB
    have c0 := hMr.c0
    obtain ⟨oa, oc, rfl⟩ := own_form hP
    clear hP hok hpk
    by_cases hlt : i < n
    · obtain ⟨e, c1, hR, hec⟩ := hMr.get i hlt
      obtain ⟨e2, c2, hR2, hec2⟩ := HM.out.get i hlt
      have c3 : wr.cell? ⟨lb, i, none⟩ = some (.slice e2.a (D i).length e2.c) := (hB.cell (p := ⟨lb, i, none⟩) (World.block_lt_of_cell? w _ c2)).trans c2
      rw [c1] at c3
      have hl := HM.out.len (i : Int)
      have hdl : (D i).length ≤ 40 := by rcases hl with h | h <;> simp [h]
      have BL := Lib.hid (blank_any e.a e.c (D i) wr (by omega) hR)
      have HS := Lib.hid (rfull_succ D i)
      have HL := Lib.hid hl
      have HR2 := Lib.hid hR2; have HR := Lib.hid hR; have HC3 := Lib.hid c3
      clear hMr hR hR2 c2 c3 hl
      cases hz : allz (D i) with
      | true =>
        have HS1 : Hid (rfull D (i + 1) = rfull D i) := by show _ = _; rw [HS.out, if_pos hz]
        rw [hz] at BL
        clear HS
        clear hz
        generalize hq : (D i).length = dl at *
        clear hq
        go_wp2_with fail
        refine BL.out.mono ?_
        rintro e w' ⟨rfl, rfl⟩
        go_wp2
        go_roundw
        case rel => exact ⟨i + 1, ps, by omega, by go_num, hB, HP.out, HOK.out, by omega, by rw [HS1.out]; exact HPK.out⟩
        case measure => simp [intOf]; omega
      | false =>
        have HS1 : Hid (rfull D (i + 1) = rfull D i ++ [(i : Int)]) := by show _ = _; rw [HS.out, if_neg (by rw [hz]; decide)]
        rw [hz] at BL
        clear HS
        have h40 : (D i).length = 40 := by
          rcases HL.out with h | h
          · rw [h] at hz; cases hz
          · exact h
        clear hz
        have H40 := Lib.hid h40
        rw [h40] at c1 BL
        clear h40
        go_wp2_with fail
        refine BL.out.mono ?_
        rintro ee w' ⟨rfl, rfl⟩
        have hs := hB.size
        have HROW := Lib.hid HP.out
        generalize hq : ps.length = pl at *
        have HQ := Lib.hid hq; clear hq
        go_wp2_with (at_builtin; refine wpList_append_own _ rfl _ _ 23 rfl w.heap.size 39 i0 _ 2 32 Try.underlying23 HI.out HZ0.out HZ1.out HZ2.out rfl (by decide) _ _ _ rfl (HROW.out.alloc _) ⟨wr.heap.size, 0, none⟩ 1 1 [.int .i64 i, .slice e.a 40 e.c] rfl rfl ?c0 ?c2 ?c3 ?c4 ?c5 ?_)
        case c0 => exact World.news_of_block (cs := #[.int .i64 i, .slice e.a 40 e.c]) (t := 39) (fr := (0, 0)) (alloc_new rfl)
        case c2 => intro u hu; simp at hu; rcases hu with rfl | rfl <;> rfl
        case c3 => unfold maxLen; omega
        case c4 => omega
        case c5 => simp; omega
        intro v' w4 hown4 hgr _
        have hB4 : Below w.heap.size w w4 := (hB.alloc hs _).grown hgr (by simp; omega) (fun kk hk => own_ge HROW.out kk hk)
        have HO4 := Lib.hid hown4
        clear hown4 hgr
        go_wp2
        go_roundw
        case rel =>
          have hea : e.a = e2.a ∧ e.c = e2.c := by
            have := HC3.out
            simp only [Option.some.injEq, Value.slice.injEq] at this
            exact ⟨this.1, this.2.2⟩
          refine ⟨i + 1, ps ++ [⟨i, e.a, e.c, D i⟩], by omega, by go_num, hB4, ?_, fun p hp => ?_, by simp [HQ.out]; omega, ?_⟩
          · rw [List.length_append, HQ.out, List.flatMap_append]
            exact HO4.out
          · rcases List.mem_append.1 hp with hp | hp
            · exact HOK.out p hp
            · simp at hp; subst hp
              refine ⟨H40.out, by show -9223372036854775808 ≤ (i : Int); omega, by show (i : Int) ≤ 9223372036854775807; omega, by show (D i).length ≤ maxLen; rw [H40.out]; unfold maxLen; omega, hec, ?_⟩
              show Rd _ w e.a (D i)
              rw [hea.1]; exact HR2.out
          · rw [List.map_append, HPK.out, HS1.out]
            simp [lv]
        case measure => simp [intOf]; omega
    · obtain rfl : i = n := by omega
      go_wp2
      go_ret
      exact ⟨oa, oc, ps, rfl, hB, puts_of_row HP.out (fun p hp => ⟨(HOK.out p hp).1, (HOK.out p hp).2.below hB⟩), HPK.out⟩
end Go.Proofs.Ytdgnhimiamchmaa
