import Derived.Deep.DeepCutAuto
import Derived.Test.YtdgnhimiamchmaaSx
import Derived.Test.YtdgnhimiamchmaaCl
namespace Go.Proofs.Ytdgnhimiamchmaa
open Go.RowKit
open BigFrame Lib

/-- another one ahead of it in the list wrote at its time -/
def twin (l : List HistV) (i : Nat) (h : HistV) (k : Nat) : Bool := decide (k < i) && decide ((hget l k).tm = h.tm)
/-- another one wrote between its begin and its end what it touched -/
def fight (l : List HistV) (h : HistV) (k : Nat) : Bool := decide (h.bg < (hget l k).tm) && (decide ((hget l k).tm < h.tm) && clashH h (hget l k))
/-- another one ended ahead of its begin and is behind it in the order -/
def late (l : List HistV) (h : HistV) (k : Nat) : Bool := decide (0 < (hget l k).to) && (decide ((hget l k).to < h.fr) && decide (h.bg < (hget l k).tm))
def oneH (n : Int) (l : List HistV) (os : List Nat) (i : Nat) : Int :=
  if (wroteH (hget l i) && os.any (twin l i (hget l i))) = true then 11
  else if sawH n l os (hget l i) = false then 13
  else if (wroteH (hget l i) && os.any (fight l (hget l i))) = true then 8
  else if os.any (late l (hget l i)) = true then 11 else 0

theorem cl74_any (k i : Nat) (ib lb hb : Nat) (a : Option Addr) (c len : Nat) (l : List HistV) (h : HistV) (w : World) (hl : l.length = len) (hlen : len ≤ 100000) (hkl : k < len)
    (h1 : w.cell? ⟨ib, 0, none⟩ = some (.int .i64 (i : Int))) (h2 : w.cell? ⟨lb, 0, none⟩ = some (.slice a len c)) (h3 : w.cell? ⟨hb, 2, none⟩ = some (.int .i64 h.tm)) (hR : HRow w a l) :
    Calls Try.prog 74 (#[.int .i64 (k : Int)] ++ #[.pointer (some ⟨ib, 0, none⟩), .pointer (some ⟨lb, 0, none⟩), .pointer (some ⟨hb, 0, none⟩)]) w fun e w' => e = .returned (.bool (twin l i h k)) ∧ Below w.heap.size w w' := by
  show Calls Try.prog 74 #[.int .i64 (k : Int), .pointer (some ⟨ib, 0, none⟩), .pointer (some ⟨lb, 0, none⟩), .pointer (some ⟨hb, 0, none⟩)] w _
  have hy : l[k]? = some (l[k]'(by omega)) := List.getElem?_eq_getElem _
  have HT : Hid (twin l i h k = (decide (k < i) && decide ((hget l k).tm = h.tm))) := rfl
  rw [hget_of hy] at HT
  generalize l[k]'(by omega) = x at hy HT
  obtain ⟨b, o, rfl, e1, _, _, k2, _⟩ := hR k x hy
  have hkk : (k : Int) < (len : Int) := by omega
  clear hy hR hl
  by_cases hki : k < i
  · have t0 : decide ((k : Int) < (i : Int)) = true := decide_eq_true (by omega)
    by_cases he : x.tm = h.tm
    · have t1 : (x.tm == h.tm) = true := by simpa using he
      have HV : Hid (twin l i h k = true) := by show _ = _; rw [HT.out, decide_eq_true hki, decide_eq_true he]; rfl
      clear he
      go_enter Try.func74, Try.ntmps74
      go_wp2_with fail
      go_quiet (fail)
      go_wp2
      go_ret
      exact ⟨by rw [HV.out]; rfl, below_drewN (Below.refl _ _) _⟩
    · have t1 : (x.tm == h.tm) = false := by simpa using he
      have HV : Hid (twin l i h k = false) := by show _ = _; rw [HT.out, decide_eq_false he]; simp
      clear he
      go_enter Try.func74, Try.ntmps74
      go_wp2_with fail
      go_quiet (fail)
      go_wp2
      go_ret
      exact ⟨by rw [HV.out]; rfl, below_drewN (Below.refl _ _) _⟩
  · have t0 : decide ((k : Int) < (i : Int)) = false := decide_eq_false (by omega)
    have HV : Hid (twin l i h k = false) := by show _ = _; rw [HT.out, decide_eq_false hki]; rfl
    go_enter Try.func74, Try.ntmps74
    go_wp2_with fail
    go_quiet (fail)
    go_wp2
    go_ret
    exact ⟨by rw [HV.out]; rfl, below_drewN (Below.refl _ _) _⟩

set_option maxRecDepth 100000 in
set_option maxHeartbeats 8000000 in
theorem one_any (n : Int) (a : Option Addr) (c : Nat) (l : List HistV) (oa : Option Addr) (oc : Nat) (os : List Nat) (i : Nat) (w : World) (n1 : 1 ≤ n) (n2 : n ≤ 1048576) (hol : os.length ≤ 100000) (hl : l.length ≤ 100000) (hi : i < l.length)
    (hA : HistsAt w a l) (hO : Rd i64n w oa os) (hos : ∀ k ∈ os, k < l.length) (hpl : ∀ x ∈ l, x.pl.length ≤ 1000000) (hmay : ∀ x ∈ l, mayH n x = true) (hb : ∀ x ∈ l, HB8 x) :
    Calls Try.prog 58 #[.int .i64 n, .slice a l.length c, .slice oa os.length oc, .int .i64 (i : Int)] w fun e w' => e = .returned (.int .i64 (oneH n l os i)) ∧ Below w.heap.size w w' := by
  have hx : l[i]? = some (l[i]'hi) := List.getElem?_eq_getElem hi
  have hmem : l[i]'hi ∈ l := List.getElem_mem hi
  have HGX := Lib.hid (hget_of hx)
  generalize l[i]'hi = h at hx hmem HGX
  have hmayh := hmay h hmem
  unfold mayH at hmayh
  rw [Bool.and_eq_true, Bool.and_eq_true] at hmayh
  have hmp : ∀ x ∈ l, mayPuts n [] x.pl = true := fun x hx => by
    have := hmay x hx
    unfold mayH at this
    rw [Bool.and_eq_true, Bool.and_eq_true] at this
    exact this.2.2
  have SAW := Lib.hid (fun W (hW : Below w.heap.size w W) => saw_any n a c l oa oc os h W n1 n2 hol hl (hA.below hW) (hO.below hW) hos ((hA.2 h hmem).below hW) hpl hmp hb (hb h hmem) (fun r hr => List.all_eq_true.1 hmayh.2.1 r hr))
  have HONE : Hid (oneH n l os i = if (wroteH h && os.any (twin l i h)) = true then 11 else if sawH n l os h = false then 13 else if (wroteH h && os.any (fight l h)) = true then 8 else if os.any (late l h) = true then 11 else 0) := by
    show _ = _; unfold oneH; rw [HGX.out]
  have HW := Lib.hid (fun W => wrote48_any h W)
  have HXI := Lib.hid hx
  have HA := Lib.hid hA; have HO := Lib.hid hO; have HOS := Lib.hid hos
  have HHK := Lib.hid (hA.2 h hmem)
  obtain ⟨b, o, ha, hbl, q0, q1, q2, q3, q4, q5, q6⟩ := hA.1 i h hx
  subst ha
  clear hx hmem hmayh hmp hA hO hos hpl hmay hb
  unfold aggH at SAW HW
  generalize hpq : h.pl.length = pn at *
  generalize hrq : h.rl.length = rn at *
  have HPQ := Lib.hid hpq; have HRQ := Lib.hid hrq
  clear hpq hrq
  generalize hlq : l.length = len at *
  generalize hoq : os.length = on at *
  have HLQ := Lib.hid hlq; have HOQ := Lib.hid hoq
  clear hlq hoq
  have hil : (i : Int) < (len : Int) := by omega
  obtain ⟨wb, hwb⟩ : ∃ wb, wroteH h = wb := ⟨_, rfl⟩
  rw [hwb] at HW HONE
  clear hwb
  go_enter Try.func58, Try.ntmps58
  go_upto_region 2 with (fail)
  have hB1 : Below w.heap.size w (((w.alloc (.cells #[.slice (some ⟨b, o, none⟩) len c] 42)).alloc (.cells #[.int .i64 (i : Int)] 3)).alloc (.cells #[.int .i64 h.st, .int .i64 h.bg, .int .i64 h.tm, .int .i64 h.fr, .int .i64 h.to, .slice h.ra rn h.rc, .slice h.pa pn h.pc] 53)) := (((Below.refl _ w).alloc (Nat.le_refl _) _).alloc (by simp) _).alloc (by simp; omega) _
  have hs1 : (((w.alloc (.cells #[.slice (some ⟨b, o, none⟩) len c] 42)).alloc (.cells #[.int .i64 (i : Int)] 3)).alloc (.cells #[.int .i64 h.st, .int .i64 h.bg, .int .i64 h.tm, .int .i64 h.fr, .int .i64 h.to, .slice h.ra rn h.rc, .slice h.pa pn h.pc] 53)).heap.size = w.heap.size + 3 := by simp
  have hhb : (((w.alloc (.cells #[.slice (some ⟨b, o, none⟩) len c] 42)).alloc (.cells #[.int .i64 (i : Int)] 3)).alloc (.cells #[.int .i64 h.st, .int .i64 h.bg, .int .i64 h.tm, .int .i64 h.fr, .int .i64 h.to, .slice h.ra rn h.rc, .slice h.pa pn h.pc] 53)).heap[w.heap.size + 1 + 1]? = some (.cells ([.int .i64 h.st, .int .i64 h.bg, .int .i64 h.tm, .int .i64 h.fr, .int .i64 h.to, .slice h.ra rn h.rc, .slice h.pa pn h.pc] : List Value).toArray 53 (0, 0)) := alloc_new (by simp)
  have hib : (((w.alloc (.cells #[.slice (some ⟨b, o, none⟩) len c] 42)).alloc (.cells #[.int .i64 (i : Int)] 3)).alloc (.cells #[.int .i64 h.st, .int .i64 h.bg, .int .i64 h.tm, .int .i64 h.fr, .int .i64 h.to, .slice h.ra rn h.rc, .slice h.pa pn h.pc] 53)).heap[w.heap.size + 1]? = some (.cells ([.int .i64 (i : Int)] : List Value).toArray 3 (0, 0)) := (alloc_heap (by simp)).trans (alloc_new (by simp))
  have hlb : (((w.alloc (.cells #[.slice (some ⟨b, o, none⟩) len c] 42)).alloc (.cells #[.int .i64 (i : Int)] 3)).alloc (.cells #[.int .i64 h.st, .int .i64 h.bg, .int .i64 h.tm, .int .i64 h.fr, .int .i64 h.to, .slice h.ra rn h.rc, .slice h.pa pn h.pc] 53)).heap[w.heap.size]? = some (.cells ([.slice (some ⟨b, o, none⟩) len c] : List Value).toArray 42 (0, 0)) := (alloc_heap (by simp; omega)).trans ((alloc_heap (by simp)).trans (alloc_new rfl))
  clear q0 q1 q2 q3 q4 q5 q6
  generalize ((w.alloc (.cells #[.slice (some ⟨b, o, none⟩) len c] 42)).alloc (.cells #[.int .i64 (i : Int)] 3)).alloc (.cells #[.int .i64 h.st, .int .i64 h.bg, .int .i64 h.tm, .int .i64 h.fr, .int .i64 h.to, .slice h.ra rn h.rc, .slice h.pa pn h.pc] 53) = w1 at *
  have HBW := Lib.hid (fun (W : World) (hW : Below w1.heap.size w1 W) => hB1.trans (hW.mono hB1.size))
  have HO1 := Lib.hid (fun W hW => HO.out.below (HBW.out W hW))
  have HR1 := Lib.hid (fun W hW => HA.out.1.below (HBW.out W hW))
  have HK1 := Lib.hid (fun W hW x (hx : x ∈ l) => (HA.out.2 x hx).below (HBW.out W hW))
  have SAW1 := Lib.hid (fun W hW => SAW.out W (HBW.out W hW))
  clear hB1 HO HA SAW
  generalize hlbq : w.heap.size = lb at *
  have HLB := Lib.hid hlbq
  clear hlbq
  generalize hibq : lb + 1 = ib at *
  generalize hhbq : ib + 1 = hb at *
  have hlt1 : lb < w1.heap.size := by omega
  have hlt2 : ib < w1.heap.size := by omega
  have hlt3 : hb < w1.heap.size := by omega
  have HQ1 := Lib.hid hibq; have HQ2 := Lib.hid hhbq
  have HCL : Hid (∀ W, Below w1.heap.size w1 W → W.cell? ⟨lb, 0, none⟩ = some (.slice (some ⟨b, o, none⟩) len c)) := fun W hW => (hW.cell (p := ⟨lb, 0, none⟩) hlt1).trans (cell_heap hlb rfl)
  have HCI : Hid (∀ W, Below w1.heap.size w1 W → W.cell? ⟨ib, 0, none⟩ = some (.int .i64 (i : Int))) := fun W hW => (hW.cell (p := ⟨ib, 0, none⟩) hlt2).trans (cell_heap hib rfl)
  have HCH : Hid (∀ W, Below w1.heap.size w1 W → W.heap[hb]? = some (.cells ([.int .i64 h.st, .int .i64 h.bg, .int .i64 h.tm, .int .i64 h.fr, .int .i64 h.to, .slice h.ra rn h.rc, .slice h.pa pn h.pc] : List Value).toArray 53 (0, 0))) := fun W hW => (hW.block hb hlt3).trans hhb
  have c0 : w1.cell? ⟨hb, 0, none⟩ = some (.int .i64 h.st) := cell_heap hhb rfl
  have c1 : w1.cell? ⟨hb, 1, none⟩ = some (.int .i64 h.bg) := cell_heap hhb rfl
  have c2 : w1.cell? ⟨hb, 2, none⟩ = some (.int .i64 h.tm) := cell_heap hhb rfl
  have c3 : w1.cell? ⟨hb, 3, none⟩ = some (.int .i64 h.fr) := cell_heap hhb rfl
  have c4 : w1.cell? ⟨hb, 4, none⟩ = some (.int .i64 h.to) := cell_heap hhb rfl
  have c5 : w1.cell? ⟨hb, 5, none⟩ = some (.slice h.ra rn h.rc) := cell_heap hhb rfl
  have c6 : w1.cell? ⟨hb, 6, none⟩ = some (.slice h.pa pn h.pc) := cell_heap hhb rfl
  clear hhb hib hlb hibq hhbq hs1
  have hls1 : lb ≤ w1.heap.size := by omega
  go_cut [24] (fun bv wx => ∃ nb : Bool, bv = .bool nb ∧ Aside ((wb && os.any (twin l i h)) = nb) ∧ Aside (Below w1.heap.size w1 wx))
  case first =>
    cases wb with
    | false =>
      go_wp2_with (go_at_call 48; refine (HW.out _).mono ?_; rintro e w3 ⟨rfl, hB3⟩)
      go_meet
      exact ⟨false, rfl, rfl, hB3⟩
    | true =>
      have HCT := Lib.hid (fun (W : World) (hW : Below w1.heap.size w1 W) => contI_gen 74 #[.pointer (some ⟨ib, 0, none⟩), .pointer (some ⟨lb, 0, none⟩), .pointer (some ⟨hb, 0, none⟩)] (twin l i h) oa oc os W (by rw [HOQ.out]; omega) (HO1.out W hW) (enters_of Try.func74 (by kernel_rfl) rfl)
        (fun W' hW' k hk => cl74_any k i ib lb hb (some ⟨b, o, none⟩) c len l h W' HLQ.out hl (HOS.out k hk) (HCI.out W' (hW.trans (hW'.mono hW.size))) (HCL.out W' (hW.trans (hW'.mono hW.size))) (cell_heap (HCH.out W' (hW.trans (hW'.mono hW.size))) rfl) (HR1.out W' (hW.trans (hW'.mono hW.size)))))
      rw [HOQ.out] at HCT
      go_wp2_with (first
        | (go_at_call 48; refine (HW.out _).mono ?_; rintro e w3 ⟨rfl, hB3⟩)
        | (go_at_call 73; refine (HCT.out _ hB3).mono ?_; rintro e w4 ⟨rfl, hB4⟩))
      go_meet
      exact ⟨_, rfl, rfl, hB3.trans (hB4.mono hB3.size)⟩
  case rest =>
    obtain ⟨nb, rfl, HNB, HB2⟩ := hcut
    rw [HNB.out] at HONE
    have HB1b : Hid (∀ W, Below w1.heap.size w1 W → Below lb w W) := HBW
    have e0 := (HB2.out.cell (p := ⟨hb, 0, none⟩) hlt3).trans c0
    have e1 := (HB2.out.cell (p := ⟨hb, 1, none⟩) hlt3).trans c1
    have e2 := (HB2.out.cell (p := ⟨hb, 2, none⟩) hlt3).trans c2
    have e3 := (HB2.out.cell (p := ⟨hb, 3, none⟩) hlt3).trans c3
    have e4 := (HB2.out.cell (p := ⟨hb, 4, none⟩) hlt3).trans c4
    have e5 := (HB2.out.cell (p := ⟨hb, 5, none⟩) hlt3).trans c5
    have e6 := (HB2.out.cell (p := ⟨hb, 6, none⟩) hlt3).trans c6
    have el := HCL.out _ HB2.out
    have hs2 := HB2.out.size
    clear c0 c1 c2 c3 c4 c5 c6 HNB
    generalize wc = w2 at *
    cases nb with
    | true =>
      have HV : Hid (oneH n l os i = 11) := HONE.out
      go_wp2
      go_ret
      exact ⟨by rw [HV.out]; rfl, by rw [HLB.out]; exact HBW.out _ HB2.out⟩
    | false =>
      have HSAW := Lib.hid (SAW1.out w2 HB2.out)
      clear SAW1
      cases hsw : sawH n l os h with
      | false =>
        have HV : Hid (oneH n l os i = 13) := by show _ = _; rw [HONE.out, hsw]; rfl
        have HSF := Lib.hid hsw; clear hsw
        go_wp2_with (go_at_call 75; refine HSAW.out.mono ?_; rintro e w3 ⟨rfl, hB3⟩; rw [HSF.out])
        go_ret
        exact ⟨by rw [HV.out]; rfl, by rw [HLB.out]; exact HBW.out _ (HB2.out.trans (hB3.mono hs2))⟩
      | true =>
        have HONE2 : Hid (oneH n l os i = if (wb && os.any (fight l h)) = true then 8 else if os.any (late l h) = true then 11 else 0) := by show _ = _; rw [HONE.out, hsw]; rfl
        have HSF := Lib.hid hsw; clear hsw HONE
        have hlw2 : hb < w2.heap.size := by omega
        go_upto_if 32 with (first
          | (go_at_call 75; refine HSAW.out.mono ?_; rintro e w3 ⟨rfl, hB3⟩; rw [HSF.out]
             have HB3 := Lib.hid (HB2.out.trans (hB3.mono hs2))
             have f0 := (hB3.cell (p := ⟨hb, 0, none⟩) hlw2).trans e0
             have f1 := (hB3.cell (p := ⟨hb, 1, none⟩) hlw2).trans e1
             have f2 := (hB3.cell (p := ⟨hb, 2, none⟩) hlw2).trans e2
             have f3 := (hB3.cell (p := ⟨hb, 3, none⟩) hlw2).trans e3
             have f4 := (hB3.cell (p := ⟨hb, 4, none⟩) hlw2).trans e4
             have f5 := (hB3.cell (p := ⟨hb, 5, none⟩) hlw2).trans e5
             have f6 := (hB3.cell (p := ⟨hb, 6, none⟩) hlw2).trans e6
             clear hB3)
          | (go_at_call 48; refine (HW.out _).mono ?_; rintro e w4 ⟨rfl, hB4⟩))
        have HB4 : Hid (Below w1.heap.size w1 w4) := HB3.out.trans (hB4.mono HB3.out.size)
        clear e0 e1 e2 e3 e4 e5 e6 el f0 f1 f2 f3 f4 f5 f6 hB4 HB3 HSAW HSF hlw2 hs2 HB2
        go_cut [11] (fun _ wx => Aside (Below w1.heap.size w1 wx) ∧ Aside ((wb && os.any (fight l h)) = false))
        case first =>
          cases wb with
          | false =>
            go_wp2_with fail
            go_meet
            exact ⟨HB4.out, rfl⟩
          | true =>
            go_wp2_with fail
            go_loopw [35] (fun iv wr => ∃ j : Nat, j ≤ on ∧ iv = .int .i64 j ∧ Below w1.heap.size w1 wr ∧ Aside (∀ k ∈ os.take j, fight l h k = false)) (fun iv _ => on - (intOf iv).toNat)
            case atStart => exact ⟨0, Nat.zero_le _, rfl, HB4.out, fun y hy => by simp at hy⟩
            case round =>
              obtain ⟨j, hj, rfl, hB, HT⟩ := hrel
              have hsz := hB.size
              by_cases hlt : j < on
              · have hx : os[j]? = some (os[j]'(by rw [HOQ.out]; exact hlt)) := List.getElem?_eq_getElem _
                generalize os[j]'(by rw [HOQ.out]; exact hlt) = k at hx
                have hkm := List.mem_of_getElem? hx
                have hkl := HOS.out k hkm
                obtain ⟨gb, go, rfl, g1, g2⟩ := (HO1.out wr hB) j k hx
                have hgy : l[k]? = some (l[k]'(by rw [HLQ.out]; omega)) := List.getElem?_eq_getElem _
                generalize l[k]'(by rw [HLQ.out]; omega) = x at hgy
                obtain ⟨b', o', hbb, z1, q0, q1, q2, q3, q4, q5, q6⟩ := (HR1.out wr hB) k x hgy
                obtain ⟨rfl, rfl⟩ : b' = b ∧ o' = o := by simpa using hbb.symm
                have HHX := Lib.hid (HK1.out wr hB x (List.mem_of_getElem? hgy))
                have HHH := Lib.hid (HHK.out.below (HLB.out.symm ▸ HBW.out wr hB))
                have HFX : Hid (fight l h k = (decide (h.bg < x.tm) && (decide (x.tm < h.tm) && clashH h x))) := by show _ = _; unfold fight; rw [hget_of hgy]
                have HMK := Lib.hid hkm; have HXO := Lib.hid hx
                have g2' : wr.cell? ⟨gb, go + j, none⟩ = some (.int .i64 (k : Int)) := g2
                have hkl' : (k : Int) < (len : Int) := by omega
                have HCC := Lib.hid (fun p : InC (Below wr.heap.size wr) => Calls.inC (C := Below wr.heap.size wr) ((clash_any h x p.w (HHH.out.below p.h) (HHX.out.below p.h)).mono fun e w' ⟨h1, h2⟩ => ⟨h1, p.h.trans (h2.mono p.h.size)⟩))
                unfold aggH at HCC
                rw [HPQ.out, HRQ.out] at HCC
                generalize hxp : x.pl.length = xpl at *
                generalize hxr : x.rl.length = xrl at *
                have HXP := Lib.hid hxp; have HXR := Lib.hid hxr
                clear hxp hxr hx hgy hbb hkm g2
                have hne : Nonempty (InC (Below wr.heap.size wr)) := ⟨⟨wr, Below.refl _ _⟩⟩
                have hltb : hb < wr.heap.size := by omega
                have hcel : ∀ (p : Addr) (v : Value), wr.cell? p = some v → ∀ P : InC (Below wr.heap.size wr), P.w.cell? p = some v := fun p v hp P => (P.h.cell (World.block_lt_of_cell? wr p hp)).trans hp
                have B0 := hcel _ _ (cell_heap (HCH.out wr hB) rfl : wr.cell? ⟨hb, 0, none⟩ = some (.int .i64 h.st))
                have B1 := hcel _ _ (cell_heap (HCH.out wr hB) rfl : wr.cell? ⟨hb, 1, none⟩ = some (.int .i64 h.bg))
                have B2 := hcel _ _ (cell_heap (HCH.out wr hB) rfl : wr.cell? ⟨hb, 2, none⟩ = some (.int .i64 h.tm))
                have B3 := hcel _ _ (cell_heap (HCH.out wr hB) rfl : wr.cell? ⟨hb, 3, none⟩ = some (.int .i64 h.fr))
                have B4 := hcel _ _ (cell_heap (HCH.out wr hB) rfl : wr.cell? ⟨hb, 4, none⟩ = some (.int .i64 h.to))
                have B5 := hcel _ _ (cell_heap (HCH.out wr hB) rfl : wr.cell? ⟨hb, 5, none⟩ = some (.slice h.ra rn h.rc))
                have B6 := hcel _ _ (cell_heap (HCH.out wr hB) rfl : wr.cell? ⟨hb, 6, none⟩ = some (.slice h.pa pn h.pc))
                have BL := hcel _ _ (HCL.out wr hB)
                have X0 := hcel _ _ q0
                have X1 := hcel _ _ q1
                have X2 := hcel _ _ q2
                have X3 := hcel _ _ q3
                have X4 := hcel _ _ q4
                have X5 := hcel _ _ q5
                have X6 := hcel _ _ q6
                clear hcel q0 q1 q2 q3 q4 q5 q6
                have HBB := Lib.hid hB
                generalize wr = wr at *
                cases hf1 : decide (h.bg < x.tm) with
                | false =>
                  have HFV : Hid (fight l h k = false) := by show _ = _; rw [HFX.out, hf1]; rfl
                  clear HFX
                  go_wp2_with fail
                  refine wp_region_class (Below wr.heap.size wr) (by kernel_rfl) (by kernel_rfl) (Below.refl _ _).drew ?_
                  repeat (go_big_quiet_step (exact HCC.out _))
                  refine wpQuiet_nil ?_
                  rintro ⟨W, hW⟩
                  dsimp only
                  have HB6 : Hid (Below w1.heap.size w1 W) := HBB.out.trans (hW.mono HBB.out.size)
                  go_wp2
                  go_roundw
                  case rel =>
                    refine ⟨j + 1, by omega, by go_num, HB6.out, fun y hy => ?_⟩
                    rw [List.take_add_one, HXO.out] at hy
                    rcases List.mem_append.1 hy with hy | hy
                    · exact HT.out y hy
                    · simp at hy; subst hy; exact HFV.out
                  case measure => simp [intOf]; omega
                | true =>
                  cases hf2 : decide (x.tm < h.tm) with
                  | false =>
                    have HFV : Hid (fight l h k = false) := by show _ = _; rw [HFX.out, hf1, hf2]; rfl
                    clear HFX
                    go_wp2_with fail
                    refine wp_region_class (Below wr.heap.size wr) (by kernel_rfl) (by kernel_rfl) (Below.refl _ _).drew ?_
                    repeat (go_big_quiet_step (exact HCC.out _))
                    refine wpQuiet_nil ?_
                    rintro ⟨W, hW⟩
                    dsimp only
                    have HB6 : Hid (Below w1.heap.size w1 W) := HBB.out.trans (hW.mono HBB.out.size)
                    go_wp2
                    go_roundw
                    case rel =>
                      refine ⟨j + 1, by omega, by go_num, HB6.out, fun y hy => ?_⟩
                      rw [List.take_add_one, HXO.out] at hy
                      rcases List.mem_append.1 hy with hy | hy
                      · exact HT.out y hy
                      · simp at hy; subst hy; exact HFV.out
                    case measure => simp [intOf]; omega
                  | true =>
                    cases hf3 : clashH h x with
                    | false =>
                      have HFV : Hid (fight l h k = false) := by show _ = _; rw [HFX.out, hf1, hf2, hf3]; rfl
                      rw [hf3] at HCC
                      clear HFX hf3
                      go_wp2_with fail
                      refine wp_region_class (Below wr.heap.size wr) (by kernel_rfl) (by kernel_rfl) (Below.refl _ _).drew ?_
                      repeat (go_big_quiet_step (exact HCC.out _))
                      refine wpQuiet_nil ?_
                      rintro ⟨W, hW⟩
                      dsimp only
                      have HB6 : Hid (Below w1.heap.size w1 W) := HBB.out.trans (hW.mono HBB.out.size)
                      go_wp2
                      go_roundw
                      case rel =>
                        refine ⟨j + 1, by omega, by go_num, HB6.out, fun y hy => ?_⟩
                        rw [List.take_add_one, HXO.out] at hy
                        rcases List.mem_append.1 hy with hy | hy
                        · exact HT.out y hy
                        · simp at hy; subst hy; exact HFV.out
                      case measure => simp [intOf]; omega
                    | true =>
                      have HFV : Hid (fight l h k = true) := by show _ = _; rw [HFX.out, hf1, hf2, hf3]; rfl
                      have HV : Hid (oneH n l os i = 8) := by show _ = _; rw [HONE2.out, if_pos]; rw [Bool.true_and]; exact List.any_eq_true.2 ⟨k, HMK.out, HFV.out⟩
                      rw [hf3] at HCC
                      clear HFX hf3
                      go_wp2_with fail
                      refine wp_region_class (Below wr.heap.size wr) (by kernel_rfl) (by kernel_rfl) (Below.refl _ _).drew ?_
                      repeat (go_big_quiet_step (exact HCC.out _))
                      refine wpQuiet_nil ?_
                      rintro ⟨W, hW⟩
                      dsimp only
                      have HB6 : Hid (Below w1.heap.size w1 W) := HBB.out.trans (hW.mono HBB.out.size)
                      go_wp2
                      go_ret
                      exact ⟨by rw [HV.out]; rfl, by rw [HLB.out]; exact HBW.out _ HB6.out⟩
              · go_wp2_with fail
                go_meet
                refine ⟨hB, ?_⟩
                show (true && os.any (fight l h)) = false
                rw [Bool.true_and]
                refine List.any_eq_false.2 fun y hy => ?_
                rw [HT.out y (by rw [List.take_of_length_le (by rw [HOQ.out]; omega)]; exact hy)]
                simp
        case rest =>
          obtain ⟨HB5, HNF⟩ := hcut
          have HV3 : Hid (oneH n l os i = if os.any (late l h) = true then 11 else 0) := by show _ = _; rw [HONE2.out, HNF.out]; rfl
          clear HONE2 HNF HW
          go_wp2_with fail
          go_loopw [68] (fun iv wr => ∃ j : Nat, j ≤ on ∧ iv = .int .i64 j ∧ Below w1.heap.size w1 wr ∧ Aside (∀ k ∈ os.take j, late l h k = false)) (fun iv _ => on - (intOf iv).toNat)
          case atStart => exact ⟨0, Nat.zero_le _, rfl, HB5.out, fun y hy => by simp at hy⟩
          case round =>
            obtain ⟨j, hj, rfl, hB, HT⟩ := hrel
            have hsz := hB.size
            by_cases hlt : j < on
            · have hx : os[j]? = some (os[j]'(by rw [HOQ.out]; exact hlt)) := List.getElem?_eq_getElem _
              generalize os[j]'(by rw [HOQ.out]; exact hlt) = k at hx
              have hkm := List.mem_of_getElem? hx
              have hkl := HOS.out k hkm
              obtain ⟨gb, go, rfl, g1, g2⟩ := (HO1.out wr hB) j k hx
              have hgy : l[k]? = some (l[k]'(by rw [HLQ.out]; omega)) := List.getElem?_eq_getElem _
              generalize l[k]'(by rw [HLQ.out]; omega) = x at hgy
              obtain ⟨b', o', hbb, z1, q0, q1, q2, q3, q4, q5, q6⟩ := (HR1.out wr hB) k x hgy
              obtain ⟨rfl, rfl⟩ : b' = b ∧ o' = o := by simpa using hbb.symm
              have HFX : Hid (late l h k = (decide (0 < x.to) && (decide (x.to < h.fr) && decide (h.bg < x.tm)))) := by show _ = _; unfold late; rw [hget_of hgy]
              have HMK := Lib.hid hkm; have HXO := Lib.hid hx
              have g2' : wr.cell? ⟨gb, go + j, none⟩ = some (.int .i64 (k : Int)) := g2
              have hkl' : (k : Int) < (len : Int) := by omega
              have k0 : wr.cell? ⟨hb, 1, none⟩ = some (.int .i64 h.bg) := cell_heap (HCH.out wr hB) rfl
              have k1 : wr.cell? ⟨hb, 3, none⟩ = some (.int .i64 h.fr) := cell_heap (HCH.out wr hB) rfl
              have k2 := HCL.out wr hB
              clear hx hgy hbb hkm g2 q0 q1 q5 q6
              have HBB := Lib.hid hB
              cases hf1 : decide (0 < x.to) with
              | false =>
                have HFV : Hid (late l h k = false) := by show _ = _; rw [HFX.out, hf1]; rfl
                clear HFX
                go_wp2_with fail
                go_quiet (fail)
                have HB6 : Hid (Below w1.heap.size w1 (wr.drewN nq)) := below_drewN HBB.out _
                go_wp2
                go_roundw
                case rel =>
                  refine ⟨j + 1, by omega, by go_num, HB6.out, fun y hy => ?_⟩
                  rw [List.take_add_one, HXO.out] at hy
                  rcases List.mem_append.1 hy with hy | hy
                  · exact HT.out y hy
                  · simp at hy; subst hy; exact HFV.out
                case measure => simp [intOf]; omega
              | true =>
                cases hf2 : decide (x.to < h.fr) with
                | false =>
                  have HFV : Hid (late l h k = false) := by show _ = _; rw [HFX.out, hf1, hf2]; rfl
                  clear HFX
                  go_wp2_with fail
                  go_quiet (fail)
                  have HB6 : Hid (Below w1.heap.size w1 (wr.drewN nq)) := below_drewN HBB.out _
                  go_wp2
                  go_roundw
                  case rel =>
                    refine ⟨j + 1, by omega, by go_num, HB6.out, fun y hy => ?_⟩
                    rw [List.take_add_one, HXO.out] at hy
                    rcases List.mem_append.1 hy with hy | hy
                    · exact HT.out y hy
                    · simp at hy; subst hy; exact HFV.out
                  case measure => simp [intOf]; omega
                | true =>
                  cases hf3 : decide (h.bg < x.tm) with
                  | false =>
                    have HFV : Hid (late l h k = false) := by show _ = _; rw [HFX.out, hf1, hf2, hf3]; rfl
                    clear HFX
                    go_wp2_with fail
                    go_quiet (fail)
                    have HB6 : Hid (Below w1.heap.size w1 (wr.drewN nq)) := below_drewN HBB.out _
                    go_wp2
                    go_roundw
                    case rel =>
                      refine ⟨j + 1, by omega, by go_num, HB6.out, fun y hy => ?_⟩
                      rw [List.take_add_one, HXO.out] at hy
                      rcases List.mem_append.1 hy with hy | hy
                      · exact HT.out y hy
                      · simp at hy; subst hy; exact HFV.out
                    case measure => simp [intOf]; omega
                  | true =>
                    have HFV : Hid (late l h k = true) := by show _ = _; rw [HFX.out, hf1, hf2, hf3]; rfl
                    have HV : Hid (oneH n l os i = 11) := by show _ = _; rw [HV3.out, if_pos]; exact List.any_eq_true.2 ⟨k, HMK.out, HFV.out⟩
                    clear HFX
                    go_wp2_with fail
                    go_quiet (fail)
                    have HB6 : Hid (Below w1.heap.size w1 (wr.drewN nq)) := below_drewN HBB.out _
                    go_wp2
                    go_ret
                    exact ⟨by rw [HV.out]; rfl, by rw [HLB.out]; exact HBW.out _ HB6.out⟩
            · have HV : Hid (oneH n l os i = 0) := by
                show _ = _
                rw [HV3.out, if_neg]
                rw [Bool.not_eq_true]
                refine List.any_eq_false.2 fun y hy => ?_
                rw [HT.out y (by rw [List.take_of_length_le (by rw [HOQ.out]; omega)]; exact hy)]
                simp
              go_wp2
              go_ret
              exact ⟨by rw [HV.out]; rfl, by rw [HLB.out]; exact HBW.out _ hB⟩
end Go.Proofs.Ytdgnhimiamchmaa
