import Derived.Test.YtdgnhimiamchmaaM4
namespace Go.Proofs.Ytdgnhimiamchmaa
open Go.RowKit
open BigFrame Lib
open Go.ChangeMaps (setBlock)

theorem run_maplen {P : Program} {w : World} {r : Nat} {m : IM} {T K E ty : TypeId} (h : MapIs w r m) (hT : P.underlying T = some (.map K E)) : (Builtin.len_ #[T] ty #[.map (some r)]).run P w = .ok (.int .i64 m.length) w := by
  obtain ⟨es, cl, hb, hl⟩ := map_len h
  simp [Builtin.len_, run_underlying hT, getObj, Sem.run, hb, hl, goInt, Result.andThen]

set_option maxRecDepth 100000 in
theorem eqf_any {g1 r1 g2 r2 : Nat} {n1 n2 : Int} {d1 d2 : Int → List Int} (w : World) (hM1 : MAt w g1 r1 n1 d1) (hM2 : MAt w g2 r2 n2 d2) :
    Calls Try.prog 46 #[.map (some r1), .map (some r2), .func (.func 47) #[] #[]] w fun e w' => (∃ b : Bool, e = .returned (.bool b) ∧ (b = true ↔ d1 = d2)) ∧ Below w.heap.size w w' := by
  obtain ⟨_, ⟨m1, hm1, hE1⟩, _, _⟩ := hM1
  obtain ⟨_, ⟨m2, hm2, hE2⟩, _, _⟩ := hM2
  obtain ⟨es1, cl1, hb1, hl1⟩ := map_len hm1
  obtain ⟨es2, cl2, hb2, hl2⟩ := map_len hm2
  have HE1 := Lib.hid hE1
  have HE2 := Lib.hid hE2
  clear hE1 hE2
  by_cases hl : m1.length = m2.length
  · go_enter Try.func46, Try.ntmps46
    go_wp2_with fail
    rw [run_maplen hm1 Try.underlying80]
    go_wp2_with fail
    rw [run_maplen hm2 Try.underlying80]
    go_wp2_with fail
    obtain ⟨o, ho, hR⟩ := map_range (P := Try.prog) hm1 Try.underlying80
    rw [ho]
    have hB0 : Below w.heap.size w (w.alloc o) := (Below.refl _ w).alloc (Nat.le_refl _) _
    generalize hit : w.heap.size = it at *
    generalize w.alloc o = w2 at *
    clear ho hb1 hb2 hl1 hl2
    go_wp2_with fail
    go_loopg [] m1.length (fun k wr => Below it w wr ∧ ∃ left : IM, k = left.length ∧ RangeIs wr it r1 m1 left ∧ ∀ p ∈ m1, p ∈ left ∨ d1 p.1 = d2 p.1)
    case atStart => exact ⟨hB0, m1, rfl, hR, fun p hp => .inl hp⟩
    case round =>
      obtain ⟨hB, left, hk, hR1, hall⟩ := hrel
      have HK := Lib.hid hk; have HALL := Lib.hid hall; clear hk hall
      rcases range_next (P := Try.prog) hR1 0 with ⟨hl0, hn0⟩ | ⟨p, left', w', hp1, hp2, hp3, hp4, hp5, hn1, hn2, hR2, hC2, hs2⟩
      · have hd : Hid (d1 = d2) := by
          subst hl0
          exact same_of HE1.out HE2.out hm1.nodup hl (fun p hp => by rcases HALL.out p hp with h | h; simp at h; exact h)
        go_wp2
        go_ret
        exact ⟨⟨true, rfl, by simp [hd.out]⟩, by rw [hit]; exact hB⟩
      · have hit' : it < wr.heap.size := hR1.lt
        have hBn : Below it w w' := hB.trans (hC2.below (by omega) (fun k hk e => by omega))
        have hBs : Below w.heap.size w w' := by rw [hit]; exact hBn
        have hm2' : MapIs w' r2 m2 := hm2.of_eq (hBs.block r2 hm2.lt)
        have hv1 := HE1.out p.1
        rw [mget_mem hm1.nodup hp2] at hv1
        obtain ⟨ad1, c1, hpv, hrd1, hln1, hnz1⟩ := hv1
        obtain ⟨pk, pv⟩ := p
        simp only at hpv hn1 hn2 hrd1 hln1 hnz1
        subst hpv
        have R1 : Hid (Rd Go.Proofs.Ytdgnhimiamchmaa.u8 w' (some ad1) (d1 pk)) := hrd1.below hBs
        have P1 := Lib.hid hp1; have P2 := Lib.hid hp2; have P3 := Lib.hid hp3; have P4 := Lib.hid hp4; have LN1 := Lib.hid hln1; have NZ := Lib.hid hnz1
        clear hp1 hp2 hp3 hp4 hrd1 hln1 hnz1
        have hL := Lib.hid (map_lookup_ok (P := Try.prog) (k := pk) hm2' Try.underlying80 Try.underlying3 (Try.zeroValue35 _))
        cases hv2 : mget m2 pk with
        | none =>
          have hd : Hid (¬ d1 = d2) := by
            intro e
            have := HE2.out pk
            rw [hv2] at this
            simp only [Ent] at this
            have nz := NZ.out
            rw [e, this, allz_zeros] at nz
            cases nz
          have HV := Lib.hid hv2; clear hv2
          go_wp2_with fail
          rw [hL.out, HV.out]
          go_wp2
          go_ret
          exact ⟨⟨false, rfl, by simp [hd.out]⟩, hBs⟩
        | some v2 =>
          have hv3 := HE2.out pk
          rw [hv2] at hv3
          obtain ⟨ad2, c2, rfl, hrd2, hln2, hnz2⟩ := hv3
          have HV := Lib.hid hv2; clear hv2
          have EQ := equal_any (some ad1) (some ad2) c1 c2 (d1 pk) (d2 pk) w' (by rw [LN1.out]; omega) R1.out (hrd2.below hBs)
          rw [LN1.out, hln2] at EQ
          have HEQ := Lib.hid EQ
          clear EQ hrd2 hnz2 hln2
          by_cases hd : d1 pk = d2 pk
          · have t1 := decide_eq_true hd
            have HD := Lib.hid hd; clear hd
            have T1 := Lib.hid t1; clear t1
            go_wp2_with fail
            rw [hL.out, HV.out]
            go_wp2_with fail
            refine HEQ.out.mono ?_
            rintro e w5 ⟨rfl, hB5⟩
            rw [T1.out]
            go_wp2
            go_roundg left'.length
            case measure => rw [HK.out]; exact hp5
            case rel =>
              refine ⟨hBn.trans (hB5.mono (by omega)), left', rfl, hR2.below hB5, fun q hq => ?_⟩
              rcases HALL.out q hq with h1 | h1
              · rcases P3.out q h1 with rfl | h2
                · exact .inr HD.out
                · exact .inl h2
              · exact .inr h1
          · have t1 := decide_eq_false hd
            have HD : Hid (¬ d1 = d2) := fun e => hd (by rw [e])
            clear hd
            have T1 := Lib.hid t1; clear t1
            go_wp2_with fail
            rw [hL.out, HV.out]
            go_wp2_with fail
            refine HEQ.out.mono ?_
            rintro e w5 ⟨rfl, hB5⟩
            rw [T1.out]
            go_wp2
            go_ret
            exact ⟨⟨false, rfl, by simp [HD.out]⟩, by rw [hit]; exact hBn.trans (hB5.mono (by omega))⟩
  · have hd : Hid (¬ d1 = d2) := by
      rintro rfl
      exact hl (len_of_same HE1.out HE2.out hm1.nodup hm2.nodup)
    have t1 : ((m1.length : Int) != (m2.length : Int)) = true := by simp; omega
    clear hl
    go_enter Try.func46, Try.ntmps46
    go_wp2_with fail
    rw [run_maplen hm1 Try.underlying80]
    go_wp2_with fail
    rw [run_maplen hm2 Try.underlying80]
    go_wp2
    go_ret
    exact ⟨⟨false, rfl, by simp [hd.out]⟩, Below.refl _ _⟩

noncomputable def same (d1 d2 : Int → List Int) : Bool := @decide (d1 = d2) (Classical.propDecidable _)
theorem same_true {d1 d2 : Int → List Int} : same d1 d2 = true ↔ d1 = d2 := by unfold same; simp
theorem same_self (d : Int → List Int) : same d d = true := same_true.2 rfl
theorem eqf_same {g1 r1 g2 r2 : Nat} {n1 n2 : Int} {d1 d2 : Int → List Int} (w : World) (hM1 : MAt w g1 r1 n1 d1) (hM2 : MAt w g2 r2 n2 d2) :
    Calls Try.prog 46 #[.map (some r1), .map (some r2), .func (.func 47) #[] #[]] w fun e w' => e = .returned (.bool (same d1 d2)) ∧ Below w.heap.size w w' :=
  (eqf_any w hM1 hM2).mono fun e w' ⟨⟨b, h1, h2⟩, h3⟩ => ⟨by
    rw [h1]
    have : b = same d1 d2 := Bool.eq_iff_iff.2 (h2.trans same_true.symm)
    rw [this], h3⟩

theorem same_any {g1 r1 g2 r2 : Nat} {n : Int} {d1 d2 : Int → List Int} (w : World) (hM1 : MAt w g1 r1 n d1) (hM2 : MAt w g2 r2 n d2) :
    Calls Try.prog 20 #[.pointer (some ⟨g1, 0, none⟩), .pointer (some ⟨g2, 0, none⟩)] w fun e w' => e = .returned (.bool (same d1 d2)) ∧ Below w.heap.size w w' := by
  have HC := Lib.hid (fun p : InC (Below w.heap.size w) => Calls.inC (C := Below w.heap.size w) ((eqf_same p.w (hM1.below p.h) (hM2.below p.h)).mono fun e w' ⟨h1, h2⟩ => ⟨h1, p.h.trans (h2.mono p.h.size)⟩))
  have hne : Nonempty (InC (Below w.heap.size w)) := ⟨⟨w, Below.refl _ _⟩⟩
  have h1 := hM1.lo
  have h2 := hM1.hi
  have t1 : (n == n) = true := by simp
  have A0 : ∀ p : InC (Below w.heap.size w), p.w.cell? ⟨g1, 0, none⟩ = some (.int .i64 n) := fun p => (hM1.below p.h).c0
  have A1 : ∀ p : InC (Below w.heap.size w), p.w.cell? ⟨g1, 1, none⟩ = some (.map (some r1)) := fun p => (hM1.below p.h).c1
  have B0 : ∀ p : InC (Below w.heap.size w), p.w.cell? ⟨g2, 0, none⟩ = some (.int .i64 n) := fun p => (hM2.below p.h).c0
  have B1 : ∀ p : InC (Below w.heap.size w), p.w.cell? ⟨g2, 1, none⟩ = some (.map (some r2)) := fun p => (hM2.below p.h).c1
  clear hM1 hM2
  go_enter Try.func20, Try.ntmps20
  go_wp2_with fail
  refine wp_region_class (Below w.heap.size w) (by kernel_rfl) (by kernel_rfl) (Below.refl _ _).drew ?_
  repeat (go_big_quiet_step (exact HC.out _))
  refine wpQuiet_nil ?_
  rintro ⟨W, hW⟩
  dsimp only
  go_wp2
  go_ret
  exact ⟨rfl, hW⟩
end Go.Proofs.Ytdgnhimiamchmaa
