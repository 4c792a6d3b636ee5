import Derived.Test.YtdgnhimiamchmaaOd
namespace Go.Proofs.Ytdgnhimiamchmaa
open Go.RowKit
open BigFrame Lib

theorem Try.info3 : (Try.prog.info? 3).map (fun i => (i.zero, i.size, i.bytes)) = some (some (.int .i64 0), 1, 8) := by kernel_rfl
theorem wroteN_all (l : List HistV) : wroteN l l.length = wroteI l := rfl
theorem wroteN_len (l : List HistV) (i : Nat) : (wroteN l i).length ≤ i := by
  unfold wroteN
  exact Nat.le_trans (List.length_filter_le _ _) (by simp)

set_option maxRecDepth 100000 in
set_option maxHeartbeats 4000000 in
theorem order_any (a : Option Addr) (c : Nat) (l : List HistV) (w : World) (hl : l.length ≤ 100000) (hA : HRow w a l) :
    Calls Try.prog 25 #[.slice a l.length c] w fun e w' => ∃ a' c', e = .returned (.slice a' (ordL l).length c') ∧ Below w.heap.size w w' ∧ Rd i64n w' a' (ordL l) := by
  have HA := Lib.hid hA
  obtain ⟨i0, hi0, hz0, hz1, hz2⟩ := info_parts Try.info3
  have HI := Lib.hid hi0; have HZ0 := Lib.hid hz0; have HZ1 := Lib.hid hz1; have HZ2 := Lib.hid hz2
  clear hA hi0 hz0 hz1 hz2
  generalize hq : l.length = len at *
  have HL := Lib.hid hq
  clear hq
  go_enter Try.func25, Try.ntmps25
  go_wp2_with fail
  have hB1 : Below w.heap.size w (w.alloc (.cells #[.slice a len c] 42)) := (Below.refl _ w).alloc (Nat.le_refl _) _
  have hbx : (w.alloc (.cells #[.slice a len c] 42)).cell? ⟨w.heap.size, 0, none⟩ = some (.slice a len c) := cell_heap (c := [.slice a len c]) (alloc_new rfl) rfl
  have hs1 : (w.alloc (.cells #[.slice a len c] 42)).heap.size = w.heap.size + 1 := by simp
  have HB1 := Lib.hid hB1
  generalize hb0 : w.heap.size = bx at *
  have HBX := Lib.hid hb0
  generalize w.alloc (.cells #[.slice a len c] 42) = w1 at *
  clear hB1 hb0
  go_loopw [2, 7] (fun ov iv wr => ∃ i : Nat, i ≤ len ∧ iv = .int .i64 i ∧ Below w1.heap.size w1 wr ∧ wr.ownsRow w1.heap.size 3 1 ov (wroteN l i).length ((wroteN l i).map i64n)) (fun _ iv _ => len - (intOf iv).toNat)
  case atStart => exact ⟨0, Nat.zero_le _, rfl, Below.refl _ _, ⟨rfl, .inl ⟨rfl, rfl⟩⟩⟩
  case round =>
    obtain ⟨i, hi, rfl, hB, hO⟩ := hrel
    have hsz := hB.size
    have HBW : Hid (Below bx w wr) := HB1.out.trans (hB.mono (by omega))
    obtain ⟨oa, oc, rfl⟩ := own_form hO
    have HO := Lib.hid hO
    have hwl := wroteN_len l i
    clear hO
    have hbr := (hB.cell (p := ⟨bx, 0, none⟩) (by show bx < _; omega)).trans hbx
    by_cases hlt : i < len
    · have hx : l[i]? = some (l[i]'(by rw [HL.out]; exact hlt)) := List.getElem?_eq_getElem _
      generalize l[i]'(by rw [HL.out]; exact hlt) = x at hx
      obtain ⟨b, o, rfl, e1, k0, k1, k2, k3, k4, k5, k6⟩ := (HA.out.below (HBX.out.symm ▸ HBW.out)) i x hx
      have HWS := Lib.hid (wroteN_snoc l i)
      have HGX := Lib.hid (hget_of hx)
      have HWR := Lib.hid (fun W => wrote48_any x W)
      clear hx
      unfold aggH at HWR
      generalize x.pl.length = xpl at *
      generalize x.rl.length = xrl at *
      generalize hwq : (wroteN l i).length = wl at *
      have HWQ := Lib.hid hwq
      clear hwq
      cases hw : wroteH x with
      | false =>
        have HF : Hid (wroteN l (i + 1) = wroteN l i) := by show _ = _; rw [HWS.out, HGX.out, hw]; simp
        have HW := Lib.hid hw; clear hw
        go_wp2_with (go_at_call 48; refine (HWR.out _).mono ?_; rintro e w3 ⟨rfl, hB3⟩; rw [HW.out])
        go_roundw
        case rel =>
          have hBa : Below w1.heap.size w1 w3 := (hB.alloc hsz _).trans (hB3.mono (by simp; omega))
          refine ⟨i + 1, by omega, by go_num, hBa, ?_⟩
          rw [HF.out, HWQ.out]
          exact own_below ((HO.out).alloc _) hB3
        case measure => simp [intOf]; omega
      | true =>
        have HF : Hid (wroteN l (i + 1) = wroteN l i ++ [i]) := by show _ = _; rw [HWS.out, HGX.out, hw]; simp
        have HW := Lib.hid hw; clear hw
        go_wp2_with (first
          | (go_at_call 48; refine (HWR.out _).mono ?_; rintro e w3 ⟨rfl, hB3⟩; rw [HW.out]
             have hBa : Below w1.heap.size w1 w3 := (hB.alloc hsz _).trans (hB3.mono (by simp; omega))
             have hsa := hBa.size
             have HBA := Lib.hid hBa
             have HO3 := Lib.hid (own_below ((HO.out).alloc _) hB3)
             clear hB3 hBa)
          | (at_builtin; refine wpList_append_own _ rfl _ _ 44 rfl w1.heap.size 3 i0 _ 1 8 Try.underlying44 HI.out HZ0.out HZ1.out HZ2.out rfl (by decide) _ _ _ rfl ((HO3.out).alloc _) ⟨w3.heap.size, 0, none⟩ 1 1 [.int .i64 (i : Int)] rfl rfl ?c0 ?c2 ?c3 ?c4 ?c5 ?_))
        case c0 => exact World.news_of_block (cs := #[.int .i64 (i : Int)]) (t := 3) (fr := (0, 0)) (alloc_new rfl)
        case c2 => intro u hu; simp at hu; rcases hu with rfl; rfl
        case c3 => unfold maxLen; omega
        case c4 => omega
        case c5 => simp; omega
        intro v' w4 hown4 hgr _
        have hB4 : Below w1.heap.size w1 w4 := (HBA.out.alloc hsa _).grown hgr (by simp; omega) (fun kk hk => own_ge HO.out kk hk)
        have HO4 := Lib.hid hown4
        clear hown4 hgr
        go_wp2
        go_roundw
        case rel =>
          refine ⟨i + 1, by omega, by go_num, hB4, ?_⟩
          rw [HF.out, List.length_append, HWQ.out, List.map_append]
          rw [hs1]
          exact HO4.out
        case measure => simp [intOf]; omega
    · obtain rfl : i = len := by omega
      have hwI : wroteN l i = wroteI l := by rw [← HL.out]; exact wroteN_all l
      have hol : (ordL l).length = (wroteI l).length := (stab_perm _ _).length_eq
      have HLT : Hid (∀ x ∈ wroteI l, x < i) := fun x hx => by have := wroteI_lt l x hx; rw [HL.out] at this; exact this
      have HO1 : Hid (wr.ownsRow w1.heap.size 3 1 (.slice oa (wroteN l i).length oc) (wroteN l i).length ((wroteI l).map i64n)) := by
        have := HO.out
        rw [← hwI]; exact this
      have HWI := Lib.hid (congrArg List.length hwI)
      clear HO
      have HR0 := Lib.hid (HA.out.below (HBX.out.symm ▸ HBW.out))
      have HAB : Hid (∀ b o, a = some ⟨b, o, none⟩ → 0 < i → b < bx) := fun b o e h0 => by
        obtain ⟨b', o', q1, q2, _⟩ := HA.out 0 _ (List.getElem?_eq_getElem (by rw [HL.out]; exact h0))
        rw [e] at q1; cases q1
        rw [HBX.out] at q2; exact q2
      have HOL := Lib.hid hol
      clear hol hwI
      generalize hwq : (wroteN l i).length = wl at *
      have HWQ : Hid ((wroteI l).length = wl) := HWI.out.symm
      have HOL2 : Hid ((ordL l).length = wl) := HOL.out.trans HWQ.out
      clear hwq HWI
      go_upto_region 7 with (fail)
      go_cut [2] (fun ov wx => ov = .slice oa wl oc ∧ Aside (Below bx w wx) ∧ Aside (Rd i64n wx oa (ordL l)))
      case first =>
        rcases HO1.out.2 with ⟨hn1, hn2⟩ | ⟨gg, cap, cur, hn1, hn2, hn3⟩
        · simp at hn1
          obtain ⟨rfl, rfl, rfl⟩ := hn1
          have he : wroteI l = [] := List.length_eq_zero_iff.1 HWQ.out
          have HE : Hid (ordL l = []) := by show _ = _; unfold ordL; rw [he]; rfl
          clear hn2 he
          go_wp2_with (go_at_call 49; refine (sortN_i none 0 (.func (.func 50) #[] #[.pointer (some ⟨bx, 0, none⟩)]) wr).mono ?_; rintro e w5 ⟨rfl, rfl⟩)
          go_meet
          refine ⟨rfl, HBW.out, ?_⟩
          rw [HE.out]
          exact Rd.nil _ _ _
        · simp at hn1
          obtain ⟨rfl, rfl⟩ := hn1
          have HNR := Lib.hid hn2
          have hag : 0 < i → ∀ b o, a = some ⟨b, o, none⟩ → b ≠ gg := fun h0 b o e => by
            have q1 := HAB.out b o e h0
            have q2 := HNR.out
            omega
          have hbg : bx ≠ gg := by have := HNR.out; omega
          have HS2 := Lib.hid (sortI_any bx a c i l gg oc wl (wroteI l) wr w1.heap.size hbr HL.out HR0.out hl HO1.out HLT.out (by omega) hbg hag)
          clear hag hbg
          clear hn2 hn3
          go_wp2_with (go_at_call 49; refine HS2.out.mono ?_; rintro e w5 ⟨rfl, hC5, hR5⟩)
          have HC5 := Lib.hid hC5; have HR5 := Lib.hid hR5
          clear hC5 hR5 HS2
          go_wp2
          go_meet
          refine ⟨rfl, ?_, HR5.out⟩
          exact HBW.out.trans (HC5.out.below (by omega) (fun k hk e => by have := HNR.out; omega))
      case rest =>
        obtain ⟨rfl, HB5, HR5⟩ := hcut
        go_wp2
        go_ret
        exact ⟨oa, oc, by rw [HOL2.out]; rfl, by rw [HBX.out]; exact HB5.out, HR5.out⟩
end Go.Proofs.Ytdgnhimiamchmaa
