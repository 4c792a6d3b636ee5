import Derived.Test.YtdgnhimiamchmaaSh4
namespace Go.Proofs.Ytdgnhimiamchmaa
open Go.Shelf Go.RowKit Go.Lib Go.Sort
variable {α : Type} [Inhabited α]

set_option maxHeartbeats 16000000 in
set_option maxRecDepth 1000000 in
theorem insertion_h (enc : α → List Value) (kc : Nat) (z53 : ∀ w, Sem.run Try.prog (Go.sizeOf 53) w = .ok kc w) (key : α → Int) (pos : α → Nat) (cf : α → α → Int) (hcf : ∀ x y, cf x y < 0 ↔ key x < key y) (g : Nat) (cb : Array Value) (blk off cap a b : Nat) (d0 d : Array α) (w0 w : World)
    (eg : ∀ args w, (callFunc g args).run Try.prog w = .ok (.enter g args) w) (hcmp : CmpLays Try.prog g cb enc kc cf blk off d0.size w0) (R : RowK enc kc w0 blk off d0) (hs : d0.size = d.size) (S : SWK enc kc w0 blk off d w)
    (hab : a ≤ b) (hb : b ≤ d.size) (hsz : d.size ≤ 100000) (hI : Inc pos a b d) :
    Calls Try.prog 90 #[.slice (some ⟨blk, off, none⟩) d.size cap, .int .i64 a, .int .i64 b, .func (.func g) #[] cb] w fun e w' => e = .returned (.tuple #[]) ∧ ∃ d', Sorts key pos a b d d' ∧ SWK enc kc w0 blk off d' w' := by
  have mixed : Try.prog.follows .mixedOrders = true := by kernel_rfl
  have HC : Aside _ := hcmp
  have CF : Aside _ := hcf
  have HI : Aside _ := hI
  have S0 : Aside (SWK enc kc w0 blk off d w) := S
  have ST : Aside (Sorts key pos a (min (a + 1) b) d d) := by
    rcases Nat.lt_or_ge a b with h | h
    · rw [Nat.min_eq_left (by omega)]; exact hI.start h
    · obtain rfl : a = b := by omega
      rw [Nat.min_eq_right (by omega)]; exact hI.none
  clear hcmp hcf S hI
  go_enter Try.func90, Try.ntmps90
  go_wp2
  go_loopg [8] (b - a) (fun g1 vi wr => ∃ (i : Nat) (dk : Array α), vi = .int .i64 i ∧ a < i ∧ i ≤ b + 1 ∧ b + 1 - i ≤ g1 + 1 ∧ Aside (SWK enc kc w0 blk off dk wr) ∧ Aside (Sorts key pos a (min i b) d dk))
  case atStart => exact ⟨a + 1, d, by go_num, by omega, by omega, by omega, S0, ST⟩
  case round =>
    clear S0 ST
    obtain ⟨i, dk, rfl, hai, hib, hg1, S1, HO⟩ := hrel
    have hsk := HO.out.size
    by_cases hlt : i < b
    · have hltz : (i : Int) < (b : Int) := by omega
      have HV : Aside (Halves key pos a i (i + 1) dk) := by
        have := HO.out
        rw [Nat.min_eq_left (by omega)] at this
        exact Inc.next HI.out this hlt
      go_wp2
      go_loopg [9] i (fun g2 vj wr2 => ∃ (j : Nat) (dj : Array α), vj = .int .i64 j ∧ a ≤ j ∧ j ≤ i ∧ j ≤ g2 ∧ Aside (SWK enc kc w0 blk off dj wr2) ∧ Aside (dj = bubDn dk i (i - j)) ∧ Aside (∀ k, j ≤ k → k < i → key dk[i]! < key dk[k]!))
      case atStart => exact ⟨i, dk, rfl, by omega, Nat.le_refl _, Nat.le_refl _, S1, (show _ = _ by simp [bubDn]), fun k h1 h2 => by omega⟩
      case round =>
        clear S1
        obtain ⟨j, dj, rfl, haj, hji, hg2, SJ, DJ, FJ⟩ := hrel
        have hsj : dj.size = d.size := by rw [DJ.out]; simp [hsk]
        have out : (j ≤ a ∨ ¬ key dk[i]! < key dk[j - 1]!) → Aside (Sorts key pos a (min (i + 1) b) d dj) := fun hs => by
          show Sorts key pos a (min (i + 1) b) d dj
          have h1 := HO.out
          rw [Nat.min_eq_left (by omega)] at h1 ⊢
          refine h1.trans_in ?_ (by omega)
          rw [DJ.out]
          refine two_done HV.out haj hji (fun k hk1 hk2 => ?_) FJ.out
          rcases hs with hs | hs
          · omega
          · have := HV.out.left hk1 (show k ≤ j - 1 by omega) (by omega)
            omega
        have OUT : Aside _ := out
        clear out
        by_cases hja : a < j
        · have hjaz : (a : Int) < (j : Int) := by omega
          obtain ⟨jp, hjp⟩ : ∃ q, q + 1 = j := ⟨j - 1, by omega⟩
          have zjp : (j : Int) = (jp : Int) + 1 := by omega
          have hjad : decide ((jp : Int) + 1 > (a : Int)) = true := decide_eq_true (by omega)
          have hjaz' : (a : Int) < (jp : Int) + 1 := by omega
          have GT := bubDn_get dk i (by omega) (i - j) (by omega)
          rw [show i - (i - j) = j by omega, ← DJ.out] at GT
          obtain ⟨iN, hiN⟩ : ∃ q, q = j := ⟨_, rfl⟩
          obtain ⟨jN, hjN⟩ : ∃ q, q = j - 1 := ⟨_, rfl⟩
          have ea : ((jp : Int) + 1).toNat = iN := by omega
          have pa : (0 : Int) ≤ (jp : Int) + 1 := by omega
          have ba : (jp : Int) + 1 < (d.size : Int) := by omega
          have ra : IntKind.i64.wrap ((jp : Int) + 1) = (jp : Int) + 1 := by rw [IntKind.wrap_i64]; omega
          have ec : ((jp : Int)).toNat = jN := by omega
          have pc : (0 : Int) ≤ (jp : Int) := by omega
          have bc : (jp : Int) < (d.size : Int) := by omega
          have rc : IntKind.i64.wrap ((jp : Int)) = (jp : Int) := by rw [IntKind.wrap_i64]; omega
          obtain ⟨x, hx⟩ : ∃ x, x = dj[iN]! := ⟨_, rfl⟩
          obtain ⟨y, hy⟩ : ∃ x, x = dj[jN]! := ⟨_, rfl⟩
          have kx : key x = key dk[i]! := by rw [hx, hiN, GT.1]
          have ky : key y = key dk[j - 1]! := by rw [hy, hjN, GT.2 _ (by omega)]
          have la : ∀ n os, Sem.run Try.prog (loadCellsFrom ⟨blk, off + iN * kc, none⟩ 0 kc #[]) (grow (wr.drewN n) os) = .ok (enc x).toArray (grow (wr.drewN n) os) := by rw [hx]; exact SJ.out.ld R (by omega) _ iN (by omega)
          have lb : ∀ n os, Sem.run Try.prog (loadCellsFrom ⟨blk, off + jN * kc, none⟩ 0 kc #[]) (grow (wr.drewN n) os) = .ok (enc y).toArray (grow (wr.drewN n) os) := by rw [hy]; exact SJ.out.ld R (by omega) _ jN (by omega)
          have hc : ∀ n os, Calls Try.prog g (#[.agg (enc x).toArray, .agg (enc y).toArray] ++ cb) (grow (wr.drewN n) os) fun e w' => e = .returned (.int .i64 (cf x y)) ∧ ∃ q os', w' = grow ((grow (wr.drewN n) os).drewN q) os' := SJ.out.cmp HC.out (by omega) x y
          have KX : Aside (key x = key dk[i]! ∧ key y = key dk[j - 1]!) := ⟨kx, ky⟩
          have XY : Aside (x = dj[iN]! ∧ y = dj[jN]! ∧ iN = j ∧ jN = j - 1) := ⟨hx, hy, hiN, hjN⟩
          clear kx ky hx hy GT hiN hjN
          by_cases hv : cf x y < 0
          · have hd : decide (cf x y < 0) = true := decide_eq_true hv
            go_wp2_with fail
            go_quiet_grown (first | (go_at_fn g; refine Calls.grown_of (hc _ _)))
            have S2 : Aside (SWK enc kc w0 blk off dj (grow (wr.drewN nq) osq)) := SJ.out.grown nq osq
            clear la lb hc SJ
            generalize grow (wr.drewN nq) osq = w2 at S2 ⊢
            clear nq osq
            go_wp2_with fail
            have HV' : Aside (key dk[i]! < key dk[j - 1]!) := by
              have := (CF.out x y).1 hv
              rw [KX.out.1, KX.out.2] at this; exact this
            clear hv hd KX
            have S3 : Aside (SWK enc kc w0 blk off (swp dj j (j - 1)) ((w2.drew.setCells blk (off + iN * kc) (enc y)).setCells blk (off + jN * kc) (enc x))) := by
              rw [XY.out.1, XY.out.2.1, XY.out.2.2.1, XY.out.2.2.2]; exact S2.out.swapped R j (j - 1) (by omega) (by omega)
            have n1 : iN < dj.size := by have := XY.out.2.2.1; omega
            have n2 : jN < dj.size := by have := XY.out.2.2.2; omega
            have la2 : Sem.run Try.prog (loadCellsFrom ⟨blk, off + iN * kc, none⟩ 0 kc #[]) w2.drew = .ok (enc x).toArray w2.drew := by rw [XY.out.1]; exact S2.out.ld1 R (by omega) _ iN n1
            have lb2 : Sem.run Try.prog (loadCellsFrom ⟨blk, off + jN * kc, none⟩ 0 kc #[]) w2.drew = .ok (enc y).toArray w2.drew := by rw [XY.out.2.1]; exact S2.out.ld1 R (by omega) _ jN n2
            have st1 : Sem.run Try.prog (storeCells ⟨blk, off + iN * kc, none⟩ (enc y) 0) w2.drew = .ok () (w2.drew.setCells blk (off + iN * kc) (enc y)) := S2.out.st1 R (by omega) _ iN n1 _
            have st2 : Sem.run Try.prog (storeCells ⟨blk, off + jN * kc, none⟩ (enc x) 0) (w2.drew.setCells blk (off + iN * kc) (enc y)) = .ok () ((w2.drew.setCells blk (off + iN * kc) (enc y)).setCells blk (off + jN * kc) (enc x)) := S2.out.st2 R (by omega) _ iN jN n1 n2 _ _
            have kx : (enc x).length = kc := R.hk _
            have ky : (enc y).length = kc := R.hk _
            generalize enc x = ex at la2 st2 kx S3
            generalize enc y = ey at lb2 st1 st2 ky S3
            clear n1 n2
            clear S2 XY
            go_wp2_with fail
            go_big_region_o
            clear la2 lb2 st1 st2 kx ky
            generalize ((w2.drew.setCells blk (off + iN * kc) ey).setCells blk (off + jN * kc) ex) = w3 at S3 ⊢
            clear ea ec
            go_wp2
            go_roundg (j - 1)
            case measure => omega
            case rel =>
              refine ⟨j - 1, swp dj j (j - 1), by first | rfl | go_num | (congr 1; omega), by omega, by omega, Nat.le_refl _, S3, ?_, fun k hk1 hk2 => ?_⟩
              · show _ = _
                rw [show i - (j - 1) = (i - j) + 1 by omega, bubDn, show i - (i - j) = j by omega, ← DJ.out]
              · rcases Nat.lt_or_ge k j with h | h
                · obtain rfl : k = j - 1 := by omega
                  exact HV'.out
                · exact FJ.out k h hk2
          · have hd : decide (cf x y < 0) = false := decide_eq_false hv
            go_wp2_with fail
            go_quiet_grown (first | (go_at_fn g; refine Calls.grown_of (hc _ _)))
            have S2 : Aside (SWK enc kc w0 blk off dj (grow (wr.drewN nq) osq)) := SJ.out.grown nq osq
            clear la lb hc SJ
            generalize grow (wr.drewN nq) osq = w2 at S2 ⊢
            clear nq osq
            go_wp2
            go_roundg (b - (i + 1))
            case measure => omega
            case rel =>
              refine ⟨i + 1, dj, by go_num, by omega, by omega, by omega, S2, OUT.out (Or.inr (Int.not_lt.1 fun h => ?_))⟩
              rw [← KX.out.1, ← KX.out.2] at h
              have h9 := (CF.out x y).2 h
              omega
        · have hjaz : decide ((j : Int) > (a : Int)) = false := decide_eq_false (by omega)
          have hjaz' : ¬ (a : Int) < (j : Int) := by omega
          go_wp2_with fail
          go_big_region_o
          have S2 : Aside (SWK enc kc w0 blk off dj wr.drew) := SJ.out.drew
          clear SJ
          generalize wr.drew = w2 at S2 ⊢
          go_wp2
          go_roundg (b - (i + 1))
          case measure => omega
          case rel => exact ⟨i + 1, dj, by go_num, by omega, by omega, by omega, S2, OUT.out (Or.inl (by omega))⟩
    · have hltz : ¬ (i : Int) < (b : Int) := by omega
      go_wp2
      go_end0
      have := HO.out
      rw [Nat.min_eq_right (by omega)] at this
      exact ⟨rfl, dk, this, S1.out⟩
end Go.Proofs.Ytdgnhimiamchmaa
