import Derived.Deep.DeepCutAuto
import Derived.Test.YtdgnhimiamchmaaSh6
namespace Go.Proofs.Ytdgnhimiamchmaa
open Go.Shelf Go.RowKit Go.Lib Go.Sort
variable {α : Type} [Inhabited α]

set_option maxHeartbeats 16000000 in
set_option maxRecDepth 1000000 in
theorem symRec_h (enc : α → List Value) (kc : Nat) (z53 : ∀ w, Sem.run Try.prog (Go.sizeOf 53) w = .ok kc w) (key : α → Int) (pos : α → Nat) (cf : α → α → Int) (hcf : ∀ x y, cf x y < 0 ↔ key x < key y) (g : Nat) (cb : Array Value) (blk off cap a m b : Nat) (d0 d : Array α) (w0 w : World)
    (eg : ∀ args w, (callFunc g args).run Try.prog w = .ok (.enter g args) w) (hcmp : CmpLays Try.prog g cb enc kc cf blk off d0.size w0) (R : RowK enc kc w0 blk off d0) (hs : d0.size = d.size) (S : SWK enc kc w0 blk off d w)
    (ham : a + 2 ≤ m) (hmb : m + 2 ≤ b) (hsz : d.size ≤ 100000) (hV : Halves key pos a m b d)
    (IH : ∀ (a' m' b' : Nat) (dk : Array α) (W : World), dk.size = d.size → a' < m' → m' < b' → b' - a' < b - a → Halves key pos a' m' b' dk → SWK enc kc w0 blk off dk W →
      Calls Try.prog 91 #[.slice (some ⟨blk, off, none⟩) d.size cap, .int .i64 a', .int .i64 m', .int .i64 b', .func (.func g) #[] cb] W fun e w' => e = .returned (.tuple #[]) ∧ ∃ d', Sorts key pos a' b' dk d' ∧ SWK enc kc w0 blk off d' w') :
    Calls Try.prog 91 #[.slice (some ⟨blk, off, none⟩) d.size cap, .int .i64 a, .int .i64 m, .int .i64 b, .func (.func g) #[] cb] w fun e w' => e = .returned (.tuple #[]) ∧ ∃ d', Sorts key pos a b d d' ∧ SWK enc kc w0 blk off d' w' := by
  have mixed : Try.prog.follows .mixedOrders = true := by kernel_rfl
  have hb := hV.bound.2.2
  have HC : Aside _ := hcmp
  have CF : Aside _ := hcf
  have HV : Aside (Halves key pos a m b d) := hV
  have HI : Aside _ := IH
  have S0 : Aside (SWK enc kc w0 blk off d w) := S
  have wm : IntKind.i64.wrap ((m : Int) - (a : Int)) = (m : Int) - (a : Int) := by rw [IntKind.wrap_i64]; omega
  have tm : ((m : Int) - (a : Int) == 1) = false := by simp; omega
  have wb : IntKind.i64.wrap ((b : Int) - (m : Int)) = (b : Int) - (m : Int) := by rw [IntKind.wrap_i64]; omega
  have tb : ((b : Int) - (m : Int) == 1) = false := by simp; omega
  obtain ⟨mid, hmid⟩ : ∃ q, q = (a + b) / 2 := ⟨_, rfl⟩
  have zmid : ((a : Int) + (b : Int)) / 2 = (mid : Int) := by omega
  have mid1 : a + b ≤ 2 * mid + 1 := by omega
  have mid2 : 2 * mid ≤ a + b := by omega
  obtain ⟨nn, hnn⟩ : ∃ q, q = mid + m := ⟨_, rfl⟩
  have znn : (mid : Int) + (m : Int) = (nn : Int) := by omega
  have nn1 : mid + m ≤ nn := by omega
  have nn2 : nn ≤ mid + m := by omega
  obtain ⟨s0, r0, hsr⟩ : ∃ s0 r0 : Nat, (mid < m ∧ s0 = nn - b ∧ r0 = mid) ∨ (m ≤ mid ∧ s0 = a ∧ r0 = m) := by
    rcases Nat.lt_or_ge mid m with h | h
    · exact ⟨_, _, .inl ⟨h, rfl, rfl⟩⟩
    · exact ⟨_, _, .inr ⟨h, rfl, rfl⟩⟩
  have HSR : Aside _ := hsr
  have f1 : a ≤ s0 := by omega
  have f2 : s0 ≤ r0 := by omega
  have f3 : r0 ≤ m := by omega
  have f4 : r0 ≤ mid := by omega
  have f5 : nn ≤ b + s0 := by omega
  obtain ⟨p, hp⟩ : ∃ q, q + 1 = nn := ⟨nn - 1, by omega⟩
  have zp : (nn : Int) - 1 = (p : Int) := by omega
  have p1 : nn ≤ p + 1 := by omega
  have p2 : p + 1 ≤ nn := by omega
  clear hcmp hcf S hV hmid hnn hsr IH hp
  go_enter Try.func91, Try.ntmps91
  go_upto_if 140 with (fail)
  go_cut [20, 21] (fun sv rv wx => sv = .int .i64 s0 ∧ rv = .int .i64 r0 ∧ w = wx)
  case first =>
    as_aux_lemma =>
      rcases HSR.out with ⟨h1, h2, rfl⟩ | ⟨h1, rfl, rfl⟩
      · have zs : (nn : Int) - (b : Int) = (s0 : Int) := by omega
        have ws : IntKind.i64.wrap ((nn : Int) - (b : Int)) = (s0 : Int) := by rw [IntKind.wrap_i64]; omega
        have t1 : decide ((m : Int) > (r0 : Int)) = true := decide_eq_true (by omega)
        clear h2
        go_wp2_with fail
        go_meet
        exact ⟨rfl, rfl, rfl⟩
      · have t1 : decide ((r0 : Int) > (mid : Int)) = false := decide_eq_false (by omega)
        go_wp2_with fail
        go_meet
        exact ⟨rfl, rfl, rfl⟩
  case rest =>
    obtain ⟨rfl, rfl, rfl⟩ := hcut
    go_wp2
    go_loopg [20, 21] (r0 - s0) (fun g1 iv jv wr => ∃ lo hi : Nat, iv = .int .i64 lo ∧ jv = .int .i64 hi ∧ s0 ≤ lo ∧ lo ≤ hi ∧ hi ≤ r0 ∧ hi - lo ≤ g1 ∧ Aside (SWK enc kc w0 blk off d wr) ∧
      Aside ((∀ k, s0 ≤ k → k < lo → key d[k]! ≤ key d[p - k]!) ∧ (∀ k, hi ≤ k → k < r0 → key d[p - k]! < key d[k]!)))
    case atStart => exact ⟨s0, r0, rfl, rfl, Nat.le_refl _, by omega, Nat.le_refl _, Nat.le_refl _, S0, ⟨fun k h1 h2 => by omega, fun k h1 h2 => by omega⟩⟩
    case round =>
      clear S0
      obtain ⟨lo, hi, rfl, rfl, hml, hlh, hhb, hg, SJ, I⟩ := hrel
      by_cases hlt : lo < hi
      · obtain ⟨h, hh⟩ : ∃ q, q = (lo + hi) / 2 := ⟨_, rfl⟩
        have zh : ((lo : Int) + (hi : Int)) / 2 = (h : Int) := by omega
        have h1 : lo ≤ h := by omega
        have h2 : h < hi := by omega
        obtain ⟨jN, hjN⟩ : ∃ q, q = p - h := ⟨_, rfl⟩
        have zj : (p : Int) - (h : Int) = (jN : Int) := by omega
        have wj : IntKind.i64.wrap (jN : Int) = (jN : Int) := by rw [IntKind.wrap_i64]; omega
        have bh : (h : Int) < (d.size : Int) := by omega
        have bj : (jN : Int) < (d.size : Int) := by omega
        have PS := rec_search HV.out hml h1 h2 hhb f1 f3 (by omega) (by omega) I.out
        obtain ⟨y, hy⟩ : ∃ x, x = d[h]! := ⟨_, rfl⟩
        obtain ⟨x, hx⟩ : ∃ x, x = d[jN]! := ⟨_, rfl⟩
        have la : ∀ n os, Sem.run Try.prog (loadCellsFrom ⟨blk, off + jN * kc, none⟩ 0 kc #[]) (grow (wr.drewN n) os) = .ok (enc x).toArray (grow (wr.drewN n) os) := by rw [hx]; exact SJ.out.ld R (by omega) _ jN (by omega)
        have lb : ∀ n os, Sem.run Try.prog (loadCellsFrom ⟨blk, off + h * kc, none⟩ 0 kc #[]) (grow (wr.drewN n) os) = .ok (enc y).toArray (grow (wr.drewN n) os) := by rw [hy]; exact SJ.out.ld R (by omega) _ h (by omega)
        have hc : ∀ n os, Calls Try.prog g (#[.agg (enc x).toArray, .agg (enc y).toArray] ++ cb) (grow (wr.drewN n) os) fun e w' => e = .returned (.int .i64 (cf x y)) ∧ ∃ q os', w' = grow ((grow (wr.drewN n) os).drewN q) os' := SJ.out.cmp HC.out (by omega) x y
        have hk := CF.out x y
        have PA : Aside ((¬ cf x y < 0 → ∀ k, s0 ≤ k → k < h + 1 → key d[k]! ≤ key d[p - k]!) ∧ (cf x y < 0 → ∀ k, h ≤ k → k < r0 → key d[p - k]! < key d[k]!)) := by
          rw [← hjN, ← hx, ← hy] at PS
          exact ⟨fun q => PS.1 (Int.not_lt.1 fun q2 => q (hk.2 q2)), fun q => PS.2 (hk.1 q)⟩
        clear PS hk hx hy hh hjN
        by_cases hv : cf x y < 0
        · as_aux_lemma =>
            have hd : decide (cf x y < 0) = true := decide_eq_true hv
            have PB : Aside _ := PA.out.2 hv
            go_wp2_with fail
            go_quiet_grown (first | (go_at_fn g; refine Calls.grown_of (hc _ _)))
            have S2 : Aside (SWK enc kc w0 blk off d (grow (wr.drewN nq) osq)) := SJ.out.grown nq osq
            clear la lb hc SJ
            generalize grow (wr.drewN nq) osq = w2 at S2 ⊢
            clear nq osq
            go_wp2
            go_roundg (h - lo)
            case measure => omega
            case rel => exact ⟨lo, h, rfl, rfl, hml, h1, by omega, Nat.le_refl _, S2, ⟨I.out.1, PB.out⟩⟩
        · as_aux_lemma =>
            have hd : decide (cf x y < 0) = false := decide_eq_false hv
            have PB : Aside _ := PA.out.1 hv
            go_wp2_with fail
            go_quiet_grown (first | (go_at_fn g; refine Calls.grown_of (hc _ _)))
            have S2 : Aside (SWK enc kc w0 blk off d (grow (wr.drewN nq) osq)) := SJ.out.grown nq osq
            clear la lb hc SJ
            generalize grow (wr.drewN nq) osq = w2 at S2 ⊢
            clear nq osq
            go_wp2
            go_roundg (hi - (h + 1))
            case measure => omega
            case rel => exact ⟨h + 1, hi, by go_num, rfl, by omega, by omega, hhb, Nat.le_refl _, S2, ⟨PB.out, I.out.2⟩⟩
      · obtain rfl : lo = hi := by omega
        obtain ⟨e, he⟩ : ∃ q, q = nn - lo := ⟨_, rfl⟩
        have ze : (nn : Int) - (lo : Int) = (e : Int) := by omega
        have we : IntKind.i64.wrap ((nn : Int) - (lo : Int)) = (e : Int) := by rw [IntKind.wrap_i64]; omega
        have e1 : m ≤ e := by omega
        have e2 : e ≤ b := by omega
        have e3 : e + lo ≤ nn := by omega
        have e4 : nn ≤ e + lo := by omega
        have HF : Aside (lo = a ∨ e = b ∨ key d[lo - 1]! ≤ key d[e]!) := by
          rcases Nat.lt_or_ge s0 lo with h | h
          · have := I.out.1 (lo - 1) (by omega) (by omega)
            rw [show p - (lo - 1) = e by omega] at this
            exact .inr (.inr this)
          · rcases HSR.out with ⟨q1, q2, q3⟩ | ⟨q1, q2, q3⟩
            · exact .inr (.inl (by omega))
            · exact .inl (by omega)
        have HG : Aside (lo = m ∨ e = m ∨ key d[e - 1]! < key d[lo]!) := by
          rcases Nat.lt_or_ge lo r0 with h | h
          · have := I.out.2 lo (by omega) (by omega)
            rw [show p - lo = e - 1 by omega] at this
            exact .inr (.inr this)
          · rcases HSR.out with ⟨q1, q2, q3⟩ | ⟨q1, q2, q3⟩
            · exact .inr (.inl (by omega))
            · exact .inl (by omega)
        clear I HSR he
        have hsq : d0.size = d.size := hs
        go_upto_region 39 with (fail)
        go_cut [185] (fun bv wx => ∃ B : Bool, bv = .bool B ∧ Aside (B = true ↔ lo < m ∧ m < e) ∧ wr = wx)
        case first =>
          as_aux_lemma =>
            by_cases hc1 : lo < m
            · have t1 : decide ((lo : Int) < (m : Int)) = true := decide_eq_true (by omega)
              by_cases hc2 : m < e
              · have t2 : decide ((m : Int) < (e : Int)) = true := decide_eq_true (by omega)
                go_wp2_with fail
                go_meet
                exact ⟨true, rfl, (show _ ↔ _ from ⟨fun _ => ⟨hc1, hc2⟩, fun _ => rfl⟩), rfl⟩
              · have t2 : decide ((m : Int) < (e : Int)) = false := decide_eq_false (by omega)
                go_wp2_with fail
                go_meet
                exact ⟨false, rfl, (show _ ↔ _ from ⟨fun h => Bool.noConfusion h, fun h => (by omega : False).elim⟩), rfl⟩
            · have t1 : decide ((lo : Int) < (m : Int)) = false := decide_eq_false (by omega)
              go_wp2_with fail
              go_meet
              exact ⟨false, rfl, (show _ ↔ _ from ⟨fun h => Bool.noConfusion h, fun h => (by omega : False).elim⟩), rfl⟩
        case rest =>
          obtain ⟨B, rfl, HB, rfl⟩ := hcut
          go_upto_if 185 with (fail)
          go_cut [24] (fun ev wx => ev = .int .i64 e ∧ ∃ d1, Aside (Rot lo m e d d1) ∧ Aside (SWK enc kc w0 blk off d1 wx))
          case first =>
            as_aux_lemma =>
              cases B with
              | true =>
                obtain ⟨hc1, hc2⟩ := HB.out.1 rfl
                have hc := rotate_h enc kc z53 blk off cap lo m e d0 d w0 wr (.func (.func g) #[] cb) R hs SJ.out hc1 hc2 (by omega) hsz
                clear SJ
                go_wp2_with (go_at_call 97; refine hc.mono ?_; rintro e' w1 ⟨rfl, d1, hR1, hS1⟩)
                have R1 : Aside _ := hR1
                have S1 : Aside _ := hS1
                clear hR1 hS1
                go_wp2_with fail
                go_meet
                exact ⟨rfl, d1, R1, S1⟩
              | false =>
                have hn : ¬ (lo < m ∧ m < e) := fun h => by cases HB.out.2 h
                have RN : Aside (Rot lo m e d d) := HV.out.rot_none (by omega) (by omega) (by omega) (by omega) (by omega)
                clear hn
                go_wp2_with fail
                go_meet
                exact ⟨rfl, d, RN, SJ⟩
          case rest =>
            clear SJ HB
            obtain ⟨rfl, d1, R1, S1⟩ := hcut
            have D1 := rec_done (s := lo) (mid := mid) (e := e) HV.out (by omega) (by omega) e1 e2 (by omega) HF.out HG.out R1.out
            have hd1 : d1.size = d.size := R1.out.size
            have HD1 : Aside (d1.size = d.size) := hd1
            have DA : Aside _ := D1.1
            have DB : Aside _ := D1.2
            clear D1 HF HG R1 hd1
            generalize wc = w1 at S1 ⊢
            go_upto_region 41 with (fail)
            go_cut [199] (fun bv wx => ∃ B : Bool, bv = .bool B ∧ Aside (B = true ↔ a < lo ∧ lo < mid) ∧ w1 = wx)
            case first =>
              as_aux_lemma =>
                by_cases hc1 : a < lo
                · have t1 : decide ((a : Int) < (lo : Int)) = true := decide_eq_true (by omega)
                  by_cases hc2 : lo < mid
                  · have t2 : decide ((lo : Int) < (mid : Int)) = true := decide_eq_true (by omega)
                    go_wp2_with fail
                    go_meet
                    exact ⟨true, rfl, (show _ ↔ _ from ⟨fun _ => ⟨hc1, hc2⟩, fun _ => rfl⟩), rfl⟩
                  · have t2 : decide ((lo : Int) < (mid : Int)) = false := decide_eq_false (by omega)
                    go_wp2_with fail
                    go_meet
                    exact ⟨false, rfl, (show _ ↔ _ from ⟨fun h => Bool.noConfusion h, fun h => (by omega : False).elim⟩), rfl⟩
                · have t1 : decide ((a : Int) < (lo : Int)) = false := decide_eq_false (by omega)
                  go_wp2_with fail
                  go_meet
                  exact ⟨false, rfl, (show _ ↔ _ from ⟨fun h => Bool.noConfusion h, fun h => (by omega : False).elim⟩), rfl⟩
            case rest =>
              obtain ⟨B, rfl, HB, rfl⟩ := hcut
              go_upto_if 199 with (fail)
              go_cut [24] (fun ev wx => ev = .int .i64 e ∧ ∃ d2, Aside (Sorts key pos a mid d1 d2) ∧ Aside (SWK enc kc w0 blk off d2 wx))
              case first =>
                as_aux_lemma =>
                  cases B with
                  | true =>
                    obtain ⟨hc1, hc2⟩ := HB.out.1 rfl
                    have hc := HI.out a lo mid d1 w1 HD1.out hc1 hc2 (by omega) DA.out S1.out
                    clear S1
                    go_wp2_with (go_at_call 91; refine hc.mono ?_; rintro e' w2 ⟨rfl, d2, hR2, hS2⟩)
                    have R2 : Aside _ := hR2
                    have S2 : Aside _ := hS2
                    clear hR2 hS2
                    go_wp2_with fail
                    go_meet
                    exact ⟨rfl, d2, R2, S2⟩
                  | false =>
                    have hn : ¬ (a < lo ∧ lo < mid) := fun h => by cases HB.out.2 h
                    have RN : Aside (Sorts key pos a mid d1 d1) := Halves.none DA.out (by omega)
                    clear hn
                    go_wp2_with fail
                    go_meet
                    exact ⟨rfl, d1, RN, S1⟩
              case rest =>
                clear S1 DA HB
                obtain ⟨rfl, d2, R2, S2⟩ := hcut
                have D2 := DB.out d2 R2.out
                have HD2 : Aside (d2.size = d.size) := (R2.out.size).trans HD1.out
                have DC : Aside _ := D2.1
                have DD : Aside _ := D2.2
                clear D2 DB R2
                generalize wc = w2 at S2 ⊢
                go_upto_region 43 with (fail)
                go_cut [213] (fun bv wx => ∃ B : Bool, bv = .bool B ∧ Aside (B = true ↔ mid < e ∧ e < b) ∧ w2 = wx)
                case first =>
                  as_aux_lemma =>
                    by_cases hc1 : mid < e
                    · have t1 : decide ((mid : Int) < (e : Int)) = true := decide_eq_true (by omega)
                      by_cases hc2 : e < b
                      · have t2 : decide ((e : Int) < (b : Int)) = true := decide_eq_true (by omega)
                        go_wp2_with fail
                        go_meet
                        exact ⟨true, rfl, (show _ ↔ _ from ⟨fun _ => ⟨hc1, hc2⟩, fun _ => rfl⟩), rfl⟩
                      · have t2 : decide ((e : Int) < (b : Int)) = false := decide_eq_false (by omega)
                        go_wp2_with fail
                        go_meet
                        exact ⟨false, rfl, (show _ ↔ _ from ⟨fun h => Bool.noConfusion h, fun h => (by omega : False).elim⟩), rfl⟩
                    · have t1 : decide ((mid : Int) < (e : Int)) = false := decide_eq_false (by omega)
                      go_wp2_with fail
                      go_meet
                      exact ⟨false, rfl, (show _ ↔ _ from ⟨fun h => Bool.noConfusion h, fun h => (by omega : False).elim⟩), rfl⟩
                case rest =>
                  obtain ⟨B, rfl, HB, rfl⟩ := hcut
                  cases B with
                  | true =>
                    obtain ⟨hc1, hc2⟩ := HB.out.1 rfl
                    have hc := HI.out mid e b d2 w2 HD2.out hc1 hc2 (by omega) DC.out S2.out
                    clear S2
                    go_wp2_with (go_at_call 91; refine hc.mono ?_; rintro e' w3 ⟨rfl, d3, hR3, hS3⟩)
                    have R3 : Aside _ := hR3
                    have S3 : Aside _ := hS3
                    clear hR3 hS3
                    go_returns
                    exact ⟨rfl, d3, DD.out d3 R3.out, S3.out⟩
                  | false =>
                    have hn : ¬ (mid < e ∧ e < b) := fun h => by cases HB.out.2 h
                    have RN : Aside (Sorts key pos mid b d2 d2) := Halves.none DC.out (by omega)
                    clear hn
                    go_wp2
                    go_returns
                    exact ⟨rfl, d2, DD.out d2 RN.out, S2.out⟩
end Go.Proofs.Ytdgnhimiamchmaa
