import Derived.Test.YtdgnhimiamchmaaSh5
namespace Go.Proofs.Ytdgnhimiamchmaa
open Go.Shelf Go.RowKit Go.Lib Go.Sort
variable {α : Type} [Inhabited α]

set_option maxHeartbeats 16000000 in
set_option maxRecDepth 1000000 in
theorem symOne_h (enc : α → List Value) (kc : Nat) (z53 : ∀ w, Sem.run Try.prog (Go.sizeOf 53) w = .ok kc w) (key : α → Int) (pos : α → Nat) (cf : α → α → Int) (hcf : ∀ x y, cf x y < 0 ↔ key x < key y) (g : Nat) (cb : Array Value) (blk off cap a m b : Nat) (d0 d : Array α) (w0 w : World)
    (eg : ∀ args w, (callFunc g args).run Try.prog w = .ok (.enter g args) w) (hcmp : CmpLays Try.prog g cb enc kc cf blk off d0.size w0) (R : RowK enc kc w0 blk off d0) (hs : d0.size = d.size) (S : SWK enc kc w0 blk off d w)
    (hm : m = a + 1) (hab : m ≤ b) (hsz : d.size ≤ 100000) (hV : Halves key pos a m b d) :
    Calls Try.prog 91 #[.slice (some ⟨blk, off, none⟩) d.size cap, .int .i64 a, .int .i64 m, .int .i64 b, .func (.func g) #[] cb] w fun e w' => e = .returned (.tuple #[]) ∧ ∃ d', Sorts key pos a b d d' ∧ SWK enc kc w0 blk off d' w' := by
  have mixed : Try.prog.follows .mixedOrders = true := by kernel_rfl
  have hb := hV.bound.2.2
  have HC : Aside _ := hcmp
  have CF : Aside _ := hcf
  have HV : Aside (Halves key pos a (a + 1) b d) := by rw [← hm]; exact hV
  have S0 : Aside (SWK enc kc w0 blk off d w) := S
  have wm : IntKind.i64.wrap ((m : Int) - (a : Int)) = 1 := by rw [IntKind.wrap_i64]; omega
  have zm : (m : Int) - (a : Int) = 1 := by omega
  have HM : Aside (m = a + 1) := hm
  have hm1 : a + 1 ≤ m := by omega
  have hm2 : m ≤ a + 1 := by omega
  clear hcmp hcf S hV hm
  go_enter Try.func91, Try.ntmps91
  go_wp2
  go_loopg [10, 11] (b - m) (fun g1 iv jv wr => ∃ lo hi : Nat, iv = .int .i64 lo ∧ jv = .int .i64 hi ∧ m ≤ lo ∧ lo ≤ hi ∧ hi ≤ b ∧ hi - lo ≤ g1 ∧ Aside (SWK enc kc w0 blk off d wr) ∧
    Aside ((∀ k, a + 1 ≤ k → k < lo → key d[k]! < key d[a]!) ∧ (∀ k, hi ≤ k → k < b → key d[a]! ≤ key d[k]!)))
  case atStart => exact ⟨m, b, rfl, rfl, Nat.le_refl _, hab, Nat.le_refl _, Nat.le_refl _, S0, ⟨fun k h1 h2 => by omega, fun k h1 h2 => by omega⟩⟩
  case round =>
    clear S0
    obtain ⟨lo, hi, rfl, rfl, hml, hlh, hhb, hg, SJ, I⟩ := hrel
    by_cases hlt : lo < hi
    · obtain ⟨h, hh⟩ : ∃ q, q = (lo + hi) / 2 := ⟨_, rfl⟩
      have zh : ((lo : Int) + (hi : Int)) / 2 = (h : Int) := by omega
      have h1 : lo ≤ h := by omega
      have h2 : h < hi := by omega
      have bh : (h : Int) < (d.size : Int) := by omega
      have ba : (a : Int) < (d.size : Int) := by omega
      have PS := one_search HV.out (by omega) h1 h2 hhb I.out
      obtain ⟨x, hx⟩ : ∃ x, x = d[h]! := ⟨_, rfl⟩
      obtain ⟨y, hy⟩ : ∃ x, x = d[a]! := ⟨_, rfl⟩
      have la : ∀ n os, Sem.run Try.prog (loadCellsFrom ⟨blk, off + h * kc, none⟩ 0 kc #[]) (grow (wr.drewN n) os) = .ok (enc x).toArray (grow (wr.drewN n) os) := by rw [hx]; exact SJ.out.ld R (by omega) _ h (by omega)
      have lb : ∀ n os, Sem.run Try.prog (loadCellsFrom ⟨blk, off + a * kc, none⟩ 0 kc #[]) (grow (wr.drewN n) os) = .ok (enc y).toArray (grow (wr.drewN n) os) := by rw [hy]; exact SJ.out.ld R (by omega) _ a (by omega)
      have hc : ∀ n os, Calls Try.prog g (#[.agg (enc x).toArray, .agg (enc y).toArray] ++ cb) (grow (wr.drewN n) os) fun e w' => e = .returned (.int .i64 (cf x y)) ∧ ∃ q os', w' = grow ((grow (wr.drewN n) os).drewN q) os' := SJ.out.cmp HC.out (by omega) x y
      have hk := CF.out x y
      have PA : Aside ((cf x y < 0 → ∀ k, a + 1 ≤ k → k < h + 1 → key d[k]! < key d[a]!) ∧ (¬ cf x y < 0 → ∀ k, h ≤ k → k < b → key d[a]! ≤ key d[k]!)) := by
        rw [← hx, ← hy] at PS
        rw [← hy]; exact ⟨fun q => PS.1 (hk.1 q), fun q => PS.2 (Int.not_lt.1 fun q2 => q (hk.2 q2))⟩
      clear PS hk hx hy hh
      by_cases hv : cf x y < 0
      · have hd : decide (cf x y < 0) = true := decide_eq_true hv
        have PB : Aside _ := PA.out.1 hv
        go_wp2_with fail
        go_quiet_grown (first | (go_at_fn g; refine Calls.grown_of (hc _ _)))
        have S2 : Aside (SWK enc kc w0 blk off d (grow (wr.drewN nq) osq)) := SJ.out.grown nq osq
        clear la lb hc SJ
        generalize grow (wr.drewN nq) osq = w2 at S2 ⊢
        clear nq osq
        go_wp2
        go_roundg (hi - (h + 1))
        case measure => omega
        case rel => exact ⟨h + 1, hi, by go_num, rfl, by omega, by omega, hhb, Nat.le_refl _, S2, ⟨PB.out, I.out.2⟩⟩
      · have hd : decide (cf x y < 0) = false := decide_eq_false hv
        have PB : Aside _ := PA.out.2 hv
        go_wp2_with fail
        go_quiet_grown (first | (go_at_fn g; refine Calls.grown_of (hc _ _)))
        have S2 : Aside (SWK enc kc w0 blk off d (grow (wr.drewN nq) osq)) := SJ.out.grown nq osq
        clear la lb hc SJ
        generalize grow (wr.drewN nq) osq = w2 at S2 ⊢
        clear nq osq
        go_wp2
        go_roundg (h - lo)
        case measure => omega
        case rel => exact ⟨lo, h, rfl, rfl, hml, h1, by omega, Nat.le_refl _, S2, ⟨I.out.1, PB.out⟩⟩
    · obtain rfl : lo = hi := by omega
      obtain ⟨c, hc⟩ : ∃ q, q = lo - 1 - a := ⟨_, rfl⟩
      have FIN : Aside (Sorts key pos a b d (bubUp d a c)) := by
        rw [hc]; exact one_done HV.out (by omega) hhb I.out.1 (fun k h1 h2 => Int.not_lt.2 (I.out.2 k h1 h2))
      have hc1 : a + c + 1 = lo := by omega
      have HC1 : Aside (a + c + 1 = lo) := hc1
      have hc2 : a + c + 1 ≤ lo := by omega
      have hc3 : lo ≤ a + c + 1 := by omega
      clear I HV hc hc1
      have wl : IntKind.i64.wrap ((lo : Int) - 1) = (lo : Int) - 1 := by rw [IntKind.wrap_i64]; omega
      go_wp2
      go_loopg [13] c (fun g2 kv wr2 => ∃ (q p : Nat), kv = .int .i64 p ∧ Aside (p = a + q) ∧ q ≤ c ∧ c - q ≤ g2 ∧ Aside (SWK enc kc w0 blk off (bubUp d a q) wr2))
      case atStart => exact ⟨0, a, rfl, rfl, Nat.zero_le _, Nat.le_refl _, SJ⟩
      case round =>
        clear SJ
        obtain ⟨q, p, rfl, HP, hq, hg2, SJ⟩ := hrel
        have hp1 : a + q ≤ p := Nat.le_of_eq HP.out.symm
        have hp2 : p ≤ a + q := Nat.le_of_eq HP.out
        by_cases hqc : q < c
        · obtain ⟨jN, hjN⟩ : ∃ q, q = p + 1 := ⟨_, rfl⟩
          have zs : (bubUp d a q).size = d.size := by simp
          have zb : (p : Int) + 1 = (jN : Int) := by omega
          have wb : IntKind.i64.wrap ((p : Int) + 1) = (jN : Int) := by rw [IntKind.wrap_i64]; omega
          have pa : (0 : Int) ≤ (p : Int) := by omega
          have pc : (0 : Int) ≤ (jN : Int) := by omega
          have ba : (p : Int) < (d.size : Int) := by omega
          have bc : (jN : Int) < (d.size : Int) := by omega
          have tl : (p : Int) < (lo : Int) - 1 := by omega
          have na : p < (bubUp d a q).size := by omega
          have nc : jN < (bubUp d a q).size := by omega
          obtain ⟨x, hx⟩ : ∃ x, x = enc (bubUp d a q)[p]! := ⟨_, rfl⟩
          obtain ⟨y, hy⟩ : ∃ x, x = enc (bubUp d a q)[jN]! := ⟨_, rfl⟩
          have S3 : Aside (SWK enc kc w0 blk off (bubUp d a (q + 1)) ((wr.drew.setCells blk (off + p * kc) y).setCells blk (off + jN * kc) x)) := by
            rw [hx, hy, bubUp, ← HP.out, ← hjN]; exact SJ.out.swapped R p jN na nc
          have la2 : Sem.run Try.prog (loadCellsFrom ⟨blk, off + p * kc, none⟩ 0 kc #[]) wr.drew = .ok x.toArray wr.drew := by rw [hx]; exact SJ.out.ld1 R (by omega) _ p na
          have lb2 : Sem.run Try.prog (loadCellsFrom ⟨blk, off + jN * kc, none⟩ 0 kc #[]) wr.drew = .ok y.toArray wr.drew := by rw [hy]; exact SJ.out.ld1 R (by omega) _ jN nc
          have st1 : Sem.run Try.prog (storeCells ⟨blk, off + p * kc, none⟩ y 0) wr.drew = .ok () (wr.drew.setCells blk (off + p * kc) y) := by rw [hy]; exact SJ.out.st1 R (by omega) _ p na _
          have st2 : Sem.run Try.prog (storeCells ⟨blk, off + jN * kc, none⟩ x 0) (wr.drew.setCells blk (off + p * kc) y) = .ok () ((wr.drew.setCells blk (off + p * kc) y).setCells blk (off + jN * kc) x) := by rw [hx, hy]; exact SJ.out.st2 R (by omega) _ p jN na nc _ _
          have kx : x.length = kc := by rw [hx]; exact R.hk _
          have ky : y.length = kc := by rw [hy]; exact R.hk _
          have HJ : Aside (jN = p + 1) := hjN
          clear SJ hx hy na nc zs hjN
          go_wp2_with fail
          go_big_region_o
          clear la2 lb2 st1 st2 kx ky
          generalize ((wr.drew.setCells blk (off + p * kc) y).setCells blk (off + jN * kc) x) = w3 at S3 ⊢
          go_wp2
          go_roundg (c - (q + 1))
          case measure => omega
          case rel => exact ⟨q + 1, jN, by go_num, (show _ = _ by have := HJ.out; omega), by omega, Nat.le_refl _, S3⟩
        · obtain rfl : q = c := by omega
          have tl : ¬ (p : Int) < (lo : Int) - 1 := by omega
          go_wp2
          go_returns
          exact ⟨rfl, _, FIN.out, SJ.out⟩

set_option maxHeartbeats 16000000 in
set_option maxRecDepth 1000000 in
theorem symTwo_h (enc : α → List Value) (kc : Nat) (z53 : ∀ w, Sem.run Try.prog (Go.sizeOf 53) w = .ok kc w) (key : α → Int) (pos : α → Nat) (cf : α → α → Int) (hcf : ∀ x y, cf x y < 0 ↔ key x < key y) (g : Nat) (cb : Array Value) (blk off cap a m b : Nat) (d0 d : Array α) (w0 w : World)
    (eg : ∀ args w, (callFunc g args).run Try.prog w = .ok (.enter g args) w) (hcmp : CmpLays Try.prog g cb enc kc cf blk off d0.size w0) (R : RowK enc kc w0 blk off d0) (hs : d0.size = d.size) (S : SWK enc kc w0 blk off d w)
    (hm : b = m + 1) (ham : a + 2 ≤ m) (hsz : d.size ≤ 100000) (hV : Halves key pos a m b d) :
    Calls Try.prog 91 #[.slice (some ⟨blk, off, none⟩) d.size cap, .int .i64 a, .int .i64 m, .int .i64 b, .func (.func g) #[] cb] w fun e w' => e = .returned (.tuple #[]) ∧ ∃ d', Sorts key pos a b d d' ∧ SWK enc kc w0 blk off d' w' := by
  have mixed : Try.prog.follows .mixedOrders = true := by kernel_rfl
  have hb := hV.bound.2.2
  have HC : Aside _ := hcmp
  have CF : Aside _ := hcf
  have HV : Aside (Halves key pos a m b d) := hV
  have S0 : Aside (SWK enc kc w0 blk off d w) := S
  have wm : IntKind.i64.wrap ((m : Int) - (a : Int)) = (m : Int) - (a : Int) := by rw [IntKind.wrap_i64]; omega
  have tm : ((m : Int) - (a : Int) == 1) = false := by simp; omega
  have wb : IntKind.i64.wrap ((b : Int) - (m : Int)) = 1 := by rw [IntKind.wrap_i64]; omega
  have zb : (b : Int) - (m : Int) = 1 := by omega
  have HM : Aside (b = m + 1) := hm
  have hm1 : m + 1 ≤ b := by omega
  have hm2 : b ≤ m + 1 := by omega
  clear hcmp hcf S hV hm
  go_enter Try.func91, Try.ntmps91
  go_wp2
  go_loopg [14, 15] (m - a) (fun g1 iv jv wr => ∃ lo hi : Nat, iv = .int .i64 lo ∧ jv = .int .i64 hi ∧ a ≤ lo ∧ lo ≤ hi ∧ hi ≤ m ∧ hi - lo ≤ g1 ∧ Aside (SWK enc kc w0 blk off d wr) ∧
    Aside ((∀ k, a ≤ k → k < lo → key d[k]! ≤ key d[m]!) ∧ (∀ k, hi ≤ k → k < m → key d[m]! < key d[k]!)))
  case atStart => exact ⟨a, m, rfl, rfl, Nat.le_refl _, by omega, Nat.le_refl _, Nat.le_refl _, S0, ⟨fun k h1 h2 => by omega, fun k h1 h2 => by omega⟩⟩
  case round =>
    clear S0
    obtain ⟨lo, hi, rfl, rfl, hml, hlh, hhb, hg, SJ, I⟩ := hrel
    by_cases hlt : lo < hi
    · obtain ⟨h, hh⟩ : ∃ q, q = (lo + hi) / 2 := ⟨_, rfl⟩
      have zh : ((lo : Int) + (hi : Int)) / 2 = (h : Int) := by omega
      have h1 : lo ≤ h := by omega
      have h2 : h < hi := by omega
      have bh : (h : Int) < (d.size : Int) := by omega
      have bm : (m : Int) < (d.size : Int) := by omega
      have PS := two_search HV.out hml h1 h2 hhb I.out
      obtain ⟨y, hy⟩ : ∃ x, x = d[h]! := ⟨_, rfl⟩
      obtain ⟨x, hx⟩ : ∃ x, x = d[m]! := ⟨_, rfl⟩
      have la : ∀ n os, Sem.run Try.prog (loadCellsFrom ⟨blk, off + m * kc, none⟩ 0 kc #[]) (grow (wr.drewN n) os) = .ok (enc x).toArray (grow (wr.drewN n) os) := by rw [hx]; exact SJ.out.ld R (by omega) _ m (by omega)
      have lb : ∀ n os, Sem.run Try.prog (loadCellsFrom ⟨blk, off + h * kc, none⟩ 0 kc #[]) (grow (wr.drewN n) os) = .ok (enc y).toArray (grow (wr.drewN n) os) := by rw [hy]; exact SJ.out.ld R (by omega) _ h (by omega)
      have hc : ∀ n os, Calls Try.prog g (#[.agg (enc x).toArray, .agg (enc y).toArray] ++ cb) (grow (wr.drewN n) os) fun e w' => e = .returned (.int .i64 (cf x y)) ∧ ∃ q os', w' = grow ((grow (wr.drewN n) os).drewN q) os' := SJ.out.cmp HC.out (by omega) x y
      have hk := CF.out x y
      have PA : Aside ((¬ cf x y < 0 → ∀ k, a ≤ k → k < h + 1 → key d[k]! ≤ key d[m]!) ∧ (cf x y < 0 → ∀ k, h ≤ k → k < m → key d[m]! < key d[k]!)) := by
        rw [← hx, ← hy] at PS
        rw [← hx]; exact ⟨fun q => PS.1 (Int.not_lt.1 fun q2 => q (hk.2 q2)), fun q => PS.2 (hk.1 q)⟩
      clear PS hk hx hy hh
      by_cases hv : cf x y < 0
      · have hd : decide (cf x y < 0) = true := decide_eq_true hv
        have PB : Aside _ := PA.out.2 hv
        go_wp2_with fail
        go_quiet_grown (first | (go_at_fn g; refine Calls.grown_of (hc _ _)))
        have S2 : Aside (SWK enc kc w0 blk off d (grow (wr.drewN nq) osq)) := SJ.out.grown nq osq
        clear la lb hc SJ
        generalize grow (wr.drewN nq) osq = w2 at S2 ⊢
        clear nq osq
        go_wp2
        go_roundg (h - lo)
        case measure => omega
        case rel => exact ⟨lo, h, rfl, rfl, hml, h1, by omega, Nat.le_refl _, S2, ⟨I.out.1, PB.out⟩⟩
      · have hd : decide (cf x y < 0) = false := decide_eq_false hv
        have PB : Aside _ := PA.out.1 hv
        go_wp2_with fail
        go_quiet_grown (first | (go_at_fn g; refine Calls.grown_of (hc _ _)))
        have S2 : Aside (SWK enc kc w0 blk off d (grow (wr.drewN nq) osq)) := SJ.out.grown nq osq
        clear la lb hc SJ
        generalize grow (wr.drewN nq) osq = w2 at S2 ⊢
        clear nq osq
        go_wp2
        go_roundg (hi - (h + 1))
        case measure => omega
        case rel => exact ⟨h + 1, hi, by go_num, rfl, by omega, by omega, hhb, Nat.le_refl _, S2, ⟨PB.out, I.out.2⟩⟩
    · obtain rfl : lo = hi := by omega
      obtain ⟨c, hc⟩ : ∃ q, q = m - lo := ⟨_, rfl⟩
      have FIN : Aside (Sorts key pos a b d (bubDn d m c)) := by
        rw [hc, HM.out]; have hv := HV.out; rw [HM.out] at hv
        exact two_done hv hml hhb (fun k h1 h2 => Int.not_lt.2 (I.out.1 k h1 h2)) I.out.2
      have hc2 : c + lo ≤ m := by omega
      have hc3 : m ≤ c + lo := by omega
      clear I HV hc
      go_wp2
      go_loopg [17] c (fun g2 kv wr2 => ∃ (q p : Nat), kv = .int .i64 p ∧ Aside (p = m - q) ∧ q ≤ c ∧ c - q ≤ g2 ∧ Aside (SWK enc kc w0 blk off (bubDn d m q) wr2))
      case atStart => exact ⟨0, m, rfl, rfl, Nat.zero_le _, Nat.le_refl _, SJ⟩
      case round =>
        clear SJ
        obtain ⟨q, p, rfl, HP, hq, hg2, SJ⟩ := hrel
        have hp0 := HP.out
        have hp1 : p + q ≤ m := by omega
        have hp2 : m ≤ p + q := by omega
        clear hp0
        by_cases hqc : q < c
        · obtain ⟨jN, hjN⟩ : ∃ q, q + 1 = p := ⟨p - 1, by omega⟩
          have zs : (bubDn d m q).size = d.size := by simp
          have zb2 : (p : Int) - 1 = (jN : Int) := by omega
          have wb2 : IntKind.i64.wrap ((p : Int) - 1) = (jN : Int) := by rw [IntKind.wrap_i64]; omega
          have pa : (0 : Int) ≤ (p : Int) := by omega
          have pc : (0 : Int) ≤ (jN : Int) := by omega
          have ba : (p : Int) < (d.size : Int) := by omega
          have bc : (jN : Int) < (d.size : Int) := by omega
          have tl : (lo : Int) < (p : Int) := by omega
          have tl2 : decide ((p : Int) > (lo : Int)) = true := decide_eq_true (by omega)
          have na : p < (bubDn d m q).size := by omega
          have nc : jN < (bubDn d m q).size := by omega
          obtain ⟨x, hx⟩ : ∃ x, x = enc (bubDn d m q)[p]! := ⟨_, rfl⟩
          obtain ⟨y, hy⟩ : ∃ x, x = enc (bubDn d m q)[jN]! := ⟨_, rfl⟩
          have S3 : Aside (SWK enc kc w0 blk off (bubDn d m (q + 1)) ((wr.drew.setCells blk (off + p * kc) y).setCells blk (off + jN * kc) x)) := by
            rw [hx, hy, bubDn, ← HP.out, show p - 1 = jN by omega]; exact SJ.out.swapped R p jN na nc
          have la2 : Sem.run Try.prog (loadCellsFrom ⟨blk, off + p * kc, none⟩ 0 kc #[]) wr.drew = .ok x.toArray wr.drew := by rw [hx]; exact SJ.out.ld1 R (by omega) _ p na
          have lb2 : Sem.run Try.prog (loadCellsFrom ⟨blk, off + jN * kc, none⟩ 0 kc #[]) wr.drew = .ok y.toArray wr.drew := by rw [hy]; exact SJ.out.ld1 R (by omega) _ jN nc
          have st1 : Sem.run Try.prog (storeCells ⟨blk, off + p * kc, none⟩ y 0) wr.drew = .ok () (wr.drew.setCells blk (off + p * kc) y) := by rw [hy]; exact SJ.out.st1 R (by omega) _ p na _
          have st2 : Sem.run Try.prog (storeCells ⟨blk, off + jN * kc, none⟩ x 0) (wr.drew.setCells blk (off + p * kc) y) = .ok () ((wr.drew.setCells blk (off + p * kc) y).setCells blk (off + jN * kc) x) := by rw [hx, hy]; exact SJ.out.st2 R (by omega) _ p jN na nc _ _
          have kx : x.length = kc := by rw [hx]; exact R.hk _
          have ky : y.length = kc := by rw [hy]; exact R.hk _
          have HJ : Aside (jN + 1 = p) := hjN
          clear SJ hx hy na nc zs hjN
          go_wp2_with fail
          go_big_region_o
          clear la2 lb2 st1 st2 kx ky
          generalize ((wr.drew.setCells blk (off + p * kc) y).setCells blk (off + jN * kc) x) = w3 at S3 ⊢
          go_wp2
          go_roundg (c - (q + 1))
          case measure => omega
          case rel => exact ⟨q + 1, jN, by go_num, (show _ = _ by have := HJ.out; omega), by omega, Nat.le_refl _, S3⟩
        · obtain rfl : q = c := by omega
          have tl : ¬ (lo : Int) < (p : Int) := by omega
          have tl2 : decide ((p : Int) > (lo : Int)) = false := decide_eq_false (by omega)
          go_wp2
          go_returns
          exact ⟨rfl, _, FIN.out, SJ.out⟩
end Go.Proofs.Ytdgnhimiamchmaa
