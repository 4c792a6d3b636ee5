import Derived.Test.YtdgnhimiamchmaaSh7
namespace Go.Proofs.Ytdgnhimiamchmaa
open Go.Shelf Go.RowKit Go.Lib Go.Sort
variable {α : Type} [Inhabited α]

theorem symMerge_h (enc : α → List Value) (kc : Nat) (z53 : ∀ w, Sem.run Try.prog (Go.sizeOf 53) w = .ok kc w) (key : α → Int) (pos : α → Nat) (cf : α → α → Int) (hcf : ∀ x y, cf x y < 0 ↔ key x < key y) (g : Nat) (cb : Array Value) (blk off cap N : Nat) (d0 : Array α) (w0 : World)
    (eg : ∀ args w, (callFunc g args).run Try.prog w = .ok (.enter g args) w) (hcmp : CmpLays Try.prog g cb enc kc cf blk off d0.size w0) (R : RowK enc kc w0 blk off d0) (hN : d0.size = N) (hsz : N ≤ 100000) :
    ∀ (k a m b : Nat) (d : Array α) (w : World), d.size = N → b - a ≤ k → a < m → m < b → Halves key pos a m b d → SWK enc kc w0 blk off d w →
    Calls Try.prog 91 #[.slice (some ⟨blk, off, none⟩) N cap, .int .i64 a, .int .i64 m, .int .i64 b, .func (.func g) #[] cb] w fun e w' => e = .returned (.tuple #[]) ∧ ∃ d', Sorts key pos a b d d' ∧ SWK enc kc w0 blk off d' w'
  | 0, a, m, b, d, w, hd, hk, h1, h2, hV, S => by omega
  | k + 1, a, m, b, d, w, hd, hk, h1, h2, hV, S => by
    subst hd
    by_cases c1 : m = a + 1
    · exact symOne_h enc kc z53 key pos cf hcf g cb blk off cap a m b d0 d w0 w eg hcmp R hN S c1 (by omega) hsz hV
    · by_cases c2 : b = m + 1
      · exact symTwo_h enc kc z53 key pos cf hcf g cb blk off cap a m b d0 d w0 w eg hcmp R hN S c2 (by omega) hsz hV
      · exact symRec_h enc kc z53 key pos cf hcf g cb blk off cap a m b d0 d w0 w eg hcmp R hN S (by omega) (by omega) hsz hV
          (fun a' m' b' dk W q1 q2 q3 q4 q5 q6 => symMerge_h enc kc z53 key pos cf hcf g cb blk off cap d.size d0 w0 eg hcmp R hN hsz k a' m' b' dk W q1 (by omega) q2 q3 q5 q6)

set_option maxHeartbeats 16000000 in
set_option maxRecDepth 1000000 in
theorem stable_h (enc : α → List Value) (kc : Nat) (z53 : ∀ w, Sem.run Try.prog (Go.sizeOf 53) w = .ok kc w) (key : α → Int) (pos : α → Nat) (cf : α → α → Int) (hcf : ∀ x y, cf x y < 0 ↔ key x < key y) (g : Nat) (cb : Array Value) (blk off cap n : Nat) (l : List α) (w : World)
    (eg : ∀ args w, (callFunc g args).run Try.prog w = .ok (.enter g args) w) (hcmp : CmpLays Try.prog g cb enc kc cf blk off n w) (R : RowK enc kc w blk off l.toArray) (hn : l.length = n) (hsz : n ≤ 100000) (hP : l.Pairwise (fun x y => pos x < pos y)) :
    Calls Try.prog 77 #[.slice (some ⟨blk, off, none⟩) n cap, .int .i64 n, .func (.func g) #[] cb] w fun e w' => e = .returned (.tuple #[]) ∧ ∃ l' : List α, l'.Perm l ∧ l'.Pairwise (Ks key pos) ∧ SWK enc kc w blk off l'.toArray w' := by
  have mixed : Try.prog.follows .mixedOrders = true := by kernel_rfl
  have hN : l.toArray.size = n := by simpa using hn
  have INS : Aside (∀ (a b : Nat) (dk : Array α) (W : World), dk.size = n → a ≤ b → b ≤ n → Inc pos a b dk → SWK enc kc w blk off dk W →
      Calls Try.prog 90 #[.slice (some ⟨blk, off, none⟩) n cap, .int .i64 a, .int .i64 b, .func (.func g) #[] cb] W fun e w' => e = .returned (.tuple #[]) ∧ ∃ d', Sorts key pos a b dk d' ∧ SWK enc kc w blk off d' w') := fun a b dk W h1 h2 h3 h4 h5 => by
    rw [← h1]
    exact insertion_h enc kc z53 key pos cf hcf g cb blk off cap a b l.toArray dk w W eg (by rw [hN]; exact hcmp) R (by omega) h5 h2 (by omega) (by omega) h4
  have SYM : Aside (∀ (a m b : Nat) (dk : Array α) (W : World), dk.size = n → a < m → m < b → Halves key pos a m b dk → SWK enc kc w blk off dk W →
      Calls Try.prog 91 #[.slice (some ⟨blk, off, none⟩) n cap, .int .i64 a, .int .i64 m, .int .i64 b, .func (.func g) #[] cb] W fun e w' => e = .returned (.tuple #[]) ∧ ∃ d', Sorts key pos a b dk d' ∧ SWK enc kc w blk off d' w') := fun a m b dk W h1 h2 h3 h4 h5 =>
    symMerge_h enc kc z53 key pos cf hcf g cb blk off cap n l.toArray w eg (by rw [hN]; exact hcmp) R hN hsz _ a m b dk W h1 (Nat.le_refl _) h2 h3 h4 h5
  have S0 : Aside (SWK enc kc w blk off l.toArray w) := SWK.start R.hH
  have T0 : Aside (St1 key pos 20 l 0 l.toArray) := St1.start l hP
  have LN : Aside (l.length = n) := hn
  clear hcmp hcf R hn hP hN
  go_enter Try.func77, Try.ntmps77
  go_wp2
  go_loopg [7, 8] n (fun g1 av bv wr => ∃ (a b : Nat) (dk : Array α), av = .int .i64 a ∧ bv = .int .i64 b ∧ Aside (b = a + 20) ∧ n - a ≤ g1 ∧ Aside (St1 key pos 20 l a dk) ∧ Aside (SWK enc kc w blk off dk wr))
  case atStart => exact ⟨0, 20, l.toArray, rfl, rfl, rfl, by omega, T0, S0⟩
  case round =>
    clear S0 T0
    obtain ⟨a, b, dk, rfl, rfl, HB, hg, TJ, SJ⟩ := hrel
    have hb1 : a + 20 ≤ b := Nat.le_of_eq HB.out.symm
    have hb2 : b ≤ a + 20 := Nat.le_of_eq HB.out
    have hsz1 := TJ.out.size
    have hdk : dk.size = n := by rw [hsz1.1, LN.out]
    have han : a ≤ n := by rw [← LN.out]; exact hsz1.2
    have HDK : Aside (dk.size = n) := hdk
    clear hsz1 hdk
    by_cases hlt : b ≤ n
    · have hc := INS.out a b dk wr HDK.out (by omega) hlt (TJ.out.inc (by omega) (by rw [LN.out]; exact hlt)) SJ.out
      have wb : IntKind.i64.wrap ((b : Int) + 20) = (b : Int) + 20 := by rw [IntKind.wrap_i64]; omega
      go_wp2_with (go_at_call 90; refine hc.mono ?_; rintro e w1 ⟨rfl, d1, hR1, hS1⟩)
      have R1 : Aside _ := hR1
      have S1 : Aside _ := hS1
      clear hR1 hS1 SJ
      go_wp2
      go_roundg (n - b)
      case measure => omega
      case rel =>
        refine ⟨b, b + 20, d1, rfl, by go_num, rfl, Nat.le_refl _, ?_, S1⟩
        show St1 key pos 20 l b d1
        have hr := R1.out
        rw [HB.out] at hr ⊢
        exact TJ.out.step hr
    · have hc := INS.out a n dk wr HDK.out (by omega) (Nat.le_refl _) (TJ.out.inc (by omega) (by rw [LN.out]; exact Nat.le_refl _)) SJ.out
      go_wp2_with (go_at_call 90; refine hc.mono ?_; rintro e w1 ⟨rfl, d1, hR1, hS1⟩)
      have A1 : Aside (AllRuns key pos 20 l d1) := TJ.out.last (by rw [LN.out]; omega) (by rw [LN.out]; exact hR1)
      have S1 : Aside _ := hS1
      clear hR1 hS1 SJ TJ
      go_wp2
      go_loopg [6] n (fun g1 bv wr => ∃ (bs : Nat) (dk : Array α), bv = .int .i64 bs ∧ 0 < bs ∧ bs ≤ 2 * n + 20 ∧ n - bs ≤ g1 ∧ Aside (AllRuns key pos bs l dk) ∧ Aside (SWK enc kc w blk off dk wr))
      case atStart => exact ⟨20, d1, rfl, by omega, by omega, by omega, A1, S1⟩
      case round =>
        clear S1 A1 HDK hlt hb1 hb2 HB han
        obtain ⟨bs, dk, rfl, hb0, hbn, hg, AJ, SJ⟩ := hrel
        by_cases hlt : bs < n
        · obtain ⟨b2, hb2⟩ : ∃ q, q = 2 * bs := ⟨_, rfl⟩
          have zb2 : 2 * (bs : Int) = (b2 : Int) := by omega
          have wb2 : IntKind.i64.wrap (2 * (bs : Int)) = (b2 : Int) := by rw [IntKind.wrap_i64]; omega
          have wb2' : IntKind.i64.wrap (b2 : Int) = (b2 : Int) := by rw [IntKind.wrap_i64]; omega
          have zb3 : (bs : Int) * 2 = (b2 : Int) := by omega
          have wb3 : IntKind.i64.wrap ((bs : Int) * 2) = (b2 : Int) := by rw [IntKind.wrap_i64]; omega
          have hB2 : Aside (b2 = 2 * bs) := hb2
          have q1 : 2 * bs ≤ b2 := by omega
          have q2 : b2 ≤ 2 * bs := by omega
          clear hb2
          go_wp2
          go_loopg [7, 8] n (fun g2 av bv wr => ∃ (a b : Nat) (dk : Array α), av = .int .i64 a ∧ bv = .int .i64 b ∧ Aside (b = a + 2 * bs) ∧ a ≤ n ∧ n - a ≤ g2 ∧ Aside (St2 key pos bs l a dk) ∧ Aside (SWK enc kc w blk off dk wr))
          case atStart => exact ⟨0, b2, dk, rfl, rfl, (show _ = _ by have := hB2.out; omega), Nat.zero_le _, by omega, AJ.out.start, SJ⟩
          case round =>
            clear SJ AJ
            obtain ⟨a, b, dk, rfl, rfl, HB, han, hg2, TJ, SJ⟩ := hrel
            have hb1 : a + 2 * bs ≤ b := Nat.le_of_eq HB.out.symm
            have hb2 : b ≤ a + 2 * bs := Nat.le_of_eq HB.out
            have HDK : Aside (dk.size = n) := (TJ.out.size.1).trans LN.out
            obtain ⟨m, hm⟩ : ∃ q, q = a + bs := ⟨_, rfl⟩
            have zm : (a : Int) + (bs : Int) = (m : Int) := by omega
            have wm : IntKind.i64.wrap (m : Int) = (m : Int) := by rw [IntKind.wrap_i64]; omega
            have hm1 : a + bs ≤ m := by omega
            have hm2 : m ≤ a + bs := by omega
            have HM : Aside (m = a + bs) := hm
            clear hm
            by_cases hbl : b ≤ n
            · have hs := TJ.out.step (by rw [LN.out]; omega)
              rw [← HB.out, ← HM.out] at hs
              have HS : Aside _ := hs.2
              have hc := SYM.out a m b dk wr HDK.out (by omega) (by omega) hs.1 SJ.out
              clear hs
              obtain ⟨b', hb'⟩ : ∃ q, q = b + b2 := ⟨_, rfl⟩
              have zb' : (b : Int) + (b2 : Int) = (b' : Int) := by omega
              have wb' : IntKind.i64.wrap (b' : Int) = (b' : Int) := by rw [IntKind.wrap_i64]; omega
              have HB' : Aside (b' = b + b2) := hb'
              clear hb'
              go_wp2_with (go_at_call 91; refine hc.mono ?_; rintro e w1 ⟨rfl, d2, hR1, hS1⟩)
              have T1 : Aside (St2 key pos bs l b d2) := HS.out d2 hR1
              have S1 : Aside _ := hS1
              clear hR1 hS1 SJ HS TJ
              go_wp2
              go_roundg (n - b)
              case measure => omega
              case rel => exact ⟨b, b', d2, rfl, by go_num, (show _ = _ by have := HB'.out; have := hB2.out; omega), hbl, Nat.le_refl _, T1, S1⟩
            · by_cases hml : m < n
              · have hs := TJ.out.last (by rw [LN.out]; omega) (by rw [LN.out]; omega)
                rw [LN.out, ← HM.out] at hs
                have HS : Aside _ := hs.2
                have hc := SYM.out a m n dk wr HDK.out (by omega) hml hs.1 SJ.out
                clear hs
                go_wp2_with (go_at_call 91; refine hc.mono ?_; rintro e w1 ⟨rfl, d2, hR1, hS1⟩)
                have T1 : Aside (AllRuns key pos b2 l d2) := by rw [hB2.out]; exact HS.out d2 hR1
                have S1 : Aside _ := hS1
                clear hR1 hS1 SJ HS TJ
                go_wp2
                go_roundg (n - b2)
                case measure => omega
                case rel => exact ⟨b2, d2, by go_num, by omega, by omega, Nat.le_refl _, T1, S1⟩
              · have T1 : Aside (AllRuns key pos b2 l dk) := by rw [hB2.out]; exact TJ.out.none (by rw [LN.out]; omega)
                clear TJ
                go_wp2
                go_roundg (n - b2)
                case measure => omega
                case rel => exact ⟨b2, dk, by go_num, by omega, by omega, Nat.le_refl _, T1, SJ⟩
        · obtain ⟨l', rfl, h1, h2⟩ := AJ.out.done (by rw [LN.out]; omega)
          have H1 : Aside _ := h1
          have H2 : Aside _ := h2
          clear h1 h2 AJ
          go_wp2
          go_end0
          exact ⟨rfl, l', H1.out, H2.out, SJ.out⟩

set_option maxRecDepth 1000000 in
theorem sortStable_h (enc : α → List Value) (kc : Nat) (z53 : ∀ w, Sem.run Try.prog (Go.sizeOf 53) w = .ok kc w) (key : α → Int) (pos : α → Nat) (cf : α → α → Int) (hcf : ∀ x y, cf x y < 0 ↔ key x < key y) (g : Nat) (cb : Array Value) (blk off cap n : Nat) (l : List α) (w : World)
    (eg : ∀ args w, (callFunc g args).run Try.prog w = .ok (.enter g args) w) (hcmp : CmpLays Try.prog g cb enc kc cf blk off n w) (R : RowK enc kc w blk off l.toArray) (hn : l.length = n) (hsz : n ≤ 100000) (hP : l.Pairwise (fun x y => pos x < pos y)) :
    Calls Try.prog 59 #[.slice (some ⟨blk, off, none⟩) n cap, .func (.func g) #[] cb] w fun e w' => e = .returned (.tuple #[]) ∧ ∃ l' : List α, l'.Perm l ∧ l'.Pairwise (Ks key pos) ∧ SWK enc kc w blk off l'.toArray w' := by
  have H : Aside _ := stable_h enc kc z53 key pos cf hcf g cb blk off cap n l w eg hcmp R hn hsz hP
  clear hcmp hcf R hn hP
  go_enter Try.func59, Try.ntmps59
  go_wp2_with fail
  refine Calls.mono H.out ?_
  rintro e w1 ⟨rfl, hR⟩
  have HR : Aside _ := hR
  clear hR H
  go_wp2
  go_end0
  exact ⟨rfl, HR.out⟩
end Go.Proofs.Ytdgnhimiamchmaa
