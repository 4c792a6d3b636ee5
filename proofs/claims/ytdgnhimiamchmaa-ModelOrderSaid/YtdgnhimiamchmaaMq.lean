import Derived.Test.YtdgnhimiamchmaaMp
namespace Go.Proofs.Ytdgnhimiamchmaa
open Go.RowKit
open BigFrame Lib

/-- a row that is none has no room -/
theorem none_open {H : Type} {enc : TypeId × Value → H} {w : World} {base : Nat} {spare : Nat → Bool} {hd : Bool} {fuel : Nat} {a : Option Addr} {len cap : Nat} {x : DataW H × List MemPlace}
    (h : DataW.trod enc Try.prog w base spare hd fuel 42 [.slice a len cap] = some x) : a = none → cap = 0 := by
  rintro rfl
  rcases Go.Deep.open_slice Try.underlying42 h with ⟨hcs, _⟩ | ⟨ad, len', cap', m, n, D, Pl, hcs, _⟩
  · simp at hcs; exact hcs.2
  · simp at hcs
def HistsN (a : Option Addr) (cap : Nat) (w : World) (l : List HistV) : Prop := HistsAt w a l ∧ (a = none → cap = 0) ∧ l.length ≤ cap ∧ cap ≤ maxLen
theorem histsN_open {H : Type} {enc : TypeId × Value → H} {w : World} {base : Nat} {spare : Nat → Bool} {hd : Bool} {fuel : Nat} {a : Option Addr} {len cap : Nat} {x : DataW H × List MemPlace}
    (h : DataW.trod enc Try.prog w base spare hd fuel 42 [.slice a len cap] = some x) :
    len ≤ cap ∧ cap ≤ maxLen ∧ ∃ l : List HistV, l.length = len ∧ HistsN a cap w l := by
  obtain ⟨h1, h2, l, h3, h4⟩ := hists_open h
  exact ⟨h1, h2, l, h3, h4, none_open h, by omega, h2⟩

theorem replay_nil : replay 30 [] = (0, fun _ => zeros) := rfl

set_option maxRecDepth 100000 in
set_option maxHeartbeats 8000000 in
theorem order_nil (a : Option Addr) (c : Nat) (k0 : Int) (w : World) (hk0 : -9223372036854775808 ≤ k0) (hk1 : k0 ≤ 9223372036854775807) (hcm : c ≤ maxLen) (hnone : a = none → c = 0) :
    Calls Try.prog 6 #[.slice a 0 c, .int .i64 k0] w fun e w' => e = .returned (.bool true) ∧ Below w.heap.size w w' := by
  have HNIL : ∀ (W : World) (a' : Option Addr), HistsAt W a' [] := fun W a' => ⟨fun i x hi => by simp at hi, fun x hx => by simp at hx⟩
  have HAW := Lib.hid awake_any
  have SM := Lib.hid (smallH_any a c [] w (by simp) (HNIL w a))
  have HRD := Lib.hid (fun w => round_any k0 1 w (by omega) (by omega) hk0 hk1)
  rw [Int.emod_one] at HRD
  have HRP := Lib.hid (fun a6 c6 W => replay_good 30 a6 c6 [] W (by omega) (by omega) (by simp) (fun x hx => by simp at hx) (HNIL W a6))
  rw [replay_nil] at HRP
  obtain ⟨i3, hi3, hz0, hz1, hz2⟩ := info_parts Try.info53
  have JI := Lib.hid hi3; have JZ0 := Lib.hid hz0; have JZ1 := Lib.hid hz1; have JZ2 := Lib.hid hz2
  have HNO := Lib.hid hnone
  unfold maxLen at hcm
  clear hi3 hz0 hz1 hz2 HNIL hnone
  simp only [List.length_nil] at SM HRP
  go_enter Try.func6, Try.ntmps6
  go_wp2_with fail
  refine SM.out.mono ?_
  rintro e w1 ⟨⟨bb, rfl, hb⟩, hB1⟩
  have hs1 := hB1.size
  clear hb
  cases bb with
  | false =>
    go_wp2_with fail
    refine (HAW.out _).mono ?_
    rintro e w2 ⟨rfl, hB2⟩
    go_wp2
    go_ret
    exact ⟨rfl, hB1.trans (hB2.mono hs1)⟩
  | true =>
    go_wp2_with fail
    go_loopw [5] (fun iv wr => iv = .int .i64 0 ∧ Below w1.heap.size w1 wr) (fun _ _ => 0)
    case atStart => exact ⟨rfl, Below.refl _ _⟩
    case round =>
      obtain ⟨rfl, hB⟩ := hrel
      have HBW : Hid (Below w.heap.size w wr) := hB1.trans (hB.mono hs1)
      clear hB
      generalize wr = wq at *
      go_wp2_with (go_at_call 26; refine (HRD.out _).mono ?_; rintro e wz ⟨rfl, rfl⟩)
      have HRPZ : Hid (∀ (a6 : Option Addr) (c6 : Nat) (W : World), Calls Try.prog 34 #[.int .i64 30, .slice a6 0 c6] W fun e w' => Below W.heap.size W w' ∧ ∃ g r, e = .returned (.tuple #[.pointer (some ⟨g, 0, none⟩), .int .i64 0]) ∧ MAt w' g r 30 (fun _ => zeros)) := fun a6 c6 W => (HRP.out a6 c6 W).mono fun e w' ⟨hb, hc⟩ => ⟨hb, by
        rcases hc with ⟨_, g, r, h1, _, _, h2⟩ | ⟨h1, _⟩
        · exact ⟨g, r, h1, h2⟩
        · exact absurd rfl h1⟩
      refine (HRPZ.out _ _ _).mono ?_
      rintro e w3 ⟨hB3, g1, r1, rfl, hM1⟩
      have hs3 := hB3.size
      have HM1 := Lib.hid hM1
      have HBW3 : Hid (Below w.heap.size w w3) := HBW.out.trans (hB3.mono HBW.out.size)
      clear hM1 HRP
      have b3 : (0 : Int) ≤ (c : Int) := by omega
      have howA : Hid ((w3.alloc (.cells #[] 53)).ownsRow w3.heap.size 53 7 (.slice (some ⟨w3.heap.size, 0, none⟩) 0 0) 0 []) := World.ownsRow_lit _ _ 0 (Nat.le_refl _) (by unfold maxLen; omega) rfl
      have hBWA : Below w3.heap.size w3 (w3.alloc (.cells #[] 53)) := (Below.refl _ w3).alloc (Nat.le_refl _) _
      rcases a with _ | ad
      · obtain rfl := HNO.out rfl
        go_wp2_with fail
        go_region_held3 (fun _ => True)
              (go_keep)
              (first
               | (go_at_call 34; refine (HRPZ.out _ _ _).mono ?_
                  rintro e w7 ⟨hB7, g2, r2, rfl, hM2⟩
                  have HM2 := Lib.hid hM2
                  have HB37 := Lib.hid (hBw6.trans (hB7.mono hBw6.size))
                  clear hM2 hB7)
               | (refine step_append_x (by rfl) _ _ _ (by rfl) w3.heap.size 53 i3 _ 7 88 Try.underlying42 JI.out JZ0.out JZ1.out JZ2.out rfl (by omega) (.slice (some ⟨w3.heap.size, 0, none⟩) 0 0) 0 [] (by simp [Act.eval, Act.put]) (by exact howA.out)
                    none 0 0 [] (by simp [Act.eval, Act.put]) (fun h => by first | exact ⟨rfl, rfl⟩ | cases h) rfl (fun ad had j u hu => by simp at hu) (fun u hu => by simp at hu) (by unfold maxLen; omega) (by omega) (by show w3.heap.size ≤ (w3.alloc (.cells #[] 53)).heap.size; simp) ?_
                  intro vw5 w5 hownw5 hgrw5 _
                  obtain ⟨aw5, cw5, rfl⟩ := own_form hownw5
                  have hBw5 : Below w3.heap.size w3 w5 := (hBWA.drew).grown hgrw5 (by show w3.heap.size ≤ (w3.alloc (.cells #[] 53)).heap.size; simp) (fun kk hk => by simp [Value.ownBlock] at hk; omega)
                  have HOw5 := Lib.hid hownw5
                  clear hownw5 hgrw5)
               | (refine step_append_x (by rfl) _ _ _ (by rfl) w3.heap.size 53 i3 _ 7 88 Try.underlying42 JI.out JZ0.out JZ1.out JZ2.out rfl (by omega) (.slice aw5 (0 + 0) cw5) (0 + 0) _ (by simp [Act.eval, Act.put]) (by exact HOw5.out)
                    none 0 0 [] (by simp [Act.eval, Act.put]) (fun h => by first | exact ⟨rfl, rfl⟩ | cases h) rfl (fun ad had j u hu => by simp at hu) (fun u hu => by simp at hu) (by unfold maxLen; omega) (by omega) (by have := hBw5.size; omega) ?_
                  intro vw6 w6 hownw6 hgrw6 _
                  obtain ⟨aw6, cw6, rfl⟩ := own_form hownw6
                  have hBw6 : Below w3.heap.size w3 w6 := hBw5.grown hgrw6 (by have := hBw5.size; omega) (fun kk hk => own_ge HOw5.out kk hk)
                  have HBW6 : Hid (Below w.heap.size w w6) := HBW3.out.trans (hBw6.mono HBW3.out.size)
                  clear hownw6 hgrw6))
        have HBW7 : Hid (Below w.heap.size w w7) := HBW3.out.trans (HB37.out.mono HBW3.out.size)
        have HN1 := Lib.hid (HM1.out.below HB37.out)
        have SAB := Lib.hid (same_self (fun _ => zeros) ▸ same_any w7 HN1.out HM2.out)
        clear HM1
        go_wp2_with fail
        refine SAB.out.mono ?_
        rintro e w8 ⟨rfl, hB8⟩
        have SBA := Lib.hid (same_self (fun _ => zeros) ▸ same_any w8 (HM2.out.below hB8) (HN1.out.below hB8))
        have HBW8 : Hid (Below w.heap.size w w8) := HBW7.out.trans (hB8.mono HBW7.out.size)
        clear hB8
        go_wp2_with fail
        refine SBA.out.mono ?_
        rintro e w9 ⟨rfl, hB9⟩
        have HBW9 : Hid (Below w.heap.size w w9) := HBW8.out.trans (hB9.mono HBW8.out.size)
        clear hB9
        go_wp2_with fail
        refine (HAW.out _).mono ?_
        rintro e wz ⟨rfl, hBz⟩
        go_wp2
        go_ret
        exact ⟨rfl, HBW9.out.trans (hBz.mono HBW9.out.size)⟩
      · obtain ⟨b, o, sp⟩ := ad
        by_cases hc0 : c = 0
        · subst hc0
          go_wp2_with fail
          go_region_held3 (fun _ => True)
                (go_keep)
                (first
                 | (go_at_call 34; refine (HRPZ.out _ _ _).mono ?_
                    rintro e w7 ⟨hB7, g2, r2, rfl, hM2⟩
                    have HM2 := Lib.hid hM2
                    have HB37 := Lib.hid (hBw6.trans (hB7.mono hBw6.size))
                    clear hM2 hB7)
                 | (refine step_append_x (by rfl) _ _ _ (by rfl) w3.heap.size 53 i3 _ 7 88 Try.underlying42 JI.out JZ0.out JZ1.out JZ2.out rfl (by omega) (.slice (some ⟨w3.heap.size, 0, none⟩) 0 0) 0 [] (by simp [Act.eval, Act.put]) (by exact howA.out)
                      (some ⟨b, o, sp⟩) 0 0 [] (by simp [Act.eval, Act.put]) (fun h => by first | exact ⟨rfl, rfl⟩ | cases h) rfl (fun ad had j u hu => by simp at hu) (fun u hu => by simp at hu) (by unfold maxLen; omega) (by omega) (by show w3.heap.size ≤ (w3.alloc (.cells #[] 53)).heap.size; simp) ?_
                    intro vw5 w5 hownw5 hgrw5 _
                    obtain ⟨aw5, cw5, rfl⟩ := own_form hownw5
                    have hBw5 : Below w3.heap.size w3 w5 := (hBWA.drew).grown hgrw5 (by show w3.heap.size ≤ (w3.alloc (.cells #[] 53)).heap.size; simp) (fun kk hk => by simp [Value.ownBlock] at hk; omega)
                    have HOw5 := Lib.hid hownw5
                    clear hownw5 hgrw5)
                 | (refine step_append_x (by rfl) _ _ _ (by rfl) w3.heap.size 53 i3 _ 7 88 Try.underlying42 JI.out JZ0.out JZ1.out JZ2.out rfl (by omega) (.slice aw5 (0 + 0) cw5) (0 + 0) _ (by simp [Act.eval, Act.put]) (by exact HOw5.out)
                      (some ⟨b, o, sp⟩) 0 0 [] (by simp [Act.eval, Act.put]) (fun h => by first | exact ⟨rfl, rfl⟩ | cases h) rfl (fun ad had j u hu => by simp at hu) (fun u hu => by simp at hu) (by unfold maxLen; omega) (by omega) (by have := hBw5.size; omega) ?_
                    intro vw6 w6 hownw6 hgrw6 _
                    obtain ⟨aw6, cw6, rfl⟩ := own_form hownw6
                    have hBw6 : Below w3.heap.size w3 w6 := hBw5.grown hgrw6 (by have := hBw5.size; omega) (fun kk hk => own_ge HOw5.out kk hk)
                    have HBW6 : Hid (Below w.heap.size w w6) := HBW3.out.trans (hBw6.mono HBW3.out.size)
                    clear hownw6 hgrw6))
          have HBW7 : Hid (Below w.heap.size w w7) := HBW3.out.trans (HB37.out.mono HBW3.out.size)
          have HN1 := Lib.hid (HM1.out.below HB37.out)
          have SAB := Lib.hid (same_self (fun _ => zeros) ▸ same_any w7 HN1.out HM2.out)
          clear HM1
          go_wp2_with fail
          refine SAB.out.mono ?_
          rintro e w8 ⟨rfl, hB8⟩
          have SBA := Lib.hid (same_self (fun _ => zeros) ▸ same_any w8 (HM2.out.below hB8) (HN1.out.below hB8))
          have HBW8 : Hid (Below w.heap.size w w8) := HBW7.out.trans (hB8.mono HBW7.out.size)
          clear hB8
          go_wp2_with fail
          refine SBA.out.mono ?_
          rintro e w9 ⟨rfl, hB9⟩
          have HBW9 : Hid (Below w.heap.size w w9) := HBW8.out.trans (hB9.mono HBW8.out.size)
          clear hB9
          go_wp2_with fail
          refine (HAW.out _).mono ?_
          rintro e wz ⟨rfl, hBz⟩
          go_wp2
          go_ret
          exact ⟨rfl, HBW9.out.trans (hBz.mono HBW9.out.size)⟩
        · have hadA : (if c = 0 then some (⟨b, o, sp⟩ : Addr) else some ⟨b, o, sp⟩) = some ⟨b, o, sp⟩ := by split <;> rfl
          have hc1 : (c = 0) = False := by simp [hc0]
          go_wp2_with fail
          go_region_held3 (fun _ => True)
                (go_keep)
                (first
                 | (go_at_call 34; refine (HRPZ.out _ _ _).mono ?_
                    rintro e w7 ⟨hB7, g2, r2, rfl, hM2⟩
                    have HM2 := Lib.hid hM2
                    have HB37 := Lib.hid (hBw6.trans (hB7.mono hBw6.size))
                    clear hM2 hB7)
                 | (refine step_append_x (by rfl) _ _ _ (by rfl) w3.heap.size 53 i3 _ 7 88 Try.underlying42 JI.out JZ0.out JZ1.out JZ2.out rfl (by omega) (.slice (some ⟨w3.heap.size, 0, none⟩) 0 0) 0 [] (by simp [Act.eval, Act.put]) (by exact howA.out)
                      (some ⟨b, o, sp⟩) 0 c [] (by simp [Act.eval, Act.put]) (fun h => by first | exact ⟨rfl, rfl⟩ | cases h) rfl (fun ad had j u hu => by simp at hu) (fun u hu => by simp at hu) (by unfold maxLen; omega) (by omega) (by show w3.heap.size ≤ (w3.alloc (.cells #[] 53)).heap.size; simp) ?_
                    intro vw5 w5 hownw5 hgrw5 _
                    obtain ⟨aw5, cw5, rfl⟩ := own_form hownw5
                    have hBw5 : Below w3.heap.size w3 w5 := (hBWA.drew).grown hgrw5 (by show w3.heap.size ≤ (w3.alloc (.cells #[] 53)).heap.size; simp) (fun kk hk => by simp [Value.ownBlock] at hk; omega)
                    have HOw5 := Lib.hid hownw5
                    clear hownw5 hgrw5)
                 | (refine step_append_x (by rfl) _ _ _ (by rfl) w3.heap.size 53 i3 _ 7 88 Try.underlying42 JI.out JZ0.out JZ1.out JZ2.out rfl (by omega) (.slice aw5 (0 + 0) cw5) (0 + 0) _ (by simp [Act.eval, Act.put]) (by exact HOw5.out)
                      (some ⟨b, o, sp⟩) 0 c [] (by simp [Act.eval, Act.put]) (fun h => by first | exact ⟨rfl, rfl⟩ | cases h) rfl (fun ad had j u hu => by simp at hu) (fun u hu => by simp at hu) (by unfold maxLen; omega) (by omega) (by have := hBw5.size; omega) ?_
                    intro vw6 w6 hownw6 hgrw6 _
                    obtain ⟨aw6, cw6, rfl⟩ := own_form hownw6
                    have hBw6 : Below w3.heap.size w3 w6 := hBw5.grown hgrw6 (by have := hBw5.size; omega) (fun kk hk => own_ge HOw5.out kk hk)
                    have HBW6 : Hid (Below w.heap.size w w6) := HBW3.out.trans (hBw6.mono HBW3.out.size)
                    clear hownw6 hgrw6))
          have HBW7 : Hid (Below w.heap.size w w7) := HBW3.out.trans (HB37.out.mono HBW3.out.size)
          have HN1 := Lib.hid (HM1.out.below HB37.out)
          have SAB := Lib.hid (same_self (fun _ => zeros) ▸ same_any w7 HN1.out HM2.out)
          clear HM1
          go_wp2_with fail
          refine SAB.out.mono ?_
          rintro e w8 ⟨rfl, hB8⟩
          have SBA := Lib.hid (same_self (fun _ => zeros) ▸ same_any w8 (HM2.out.below hB8) (HN1.out.below hB8))
          have HBW8 : Hid (Below w.heap.size w w8) := HBW7.out.trans (hB8.mono HBW7.out.size)
          clear hB8
          go_wp2_with fail
          refine SBA.out.mono ?_
          rintro e w9 ⟨rfl, hB9⟩
          have HBW9 : Hid (Below w.heap.size w w9) := HBW8.out.trans (hB9.mono HBW8.out.size)
          clear hB9
          go_wp2_with fail
          refine (HAW.out _).mono ?_
          rintro e wz ⟨rfl, hBz⟩
          go_wp2
          go_ret
          exact ⟨rfl, HBW9.out.trans (hBz.mono HBW9.out.size)⟩

/-- ModelOrder: law 22.6 -/
theorem order_law (a : Option Addr) (c : Nat) (l : List HistV) (k0 : Int) (w : World) (h : HistsN a c w l) (hk0 : -9223372036854775808 ≤ k0) (hk1 : k0 ≤ 9223372036854775807) :
    Calls Try.prog 6 #[.slice a l.length c, .int .i64 k0] w fun e w' => e = .returned (.bool true) ∧ Below w.heap.size w w' := by
  obtain ⟨h1, h2, h3, h4⟩ := h
  rcases Nat.eq_zero_or_pos l.length with h0 | h0
  · rw [h0]
    exact order_nil a c k0 w hk0 hk1 h4 h2
  · exact order_pos a c l k0 w hk0 hk1 h3 h4 h1 h0
end Go.Proofs.Ytdgnhimiamchmaa
