import Derived.Test.YtdgnhimiamchmaaRq
import Derived.Test.YtdgnhimiamchmaaHm
namespace Go.Proofs.Ytdgnhimiamchmaa
open Go.RowKit
open BigFrame Lib

set_option maxRecDepth 100000 in
set_option maxHeartbeats 4000000 in
theorem replays_law (nb : Int) (a : Option Addr) (c : Nat) (l : List HistV) (w : World) (_n0 : -9223372036854775808 ≤ nb) (_n1 : nb ≤ 9223372036854775807) (hn : l.length ≤ maxLen) (h1 : HistsAt w a l) :
    Calls Try.prog 13 #[.int .i64 nb, .slice a l.length c] w fun e w' => e = .returned (.bool true) ∧ Below w.heap.size w w' := by
  have HAW := Lib.hid awake_any
  have H1 := Lib.hid h1
  have SM := Lib.hid (smallH_any a c l w (by unfold maxLen at hn; omega) h1)
  clear h1
  generalize hq : l.length = m at *
  have HM := Lib.hid hq; clear hq
  unfold maxLen at hn
  go_enter Try.func13, Try.ntmps13
  go_wp2_with fail
  refine SM.out.mono ?_
  rintro e w1 ⟨⟨b, rfl, hb⟩, hB1⟩
  have hs1 := hB1.size
  cases b with
  | false =>
    clear hb
    go_wp2_with fail
    refine (HAW.out _).mono ?_
    rintro e w2 ⟨rfl, hB2⟩
    go_wp2
    go_ret
    exact ⟨rfl, hB1.trans (hB2.mono hs1)⟩
  | true =>
    have HB := Lib.hid (hb rfl)
    clear hb
    by_cases h2 : 2000 < nb
    · go_wp2_with fail
      refine (HAW.out _).mono ?_
      rintro e w2 ⟨rfl, hB2⟩
      go_wp2
      go_ret
      exact ⟨rfl, hB1.trans (hB2.mono hs1)⟩
    · have h2' : nb ≤ 2000 := by omega
      have t1 : decide (2000 < nb) = false := by simpa using h2
      clear h2
      by_cases h3 : nb < 1
      · have N1 := Lib.hid (replay_bad nb a m c w1 (.inl h3))
        have N2 := Lib.hid (rreplay_bad nb a m c w1 (.inl h3))
        go_wp2_with fail
        refine N1.out.mono ?_
        rintro e w' ⟨rfl, rfl⟩
        go_wp2_with fail
        refine N2.out.mono ?_
        rintro e w' ⟨rfl, rfl⟩
        go_wp2_with fail
        refine (HAW.out _).mono ?_
        rintro e w2 ⟨rfl, hB2⟩
        go_wp2
        go_ret
        exact ⟨rfl, hB1.trans (hB2.mono hs1)⟩
      · obtain ⟨n, rfl⟩ : ∃ n : Nat, nb = n := ⟨nb.toNat, by omega⟩
        have hn1 : 1 ≤ n := by omega
        have hn2 : n ≤ 2000 := by omega
        clear h3
        have hm60 : m ≤ 60 := by have := HB.out.1; exact this
        have hpl : ∀ x ∈ l, x.pl.length ≤ 1000000 := fun x hx => by have := HB.out.2 x hx; omega
        have R1 := replay_good n a c l w1 (by omega) (by omega) (by rw [HM.out]; omega) hpl (H1.out.below hB1)
        have R2 := fun (W : World) (hW : Below w1.heap.size w1 W) => rreplay_good n a c l W hn1 (by omega) (by rw [HM.out]; omega) hpl ((H1.out.below hB1).below hW)
        rw [HM.out] at R1
        simp only [HM.out] at R2
        have EQ := rreplay_eq n l
        have OUTD : Out n (replay n l).2 := runAll_out n _ _ (fun k _ => rfl)
        rw [EQ.1] at R1
        have HR1 := Lib.hid R1; have HR2 := Lib.hid R2; have HEQ := Lib.hid EQ.2; have HOUT := Lib.hid OUTD
        clear R1 R2 EQ OUTD hpl
        generalize (rreplay n l).1 = rc at *
        generalize (rreplay n l).2 = D at *
        generalize (replay n l).2 = d at *
        go_wp2_with fail
        refine HR1.out.mono ?_
        rintro e w2 ⟨hB2, hc⟩
        have hs2 := hB2.size
        rcases hc with ⟨rfl, g, r, rfl, _, _, hM2⟩ | ⟨hc, rfl⟩
        · have HM2 := Lib.hid hM2
          clear hM2
          go_wp2_with fail
          refine (HR2.out _ hB2).mono ?_
          rintro e w3 ⟨hB3, hc3⟩
          have hs3 := hB3.size
          rcases hc3 with ⟨_, gx, lb, rfl, hX3⟩ | ⟨hc3, _⟩
          · have hsame := full_same hX3.len HEQ.out (n := n)
            have AA := Lib.hid (all_at w3 (HM2.out.below hB3) HOUT.out)
            have RA := Lib.hid (fun W (hW : Below w3.heap.size w3 W) => rall_any W (hX3.below hW))
            have HSAME := Lib.hid hsame
            clear hX3 hsame
            go_wp2_with fail
            refine AA.out.mono ?_
            rintro e w4 ⟨a4, c4, p4, rfl, hB4, hP4, hl4, h40, hp4⟩
            have HP4 := Lib.hid hP4; have HL4 := Lib.hid hl4; have H40 := Lib.hid h40
            clear hP4 hl4 h40
            go_wp2_with fail
            refine (RA.out _ hB4).mono ?_
            rintro e w5 ⟨a5, c5, p5, rfl, hB5, hP5, hl5⟩
            have SP := Lib.hid (samePuts_any a4 a5 c4 c5 p4 p5 w5 (by omega) (HP4.out.below hB5) hP5 (by rw [HL4.out, hl5, HSAME.out]) H40.out)
            clear hP5 hl5
            go_wp2_with fail
            refine SP.out.mono ?_
            rintro e w6 ⟨rfl, hB6⟩
            go_wp2_with fail
            refine (HAW.out _).mono ?_
            rintro e w7 ⟨rfl, hB7⟩
            go_wp2
            go_ret
            have q1 := hB1.trans (hB2.mono hs1)
            have q2 := q1.trans (hB3.mono q1.size)
            have q3 := q2.trans (hB4.mono q2.size)
            have q4 := q3.trans (hB5.mono q3.size)
            have q5 := q4.trans (hB6.mono q4.size)
            exact ⟨rfl, q5.trans (hB7.mono q5.size)⟩
          · exact (hc3 rfl).elim
        · go_wp2_with fail
          refine (HR2.out _ hB2).mono ?_
          rintro e w3 ⟨hB3, hc3⟩
          have hs3 := hB3.size
          rcases hc3 with ⟨hc3, _⟩ | ⟨_, rfl⟩
          · exact (hc hc3).elim
          · have t2 : (rc != rc) = false := by simp
            clear hc
            go_wp2_with fail
            refine (HAW.out _).mono ?_
            rintro e w7 ⟨rfl, hB7⟩
            go_wp2
            go_ret
            have q1 := hB1.trans (hB2.mono hs1)
            have q2 := q1.trans (hB3.mono q1.size)
            exact ⟨rfl, q2.trans (hB7.mono q2.size)⟩
end Go.Proofs.Ytdgnhimiamchmaa
