import Derived.Deep.Strs
import Derived.ChangeArms
import Derived.Test.YtdgnhimiamchmaaHn
import Derived.Test.YtdgnhimiamchmaaO2
namespace Go.Proofs.Ytdgnhimiamchmaa
open Go.RowKit
open BigFrame Lib

set_option maxRecDepth 100000 in
/-- small of the laws of the model, at histories alone -/
theorem smallH_any (a : Option Addr) (c : Nat) (l : List HistV) (w : World) (hn : l.length ≤ 9223372036854775807) (h1 : HistsAt w a l) :
    Calls Try.prog 15 #[.slice none 0 0, .slice a l.length c] w fun e w' => (∃ b : Bool, e = .returned (.bool b) ∧ (b = true → l.length ≤ 60 ∧ ∀ x ∈ l, x.pl.length ≤ 10000)) ∧ Below w.heap.size w w' := by
  have HT := Lib.hid (txs_any none 0 [] 10000 w (by simp) (by omega) (by omega) (fun i x hi => by simp at hi))
  have HH := Lib.hid (fun W (hW : Below w.heap.size w W) => hists_any a c l 10000 W hn (by omega) (by omega) (h1.below hW))
  clear h1
  generalize hq : l.length = m at *
  have HM := Lib.hid hq; clear hq
  go_enter Try.func15, Try.ntmps15
  go_wp2_with fail
  refine HT.out.mono ?_
  rintro e w1 ⟨⟨v, rfl, hv0, hv1, hv⟩, hB⟩
  clear hv
  have hs := hB.size
  by_cases hvt : v ≤ 10000
  · go_wp2_with fail
    refine (HH.out _ hB).mono ?_
    rintro e w2 ⟨⟨u, rfl, hu0, hu1, hu⟩, hB2⟩
    have HU := Lib.hid hu; clear hu
    by_cases hut : u ≤ 10000
    · by_cases hm : m ≤ 60
      · have hm' : decide ((m : Int) ≤ 60) = true := decide_eq_true (by omega)
        go_wp2
        go_ret
        refine ⟨⟨true, rfl, fun _ => ⟨hm, fun x hx => ?_⟩⟩, hB.trans (hB2.mono hs)⟩
        have := (HU.out hut).2 x hx
        omega
      · have hm' : decide ((m : Int) ≤ 60) = false := by simp; omega
        have hm2 : 60 < m := by omega
        clear hm
        go_wp2
        go_ret
        exact ⟨⟨false, rfl, fun h => by cases h⟩, hB.trans (hB2.mono hs)⟩
    · have hut' : decide (u ≤ 10000) = false := by simpa using hut
      have hut2 : 10000 < u := by omega
      clear hut
      go_wp2
      go_ret
      exact ⟨⟨false, rfl, fun h => by cases h⟩, hB.trans (hB2.mono hs)⟩
  · have hvt' : decide (v ≤ 10000) = false := by simpa using hvt
    have hvt2 : 10000 < v := by omega
    clear hvt
    go_wp2
    go_ret
    exact ⟨⟨false, rfl, fun h => by cases h⟩, hB⟩

set_option maxRecDepth 100000 in
/-- small of the laws of the audit -/
theorem small28_any (a : Option Addr) (c : Nat) (l : List HistV) (w : World) (hn : l.length ≤ 9223372036854775807) (h1 : HistsAt w a l) :
    Calls Try.prog 23 #[.slice a l.length c] w fun e w' => (∃ b : Bool, e = .returned (.bool b) ∧ (b = true → l.length ≤ 40 ∧ ∀ x ∈ l, x.pl.length ≤ 10000)) ∧ Below w.heap.size w w' := by
  have HH := Lib.hid (hists_any a c l 10000 w hn (by omega) (by omega) h1)
  clear h1
  generalize hq : l.length = m at *
  have HM := Lib.hid hq; clear hq
  go_enter Try.func23, Try.ntmps23
  go_wp2_with fail
  refine HH.out.mono ?_
  rintro e w2 ⟨⟨u, rfl, hu0, hu1, hu⟩, hB2⟩
  have HU := Lib.hid hu; clear hu
  by_cases hut : u ≤ 10000
  · by_cases hm : m ≤ 40
    · have hm' : decide ((m : Int) ≤ 40) = true := decide_eq_true (by omega)
      go_wp2
      go_ret
      refine ⟨⟨true, rfl, fun _ => ⟨hm, fun x hx => ?_⟩⟩, hB2⟩
      have := (HU.out hut).2 x hx
      omega
    · have hm' : decide ((m : Int) ≤ 40) = false := by simp; omega
      have hm2 : 40 < m := by omega
      clear hm
      go_wp2
      go_ret
      exact ⟨⟨false, rfl, fun h => by cases h⟩, hB2⟩
  · have hut' : decide (u ≤ 10000) = false := by simpa using hut
    have hut2 : 10000 < u := by omega
    clear hut
    go_wp2
    go_ret
    exact ⟨⟨false, rfl, fun h => by cases h⟩, hB2⟩

/-! ### histories that come in -/
open Go.ChangeShapes Go.WideShapes Go.ChangeAt
section
variable {H : Type} {enc : TypeId × Value → H} {w : World} {base : Nat} {spare : Nat → Bool} {hd : Bool}

def readR (w : World) (z : ReadV) (c : Nat → Option Value) : Prop := c 0 = some (.int .i64 z.lba) ∧ c 1 = some (.slice z.a z.d.length z.c) ∧ c 2 = some (.bool z.own) ∧ ReadOk w z
theorem rd_bool {P : Program} {T : TypeId} {fuel : Nat} {cs : List Value} {x : DataW H × List MemPlace} (hT : P.underlying T = some .bool) (h : DataW.trod enc P w base spare hd fuel T cs = some x) : ∃ b : Bool, cs = [.bool b] := by
  obtain ⟨b, rfl, _⟩ := DataW.trod_bool hT h
  exact ⟨b, rfl⟩
set_option maxRecDepth 100000 in
theorem read_open {n : Nat} {cs : List Value} {y : DataW H × List MemPlace} (hy : DataW.trod enc Try.prog w base spare hd n 61 cs = some y) (hl : cs.length = 3) : ∃ z, readR w z (fun j => cs[j]?) := by
  obtain ⟨y0, y1, y2, m, _, _, e0, e1, e2⟩ := Go.Deep.trod_struct3 Try.underlying61 hy
  obtain ⟨k0, f0, g0, g1⟩ := rd_i64 Try.underlying3 e0
  obtain ⟨sa, len, cap, f1⟩ := rd_slice Try.underlying35 e1
  rw [f1] at e1
  obtain ⟨s1, s2, d, s3, s4⟩ := bytes_open e1
  obtain ⟨bb, f2⟩ := rd_bool Try.underlying4 e2
  match cs, hl with
  | [c0, c1, c2], _ =>
    have q0 : ([c0, c1, c2].drop 0).take 1 = [.int .i64 k0] := f0
    have q1 : ([c0, c1, c2].drop 1).take 1 = [.slice sa len cap] := f1
    have q2 : ([c0, c1, c2].drop 2).take 1 = [.bool bb] := f2
    simp at q0 q1 q2
    exact ⟨⟨k0, sa, cap, d, bb⟩, by simp [q0], by simp [q1, s3], by simp [q2], ⟨g0, g1⟩, by show d.length ≤ _; omega, s2, s4⟩
theorem reads_open {fuel : Nat} {a : Option Addr} {len cap : Nat} {x : DataW H × List MemPlace} (h : DataW.trod enc Try.prog w base spare hd fuel 51 [.slice a len cap] = some x) :
    len ≤ cap ∧ cap ≤ maxLen ∧ ∃ l : List ReadV, l.length = len ∧ ReadsAt w a l := by
  obtain ⟨h1, h2, l, h3, h4⟩ := rd_list (α := ReadV) (k := 3) Try.underlying51 (by kernel_rfl) (by omega) h (readR w) (fun n cs y hy hl => read_open hy hl)
  refine ⟨h1, h2, l, h3, fun i x hi => ?_⟩
  obtain ⟨b, o, e1, e2, c, ⟨c0, c1, c2, c3⟩, hcc⟩ := rows_get h4 hi
  exact ⟨b, o, e1, e2, (hcc 0 (by omega)).trans c0, (hcc 1 (by omega)).trans c1, (hcc 2 (by omega)).trans c2, c3⟩

def histR (w : World) (z : HistV) (c : Nat → Option Value) : Prop := (∀ j u, (encH z)[j]? = some u → c j = some u) ∧ HistOk w z
theorem trod_struct7 {t : TypeId} {P : Program} {f0 f1 f2 f3 f4 f5 f6 : Field} {fuel : Nat} {cs : List Value} {x : DataW H × List MemPlace} (ht : P.underlying t = some (.struct #[f0, f1, f2, f3, f4, f5, f6])) (h : DataW.trod enc P w base spare hd fuel t cs = some x) :
    ∃ y0 y1 y2 y3 y4 y5 y6 n, DataW.trod enc P w base spare hd n f0.type ((cs.drop f0.offset).take (P.cellsOf f0.type)) = some y0 ∧ DataW.trod enc P w base spare hd n f1.type ((cs.drop f1.offset).take (P.cellsOf f1.type)) = some y1 ∧
      DataW.trod enc P w base spare hd n f2.type ((cs.drop f2.offset).take (P.cellsOf f2.type)) = some y2 ∧ DataW.trod enc P w base spare hd n f3.type ((cs.drop f3.offset).take (P.cellsOf f3.type)) = some y3 ∧
      DataW.trod enc P w base spare hd n f4.type ((cs.drop f4.offset).take (P.cellsOf f4.type)) = some y4 ∧ DataW.trod enc P w base spare hd n f5.type ((cs.drop f5.offset).take (P.cellsOf f5.type)) = some y5 ∧
      DataW.trod enc P w base spare hd n f6.type ((cs.drop f6.offset).take (P.cellsOf f6.type)) = some y6 := by
  obtain ⟨xs, n, _, rfl, hl, hlen, hf⟩ := DataW.trod_struct ht h
  match xs, hlen with
  | [y0, y1, y2, y3, y4, y5, y6], _ =>
    exact ⟨y0, y1, y2, y3, y4, y5, y6, n, by simpa using hf 0 f0 rfl, by simpa using hf 1 f1 rfl, by simpa using hf 2 f2 rfl, by simpa using hf 3 f3 rfl, by simpa using hf 4 f4 rfl, by simpa using hf 5 f5 rfl, by simpa using hf 6 f6 rfl⟩
set_option maxRecDepth 100000 in
theorem hist_open {n : Nat} {cs : List Value} {y : DataW H × List MemPlace} (hy : DataW.trod enc Try.prog w base spare hd n 53 cs = some y) (hl : cs.length = 7) : ∃ z, histR w z (fun j => cs[j]?) := by
  obtain ⟨y0, y1, y2, y3, y4, y5, y6, m, e0, e1, e2, e3, e4, e5, e6⟩ := trod_struct7 Try.underlying53 hy
  obtain ⟨k0, f0, z0⟩ := rd_i64 Try.underlying3 e0
  obtain ⟨k1, f1, z1⟩ := rd_i64 Try.underlying3 e1
  obtain ⟨k2, f2, z2⟩ := rd_i64 Try.underlying3 e2
  obtain ⟨k3, f3, z3⟩ := rd_i64 Try.underlying3 e3
  obtain ⟨k4, f4, z4⟩ := rd_i64 Try.underlying3 e4
  obtain ⟨ra, rlen, rcap, f5⟩ := rd_slice Try.underlying51 e5
  rw [f5] at e5
  obtain ⟨s1, s2, rl, s3, s4⟩ := reads_open e5
  obtain ⟨pa, plen, pcap, f6⟩ := rd_slice Try.underlying23 e6
  rw [f6] at e6
  obtain ⟨t1, t2, pl, t3, t4⟩ := puts_open e6
  match cs, hl with
  | [c0, c1, c2, c3, c4, c5, c6], _ =>
    have q0 : ([c0, c1, c2, c3, c4, c5, c6].drop 0).take 1 = [.int .i64 k0] := f0
    have q1 : ([c0, c1, c2, c3, c4, c5, c6].drop 1).take 1 = [.int .i64 k1] := f1
    have q2 : ([c0, c1, c2, c3, c4, c5, c6].drop 2).take 1 = [.int .i64 k2] := f2
    have q3 : ([c0, c1, c2, c3, c4, c5, c6].drop 3).take 1 = [.int .i64 k3] := f3
    have q4 : ([c0, c1, c2, c3, c4, c5, c6].drop 4).take 1 = [.int .i64 k4] := f4
    have q5 : ([c0, c1, c2, c3, c4, c5, c6].drop 5).take 1 = [.slice ra rlen rcap] := f5
    have q6 : ([c0, c1, c2, c3, c4, c5, c6].drop 6).take 1 = [.slice pa plen pcap] := f6
    simp at q0 q1 q2 q3 q4 q5 q6
    subst q0 q1 q2 q3 q4 q5 q6 s3 t3
    exact ⟨⟨k0, k1, k2, k3, k4, ra, rcap, rl, pa, pcap, pl⟩, fun j u hj => hj, ⟨z0, z1, z2, z3, z4, Nat.le_trans s1 s2, Nat.le_trans t1 t2, s4, t4⟩⟩
theorem hists_open {fuel : Nat} {a : Option Addr} {len cap : Nat} {x : DataW H × List MemPlace} (h : DataW.trod enc Try.prog w base spare hd fuel 42 [.slice a len cap] = some x) :
    len ≤ cap ∧ cap ≤ maxLen ∧ ∃ l : List HistV, l.length = len ∧ HistsAt w a l := by
  obtain ⟨h1, h2, l, h3, h4⟩ := rd_list (α := HistV) (k := 7) Try.underlying42 (by kernel_rfl) (by omega) h (histR w) (fun n cs y hy hl => hist_open hy hl)
  refine ⟨h1, h2, l, h3, fun i x hi => ?_, fun x hx => ?_⟩
  · obtain ⟨b, o, e1, e2, c, ⟨c0, c1⟩, hcc⟩ := rows_get h4 hi
    refine ⟨b, o, e1, e2, CellsH.of_enc fun j u hj => ?_⟩
    have hj7 : j < 7 := by
      rcases Nat.lt_or_ge j 7 with h | h
      · exact h
      · rw [List.getElem?_eq_none (by rw [encH_len]; exact h)] at hj; cases hj
    exact (hcc j hj7).trans (c0 j u hj)
  · obtain ⟨i, hi⟩ := List.getElem?_of_mem hx
    obtain ⟨b, o, e1, e2, c, ⟨c0, c1⟩, hcc⟩ := rows_get h4 hi
    exact c1
end
end Go.Proofs.Ytdgnhimiamchmaa
