import Derived.Test.YtglkbkocdeimiaaOpen
import Derived.Test.YtglkbkocdeimiaaE6
namespace Go.Proofs.Ytglkbkocdeimiaa
open Go.RowKit
open BigFrame Lib
open Go.ChangeMaps (setBlock)

/-- what blocks from F on are, L of them, at a time -/
def rdFrom (A : Int → List AV) (F : Int) (t : Int) (L : Nat) : List Int := (List.range L).flatMap fun i : Nat => (rdAt (A (F + (i : Int))) t).2
theorem rdFrom_succ (A : Int → List AV) (F t : Int) (L : Nat) : rdFrom A F t (L + 1) = rdFrom A F t L ++ (rdAt (A (F + L)) t).2 := by
  simp [rdFrom, List.range_succ, List.flatMap_append]

set_option maxRecDepth 100000 in
theorem range_any {B g r : Nat} {n last : Int} {A : Int → List AV} (F L t : Int) (w : World) (hX : ExAt B w g r n last A) (h0 : 0 ≤ F) (h1 : 1 ≤ L) (h2 : L ≤ n) (h3 : F ≤ n - L) (h4 : n ≤ 1000) :
    Calls Try.prog 15 #[.pointer (some ⟨g, 0, none⟩), .agg #[.int .i64 F, .int .i64 L], .int .i64 t] w fun e w' => ∃ a c, e = .returned (.tuple #[.slice a (40 * L.toNat) c, .int .i64 0]) ∧ Below w.heap.size w w' ∧
      w'.ownsRow w.heap.size 5 1 (.slice a (40 * L.toNat) c) (40 * L.toNat) ((rdFrom A F t L.toNat).map u8) ∧ (rdFrom A F t L.toNat).length = 40 * L.toNat := by
  have hB0 : Below w.heap.size w (w.alloc (.cells #[.int .i64 F, .int .i64 L] 45)) := (Below.refl _ w).alloc (Nat.le_refl _) _
  have hlo := hX.pure.lo
  have W0 := within_any (some ⟨g, 0, none⟩) n F L (w.alloc (.cells #[.int .i64 F, .int .i64 L] 45)) (by omega) (by omega) (by omega) (by omega) (by omega) (by omega) (fun W hW => blocks_any W (hX.below (hB0.trans (hW.mono (by simp)))))
  rw [show inX n F L = true from decide_eq_true ⟨h0, h1, h2, h3⟩] at W0
  have HW := Lib.hid W0
  have HX := Lib.hid hX
  have GET := Lib.hid (fun W (hW : Below w.heap.size w W) k (hk : 0 ≤ k ∧ k < n) => xget_any k t W (hX.below hW) hk)
  have hbx : Hid ((w.alloc (.cells #[.int .i64 F, .int .i64 L] 45)).heap[w.heap.size]? = some (.cells #[.int .i64 F, .int .i64 L] 45 (0, 0))) := alloc_new rfl
  clear W0 hX
  obtain ⟨m, rfl⟩ : ∃ m : Nat, L = m := ⟨L.toNat, by omega⟩
  rw [Int.toNat_natCast]
  obtain ⟨i0, hi0, hz0, hz1, hz2⟩ := info_parts Try.info5
  have HI := Lib.hid hi0; have HZ0 := Lib.hid hz0; have HZ1 := Lib.hid hz1; have HZ2 := Lib.hid hz2
  clear hi0 hz0 hz1 hz2
  go_enter Try.func15, Try.ntmps15
  go_wp2_with fail
  have hsz : (w.alloc (.cells #[.int .i64 F, .int .i64 (m : Int)] 45)).heap.size = w.heap.size + 1 := by simp
  generalize w.alloc (.cells #[.int .i64 F, .int .i64 (m : Int)] 45) = w1 at *
  refine HW.out.mono ?_
  rintro e w2 ⟨rfl, hB2⟩
  have hB2' : Below w.heap.size w w2 := hB0.trans (hB2.mono hB0.size)
  have hb2 : w2.heap[w.heap.size]? = some (.cells #[.int .i64 F, .int .i64 (m : Int)] 45 (0, 0)) := (hB2.block _ (by omega)).trans hbx.out
  have c1 : w2.cell? ⟨w.heap.size, 1, none⟩ = some (.int .i64 (m : Int)) := cell_heap (c := [.int .i64 F, .int .i64 (m : Int)]) hb2 rfl
  have HB2 := Lib.hid hb2
  have hx2 := lt_heap hb2
  clear hb2 hB0 hB2
  go_wp2_with fail
  go_loopw [6, 17] (fun ov iv wr => ∃ i : Nat, i ≤ m ∧ iv = .int .i64 i ∧ Below (w.heap.size + 1) w2 wr ∧ wr.ownsRow (w.heap.size + 1) 5 1 ov (40 * i) ((rdFrom A F t i).map Go.Proofs.Ytglkbkocdeimiaa.u8)) (fun _ iv _ => m - (intOf iv).toNat)
  case atStart => exact ⟨0, Nat.zero_le _, rfl, Below.refl _ _, ⟨by simp [rdFrom], .inl ⟨rfl, rfl⟩⟩⟩
  case round =>
    obtain ⟨i, hi, rfl, hB, hown⟩ := hrel
    have HOW := Lib.hid hown
    have hbw : Below w.heap.size w wr := hB2'.trans (hB.mono (by omega))
    have hxr : wr.heap[w.heap.size]? = some (.cells #[.int .i64 F, .int .i64 (m : Int)] 45 (0, 0)) := (hB.block _ (by omega)).trans HB2.out
    have d0 : wr.cell? ⟨w.heap.size, 0, none⟩ = some (.int .i64 F) := cell_heap (c := [.int .i64 F, .int .i64 (m : Int)]) hxr rfl
    have hwr := lt_heap hxr
    obtain ⟨oa, oc, rfl⟩ := own_form hown
    clear hxr hown
    by_cases hlt : i < m
    · have G := Lib.hid (GET.out wr hbw (F + i) (by omega))
      have hF : Hid ((rdFrom A F t (i + 1)).map Go.Proofs.Ytglkbkocdeimiaa.u8 = (rdFrom A F t i).map Go.Proofs.Ytglkbkocdeimiaa.u8 ++ (rdAt (A (F + i)) t).2.map Go.Proofs.Ytglkbkocdeimiaa.u8) := by show _ = _; rw [rdFrom_succ, List.map_append]
      go_wp2_with fail
      refine G.out.mono ?_
      rintro e w3 ⟨a3, c3, rfl, hB3, hown3, hl3⟩
      have hR3 := (Rd.of_own hown3).2
      generalize (rdAt (A (F + i)) t).2 = dd at *
      generalize (rdAt (A (F + i)) t).1 = tt at *
      obtain ⟨b5, o5, e5, l5, _⟩ := hR3.head (by omega)
      subst e5
      have hnews : Hid (∀ (j : Nat) (u : Value), (dd.map Go.Proofs.Ytglkbkocdeimiaa.u8)[j]? = some u → w3.cell? ((⟨b5, o5, none⟩ : Addr).add j) = some u) := by
        intro j u hu
        rw [List.getElem?_map] at hu
        cases hl : dd[j]? with
        | none => rw [hl] at hu; cases hu
        | some x =>
          rw [hl] at hu; cases hu
          obtain ⟨b, o, he, hb, hc⟩ := hR3 j x hl
          cases he
          rw [add_none]; exact hc
      have HO3 := Lib.hid (own_below HOW.out hB3)
      have H40 := Lib.hid hl3
      have hB3' : Below (w.heap.size + 1) w2 w3 := hB.trans (hB3.mono (by omega))
      clear hown3 hl3 hR3
      go_wp2_with (at_builtin; refine wpList_append_own _ rfl _ _ 36 rfl (w.heap.size + 1) 5 i0 (.int .u8 0) 1 1 Try.underlying36 HI.out HZ0.out HZ1.out HZ2.out rfl (by decide) _ _ _ rfl HO3.out ⟨b5, o5, none⟩ 40 c3 (dd.map Go.Proofs.Ytglkbkocdeimiaa.u8) rfl ?c0 hnews.out ?c2 ?c3 ?c4 ?c5 ?_)
      case c0 => simp [H40.out]
      case c2 => intro u hu; obtain ⟨x, _, rfl⟩ := List.mem_map.1 hu; rfl
      case c3 => unfold maxLen; omega
      case c4 => omega
      case c5 => have := hB3.size; omega
      intro v' w4 hown4 hgr _
      have hB4 : Below (w.heap.size + 1) w2 w4 := hB3'.grown hgr (by have := hB3.size; omega) (fun k hk => by
        have := own_ge HO3.out k hk; omega)
      rw [← hF.out] at hown4
      have HO4 := Lib.hid hown4
      clear hown4 hgr
      go_wp2
      go_roundw
      case rel =>
        refine ⟨i + 1, by omega, by go_num, hB4, ?_⟩
        rw [show 40 * (i + 1) = 40 * i + 40 by omega]
        exact HO4.out
      case measure => simp [intOf]; omega
    · obtain rfl : i = m := by omega
      go_wp2
      go_ret2
      have hl : (rdFrom A F t i).length = 40 * i := by have := HOW.out.1; simp at this; omega
      exact ⟨oa, oc, rfl, hbw, own_base HOW.out (by omega), hl⟩
end Go.Proofs.Ytglkbkocdeimiaa
