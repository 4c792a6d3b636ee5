import Derived.Test.YtglkbkocdeimiaaSm
import Derived.Deep.Strs
import Derived.Test.YtglkbkocdeimiaaOpen
namespace Go.Proofs.Ytglkbkocdeimiaa
open Go.ChangeShapes Go.WideShapes Go.ChangeAt Go.RowKit

section
variable {H : Type} {enc : TypeId × Value → H} {w : World} {base : Nat} {spare : Nat → Bool} {hd : Bool}

theorem rows_get {α : Type} [Inhabited α] {w : World} {k : Nat} {R : α → (Nat → Option Value) → Prop} {a : Option Addr} {l : List α} (h : RowsAt w k R a l) {i : Nat} {x : α} (hi : l[i]? = some x) :
    ∃ b o, a = some ⟨b, o, none⟩ ∧ b < w.heap.size ∧ ∃ c, R x c ∧ ∀ j, j < k → w.cell? ⟨b, o + i * k + j, none⟩ = c j := by
  obtain ⟨hlt, hx⟩ := List.getElem?_eq_some_iff.1 hi
  obtain ⟨b, o, h1, h2, c, h3, h4⟩ := h i hlt
  refine ⟨b, o, h1, h2, c, ?_, h4⟩
  have : l.getD i default = x := by rw [List.getD_eq_getElem?_getD, hi]; rfl
  rwa [this] at h3

theorem rd_slice {P : Program} {T E : TypeId} {fuel : Nat} {cs : List Value} {x : DataW H × List MemPlace} (hT : P.underlying T = some (.slice E)) (h : DataW.trod enc P w base spare hd fuel T cs = some x) : ∃ a len cap, cs = [.slice a len cap] := by
  rcases Go.Deep.open_slice hT h with ⟨hcs, _⟩ | ⟨ad, len', cap', m, n, D, Pl, hcs, _⟩
  · exact ⟨none, 0, 0, hcs⟩
  · exact ⟨_, _, _, hcs⟩

theorem rd_u8 {P : Program} {T : TypeId} {fuel : Nat} {cs : List Value} {x : DataW H × List MemPlace} (hT : P.underlying T = some (.int .u8)) (h : DataW.trod enc P w base spare hd fuel T cs = some x) :
    ∃ n : Int, cs = [.int .u8 n] := by
  obtain ⟨n, rfl, _, hw⟩ := DataW.trod_int hT h
  exact ⟨n, rfl⟩

theorem bytes_open {fuel : Nat} {a : Option Addr} {len cap : Nat} {x : DataW H × List MemPlace} (h : DataW.trod enc Try.prog w base spare hd fuel 36 [.slice a len cap] = some x) :
    len ≤ cap ∧ cap ≤ maxLen ∧ ∃ l : List Int, l.length = len ∧ Rd u8 w a l := by
  obtain ⟨h1, h2, l, h3, h4⟩ := rd_list (α := Int) (k := 1) Try.underlying36 (by kernel_rfl) (by omega) h (fun z c => c 0 = some (.int .u8 z)) (fun n cs y hy hl => by
    obtain ⟨n, rfl⟩ := rd_u8 Try.underlying5 hy
    exact ⟨n, rfl⟩)
  refine ⟨h1, h2, l, h3, fun i x hi => ?_⟩
  obtain ⟨b, o, e1, e2, c, hc, hcc⟩ := rows_get h4 hi
  have := hcc 0 (by omega)
  rw [Nat.mul_one, Nat.add_zero] at this
  exact ⟨b, o, e1, e2, this.trans hc⟩

def putR (w : World) (z : PutV) (c : Nat → Option Value) : Prop := c 0 = some (.int .i64 z.lba) ∧ c 1 = some (.slice z.a z.d.length z.c) ∧ PutOk w z
set_option maxRecDepth 100000 in
theorem put_open {n : Nat} {cs : List Value} {y : DataW H × List MemPlace} (hy : DataW.trod enc Try.prog w base spare hd n 38 cs = some y) (hl : cs.length = 2) : ∃ z, putR w z (fun j => cs[j]?) := by
  obtain ⟨y0, y1, m, _, _, e0, e1⟩ := trod_struct2 Try.underlying38 hy
  obtain ⟨k0, f0, g0, g1⟩ := rd_i64 Try.underlying3 e0
  obtain ⟨sa, len, cap, f1⟩ := rd_slice Try.underlying36 e1
  rw [f1] at e1
  obtain ⟨s1, s2, d, s3, s4⟩ := bytes_open e1
  match cs, hl with
  | [c0, c1], _ =>
    have q0 : ([c0, c1].drop 0).take 1 = [.int .i64 k0] := f0
    have q1 : ([c0, c1].drop 1).take 1 = [.slice sa len cap] := f1
    simp at q0 q1
    exact ⟨⟨k0, sa, cap, d⟩, by simp [q0], by simp [q1, s3], g0, g1, by show d.length ≤ _; omega, s2, s4⟩
theorem puts_open {fuel : Nat} {a : Option Addr} {len cap : Nat} {x : DataW H × List MemPlace} (h : DataW.trod enc Try.prog w base spare hd fuel 30 [.slice a len cap] = some x) :
    len ≤ cap ∧ cap ≤ maxLen ∧ ∃ l : List PutV, l.length = len ∧ PutsAt w a l := by
  obtain ⟨h1, h2, l, h3, h4⟩ := rd_list (α := PutV) (k := 2) Try.underlying30 (by kernel_rfl) (by omega) h (putR w) (fun n cs y hy hl => put_open hy hl)
  refine ⟨h1, h2, l, h3, fun i x hi => ?_⟩
  obtain ⟨b, o, e1, e2, c, ⟨c0, c1, c2⟩, hcc⟩ := rows_get h4 hi
  exact ⟨b, o, e1, e2, (hcc 0 (by omega)).trans c0, (hcc 1 (by omega)).trans c1, c2⟩

def stR (w : World) (z : StV) (c : Nat → Option Value) : Prop := c 0 = some (.int .i64 z.kind) ∧ c 1 = some (.int .i64 z.time) ∧ c 2 = some (.slice z.a z.l.length z.c) ∧ c 3 = some (.int .i64 z.n) ∧ StOk w z
set_option maxRecDepth 100000 in
theorem st_open {n : Nat} {cs : List Value} {y : DataW H × List MemPlace} (hy : DataW.trod enc Try.prog w base spare hd n 34 cs = some y) (hl : cs.length = 4) : ∃ z, stR w z (fun j => cs[j]?) := by
  obtain ⟨y0, y1, y2, m, _, _, e0, e1, e2⟩ := Go.Deep.trod_struct3 Try.underlying34 hy
  obtain ⟨k0, f0, g0, g1⟩ := rd_i64 Try.underlying3 e0
  obtain ⟨k3, f3, g2, g3⟩ := rd_i64 Try.underlying3 e2
  match cs, hl with
  | [c0, c1, c2, c3], _ =>
    have e1' : DataW.trod enc Try.prog w base spare hd m 32 [c1, c2] = some y1 := e1
    obtain ⟨z0, z1, m2, _, _, d0, d1⟩ := trod_struct2 Try.underlying32 e1'
    obtain ⟨k1, f1, h0, h1⟩ := rd_i64 Try.underlying3 d0
    obtain ⟨sa, len, cap, f2⟩ := rd_slice Try.underlying30 d1
    rw [f2] at d1
    obtain ⟨s1, s2, d, s3, s4⟩ := puts_open d1
    have q0 : ([c0, c1, c2, c3].drop 0).take 1 = [.int .i64 k0] := f0
    have q3 : ([c0, c1, c2, c3].drop 3).take 1 = [.int .i64 k3] := f3
    have q1 : ([c1, c2].drop 0).take 1 = [.int .i64 k1] := f1
    have q2 : ([c1, c2].drop 1).take 1 = [.slice sa len cap] := f2
    simp at q0 q1 q2 q3
    exact ⟨⟨k0, k1, sa, cap, d, k3⟩, by simp [q0], by simp [q1], by simp [q2, s3], by simp [q3], ⟨g0, g1⟩, ⟨h0, h1⟩, by show d.length ≤ _; omega, s4, ⟨g2, g3⟩⟩
theorem steps_open {fuel : Nat} {a : Option Addr} {len cap : Nat} {x : DataW H × List MemPlace} (h : DataW.trod enc Try.prog w base spare hd fuel 22 [.slice a len cap] = some x) :
    len ≤ cap ∧ cap ≤ maxLen ∧ ∃ l : List StV, l.length = len ∧ StepsAt w a l := by
  obtain ⟨h1, h2, l, h3, h4⟩ := rd_list (α := StV) (k := 4) Try.underlying22 (by kernel_rfl) (by omega) h (stR w) (fun n cs y hy hl => st_open hy hl)
  refine ⟨h1, h2, l, h3, fun i x hi => ?_⟩
  obtain ⟨b, o, e1, e2, c, ⟨c0, c1, c2, c3, c4⟩, hcc⟩ := rows_get h4 hi
  exact ⟨b, o, e1, e2, (hcc 0 (by omega)).trans c0, (hcc 1 (by omega)).trans c1, (hcc 2 (by omega)).trans c2, (hcc 3 (by omega)).trans c3, c4⟩
end
end Go.Proofs.Ytglkbkocdeimiaa
