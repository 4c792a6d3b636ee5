import Derived.Test.YtdgnhimiamchmaaS
import Derived.Test.YtdgnhimiamchmaaOpen
namespace Go.Proofs.Ytdgnhimiamchmaa
open Go.ChangeShapes Go.WideShapes Go.ChangeAt Go.RowKit

section
variable {H : Type} {enc : TypeId × Value → H} {w : World} {base : Nat} {spare : Nat → Bool} {hd : Bool}

theorem rows_get {α : Type} [Inhabited α] {w : World} {k : Nat} {R : α → (Nat → Option Value) → Prop} {a : Option Addr} {l : List α} (h : RowsAt w k R a l) {i : Nat} {x : α} (hi : l[i]? = some x) :
    ∃ b o, a = some ⟨b, o, none⟩ ∧ b < w.heap.size ∧ ∃ c, R x c ∧ ∀ j, j < k → w.cell? ⟨b, o + i * k + j, none⟩ = c j := by
  obtain ⟨hlt, hx⟩ := List.getElem?_eq_some_iff.1 hi
  obtain ⟨b, o, h1, h2, c, h3, h4⟩ := h i hlt
  refine ⟨b, o, h1, h2, c, ?_, h4⟩
  have : l.getD i default = x := by rw [List.getD_eq_getElem?_getD, hi]; rfl
  rwa [this] at h3

theorem rd_slice {P : Program} {T E : TypeId} {fuel : Nat} {cs : List Value} {x : DataW H × List MemPlace} (hT : P.underlying T = some (.slice E)) (h : DataW.trod enc P w base spare hd fuel T cs = some x) : ∃ a len cap, cs = [.slice a len cap] := by
  rcases Go.Deep.open_slice hT h with ⟨hcs, _⟩ | ⟨ad, len', cap', m, n, D, Pl, hcs, _⟩
  · exact ⟨none, 0, 0, hcs⟩
  · exact ⟨_, _, _, hcs⟩

theorem rd_u8 {P : Program} {T : TypeId} {fuel : Nat} {cs : List Value} {x : DataW H × List MemPlace} (hT : P.underlying T = some (.int .u8)) (h : DataW.trod enc P w base spare hd fuel T cs = some x) :
    ∃ n : Int, cs = [.int .u8 n] := by
  obtain ⟨n, rfl, _, hw⟩ := DataW.trod_int hT h
  exact ⟨n, rfl⟩

theorem bytes_open {fuel : Nat} {a : Option Addr} {len cap : Nat} {x : DataW H × List MemPlace} (h : DataW.trod enc Try.prog w base spare hd fuel 35 [.slice a len cap] = some x) :
    len ≤ cap ∧ cap ≤ maxLen ∧ ∃ l : List Int, l.length = len ∧ Rd u8 w a l := by
  obtain ⟨h1, h2, l, h3, h4⟩ := rd_list (α := Int) (k := 1) Try.underlying35 (by kernel_rfl) (by omega) h (fun z c => c 0 = some (.int .u8 z)) (fun n cs y hy hl => by
    obtain ⟨n, rfl⟩ := rd_u8 Try.underlying5 hy
    exact ⟨n, rfl⟩)
  refine ⟨h1, h2, l, h3, fun i x hi => ?_⟩
  obtain ⟨b, o, e1, e2, c, hc, hcc⟩ := rows_get h4 hi
  have := hcc 0 (by omega)
  rw [Nat.mul_one, Nat.add_zero] at this
  exact ⟨b, o, e1, e2, this.trans hc⟩

def putR (w : World) (z : PutV) (c : Nat → Option Value) : Prop := c 0 = some (.int .i64 z.lba) ∧ c 1 = some (.slice z.a z.d.length z.c) ∧ PutOk w z
set_option maxRecDepth 100000 in
theorem put_open {n : Nat} {cs : List Value} {y : DataW H × List MemPlace} (hy : DataW.trod enc Try.prog w base spare hd n 39 cs = some y) (hl : cs.length = 2) : ∃ z, putR w z (fun j => cs[j]?) := by
  obtain ⟨y0, y1, m, _, _, e0, e1⟩ := trod_struct2 Try.underlying39 hy
  obtain ⟨k0, f0, g0, g1⟩ := rd_i64 Try.underlying3 e0
  obtain ⟨sa, len, cap, f1⟩ := rd_slice Try.underlying35 e1
  rw [f1] at e1
  obtain ⟨s1, s2, d, s3, s4⟩ := bytes_open e1
  match cs, hl with
  | [c0, c1], _ =>
    have q0 : ([c0, c1].drop 0).take 1 = [.int .i64 k0] := f0
    have q1 : ([c0, c1].drop 1).take 1 = [.slice sa len cap] := f1
    simp at q0 q1
    exact ⟨⟨k0, sa, cap, d⟩, by simp [q0], by simp [q1, s3], g0, g1, by show d.length ≤ _; omega, s2, s4⟩
theorem puts_open {fuel : Nat} {a : Option Addr} {len cap : Nat} {x : DataW H × List MemPlace} (h : DataW.trod enc Try.prog w base spare hd fuel 23 [.slice a len cap] = some x) :
    len ≤ cap ∧ cap ≤ maxLen ∧ ∃ l : List PutV, l.length = len ∧ PutsAt w a l := by
  obtain ⟨h1, h2, l, h3, h4⟩ := rd_list (α := PutV) (k := 2) Try.underlying23 (by kernel_rfl) (by omega) h (putR w) (fun n cs y hy hl => put_open hy hl)
  refine ⟨h1, h2, l, h3, fun i x hi => ?_⟩
  obtain ⟨b, o, e1, e2, c, ⟨c0, c1, c2⟩, hcc⟩ := rows_get h4 hi
  exact ⟨b, o, e1, e2, (hcc 0 (by omega)).trans c0, (hcc 1 (by omega)).trans c1, c2⟩

def txR (w : World) (z : TxV) (c : Nat → Option Value) : Prop := c 0 = some (.int .i64 z.time) ∧ c 1 = some (.slice z.a z.l.length z.c) ∧ TxOk w z
set_option maxRecDepth 100000 in
theorem tx_open {n : Nat} {cs : List Value} {y : DataW H × List MemPlace} (hy : DataW.trod enc Try.prog w base spare hd n 25 cs = some y) (hl : cs.length = 2) : ∃ z, txR w z (fun j => cs[j]?) := by
  obtain ⟨y0, y1, m, _, _, e0, e1⟩ := trod_struct2 Try.underlying25 hy
  obtain ⟨k0, f0, g0, g1⟩ := rd_i64 Try.underlying3 e0
  obtain ⟨sa, len, cap, f1⟩ := rd_slice Try.underlying23 e1
  rw [f1] at e1
  obtain ⟨s1, s2, d, s3, s4⟩ := puts_open e1
  match cs, hl with
  | [c0, c1], _ =>
    have q0 : ([c0, c1].drop 0).take 1 = [.int .i64 k0] := f0
    have q1 : ([c0, c1].drop 1).take 1 = [.slice sa len cap] := f1
    simp at q0 q1
    exact ⟨⟨k0, sa, cap, d⟩, by simp [q0], by simp [q1, s3], by show d.length ≤ _; omega, s4⟩
theorem txs_open {fuel : Nat} {a : Option Addr} {len cap : Nat} {x : DataW H × List MemPlace} (h : DataW.trod enc Try.prog w base spare hd fuel 22 [.slice a len cap] = some x) :
    len ≤ cap ∧ cap ≤ maxLen ∧ ∃ l : List TxV, l.length = len ∧ TxsAt w a l := by
  obtain ⟨h1, h2, l, h3, h4⟩ := rd_list (α := TxV) (k := 2) Try.underlying22 (by kernel_rfl) (by omega) h (txR w) (fun n cs y hy hl => tx_open hy hl)
  refine ⟨h1, h2, l, h3, fun i x hi => ?_⟩
  obtain ⟨b, o, e1, e2, c, ⟨c0, c1, c2⟩, hcc⟩ := rows_get h4 hi
  exact ⟨b, o, e1, e2, (hcc 0 (by omega)).trans c0, (hcc 1 (by omega)).trans c1, c2⟩
set_option maxRecDepth 100000 in
theorem txv_open {r : Reach} {b0 : Nat} {v : Value} {d : DataW H} {p : List MemPlace} (hv : Value.okWide Try.prog w r b0 25 v) (h : DataW.Trod enc Try.prog w base spare hd 25 v d p) :
    ∃ t : TxV, v = .agg #[.int .i64 t.time, .slice t.a t.l.length t.c] ∧ TxOk w t := by
  obtain ⟨cs, rfl, hsz⟩ := okWide_struct Try.underlying25 hv
  obtain ⟨fuel, hf⟩ := h
  have hc : Try.prog.cellsOf 25 = 2 := by kernel_rfl
  rw [hc] at hsz
  obtain ⟨l⟩ := cs
  match l, hsz with
  | [c0, c1], _ =>
    rw [show (Value.agg #[c0, c1]).cells.toList = [c0, c1] from rfl] at hf
    obtain ⟨z, z0, z1, z2⟩ := tx_open hf rfl
    simp at z0 z1
    exact ⟨z, by rw [z0, z1], z2⟩
end
end Go.Proofs.Ytdgnhimiamchmaa
