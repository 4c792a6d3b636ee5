import Derived.Deep.AppendLies
import Derived.Test.YtfmjkpobphjgkaaR
import Derived.Test.YtfmjkpobphjgkaaRo
import Derived.Test.YtfmjkpobphjgkaaOpen
namespace Go.Proofs.Ytfmjkpobphjgkaa
open Go.RowKit
open BigFrame Lib

theorem own_below {w w' : World} {B : Nat} {e : TypeId} {s : Nat} {v : Value} {n : Nat} {xs : List Value} (h : w.ownsRow B e s v n xs) (hB : Below w.heap.size w w') : w'.ownsRow B e s v n xs := by
  refine ⟨h.1, ?_⟩
  rcases h.2 with h1 | ⟨g, cap, cur, h1, h2, h3, h4⟩
  · exact .inl h1
  · exact .inr ⟨g, cap, cur, h1, h2, (hB.block g (lt_heap h3)).trans h3, h4⟩
theorem own_chg {S : Nat → Prop} {w w' : World} {B : Nat} {e : TypeId} {s : Nat} {v : Value} {n : Nat} {xs : List Value} (h : w.ownsRow B e s v n xs) (hC : Chg S w w') (hS : ∀ b, v.ownBlock = some b → ¬ S b) : w'.ownsRow B e s v n xs := by
  refine ⟨h.1, ?_⟩
  rcases h.2 with h1 | ⟨g, cap, cur, h1, h2, h3, h4⟩
  · exact .inl h1
  · exact .inr ⟨g, cap, cur, h1, h2, (hC.block g (lt_heap h3) (hS g (by rw [h1]; rfl))).trans h3, h4⟩
theorem own_base {w : World} {B B' : Nat} {e : TypeId} {s : Nat} {v : Value} {n : Nat} {xs : List Value} (h : w.ownsRow B e s v n xs) (hB : B' ≤ B) : w.ownsRow B' e s v n xs := by
  refine ⟨h.1, ?_⟩
  rcases h.2 with h1 | ⟨g, cap, cur, h1, h2, h4⟩
  · exact .inl h1
  · exact .inr ⟨g, cap, cur, h1, Nat.le_trans hB h2, h4⟩
def NoRow (w : World) (e : TypeId) (k : Nat) : Prop := ∀ cur, w.heap[k]? ≠ some (.cells cur e (0, 0))
theorem own_no {w : World} {B : Nat} {e : TypeId} {s : Nat} {v : Value} {n : Nat} {xs : List Value} (h : w.ownsRow B e s v n xs) {k : Nat} (hk : NoRow w e k) : v.ownBlock ≠ some k := by
  rcases h.2 with ⟨h1, _⟩ | ⟨g, cap, cur, h1, h2, h3, h4⟩
  · rw [h1]; simp [Value.ownBlock]
  · rw [h1]; simp only [Value.ownBlock]
    rintro e; cases e
    exact hk _ h3
theorem noRow_map {w : World} {e : TypeId} {k : Nat} {m : IM} (h : MapIs w k m) : NoRow w e k := by
  obtain ⟨es, cl, hb, _⟩ := h
  intro cur hc; rw [hb] at hc; cases hc
theorem noRow_type {w : World} {e e' : TypeId} {k : Nat} {cur : Array Value} {z : Nat × Nat} (h : w.heap[k]? = some (.cells cur e' z)) (hne : e' ≠ e) : NoRow w e k := by
  intro c hc; rw [h] at hc; cases hc; exact hne rfl
theorem own_ge {w : World} {B : Nat} {e : TypeId} {s : Nat} {v : Value} {n : Nat} {xs : List Value} (h : w.ownsRow B e s v n xs) : ∀ b, v.ownBlock = some b → B ≤ b := by
  intro b hb
  rcases h.2 with ⟨h1, _⟩ | ⟨g, cap, cur, h1, h2, h3, h4⟩
  · rw [h1] at hb; cases hb
  · rw [h1] at hb; cases hb; exact h2
theorem own_lt {w : World} {B : Nat} {e : TypeId} {s : Nat} {v : Value} {n : Nat} {xs : List Value} (h : w.ownsRow B e s v n xs) : ∀ b, v.ownBlock = some b → b < w.heap.size ∧ ∃ cur, w.heap[b]? = some (.cells cur e (0, 0)) := by
  intro b hb
  rcases h.2 with ⟨h1, _⟩ | ⟨g, cap, cur, h1, h2, h3, h4⟩
  · rw [h1] at hb; cases hb
  · rw [h1] at hb; cases hb; exact ⟨lt_heap h3, cur, h3⟩

theorem own_form {w : World} {B : Nat} {e : TypeId} {size : Nat} {v : Value} {n : Nat} {xs : List Value} (h : w.ownsRow B e size v n xs) : ∃ a c, v = .slice a n c := by
  rcases h.2 with ⟨h1, h2⟩ | ⟨g, cap, cur, h1, _⟩
  · exact ⟨none, 0, by rw [h1, h2]⟩
  · exact ⟨_, _, h1⟩

theorem round_any (k n : Int) (w : World) (h0 : 0 < n) (h1 : n ≤ 1000000) (hk : -9223372036854775808 ≤ k) (hk2 : k ≤ 9223372036854775807) :
    Calls Try.prog 21 #[.int .i64 k, .int .i64 n] w fun e w' => e = .returned (.int .i64 (k % n)) ∧ w = w' := by
  by_cases hp : 0 ≤ k
  · have h2 := Int.emod_nonneg k (show n ≠ 0 by omega)
    go_enter Try.func21, Try.ntmps21
    go_wp2
    go_ret
    exact ⟨rfl, rfl⟩
  · have h2 := Int.emod_nonneg k (show n ≠ 0 by omega)
    have h3 := Int.emod_lt_of_pos k h0
    have e := Int.tmod_eq_emod (a := k) (b := n)
    by_cases hd : n ∣ k
    · rw [if_pos (Or.inr hd)] at e
      have e0 : k % n = 0 := Int.emod_eq_zero_of_dvd hd
      rw [e0] at e ⊢
      have h4 : 0 ≤ k.tmod n := by omega
      have e1 : k.tmod n = 0 := by omega
      clear e hd h2 h3 e0
      go_enter Try.func21, Try.ntmps21
      go_wp2
      go_ret
      exact ⟨by first | rfl | rw [e1], rfl⟩
    · rw [if_neg (by rintro (h | h); exact hp h; exact hd h)] at e
      have e1 : k.tmod n + n = k % n := by omega
      have h4 : k.tmod n < 0 := by omega
      have h5 : -1000000 ≤ k.tmod n := by omega
      have E1 := Lib.hid e1
      clear e hd h2 h3 e1 hp
      go_enter Try.func21, Try.ntmps21
      go_wp2
      go_ret
      exact ⟨by rw [E1.out]; rfl, rfl⟩



/-- an append in a region that draws, of any length -/
theorem step_append_own {P : Program} {w : World} {ops : Array Oper} {o : Oper} {a : Act} {K : Act → World → Prop} {Q : Exit → Act → World → Prop} {E : Prop} (hgd : o.guard = none) (s x : Operand) (t : TypeId)
    (ho : o.op = .call { callee := .builtin .append, args := #[s, x], argTypes := #[t, t] })
    (base : Nat) (e : TypeId) (i : TypeInfo) (z : Value) (size bytes : Nat) (ht : P.underlying t = some (.slice e)) (hi : P.info? e = some i) (hz : i.zero = some z)
    (hsize : i.size = size) (hby : i.bytes = bytes) (hzs : z.cells.size = size) (hsz : 0 < size)
    (v : Value) (n : Nat) (xs : List Value) (hs : a.eval s = v) (hown : w.ownsRow base e size v n xs)
    (ad : Addr) (m c : Nat) (news : List Value) (hx : a.eval x = .slice (some ad) m c) (hl : news.length = m * size) (hnews : ∀ j u, news[j]? = some u → w.cell? (ad.add j) = some u) (h1 : ∀ u ∈ news, u.oneCell' = true)
    (h63 : n + m ≤ maxLen) (hbytes : (n + m) * bytes ≤ 140737488355328) (hbase : base ≤ w.heap.size)
    (h : ∀ v' w', w'.ownsRow base e size v' (n + m) (xs ++ news) → w.grownBy w' v.ownBlock → (v' = .slice none 0 0 ↔ v = .slice none 0 0 ∧ m = 0) → K (a.put o.dst v') w') :
    if Region.wanted o (yielded ops a.tmps) = true then Oper.wp P o a w K Q else E := by
  have hw : Region.wanted o (yielded ops a.tmps) = true := by simp [Region.wanted, hgd]
  rw [if_pos hw]
  exact wp_append_own w s x t ho base e i z size bytes ht hi hz hsize hby hzs hsz v n xs hs hown ad m c news hx hl hnews h1 h63 hbytes hbase h

theorem info3P : (Try.prog.info? 3).map (fun i => (i.zero, i.size, i.bytes)) = some (some (.int .i64 0), 1, 8) := by kernel_rfl

/-- a step: its kind and its number -/
structure IStep where
  kind : Int
  n : Int
instance : Inhabited IStep := ⟨⟨0, 0⟩⟩
def i64ok (x : Int) : Prop := -9223372036854775808 ≤ x ∧ x ≤ 9223372036854775807
def IStepsAt (w : World) (a : Option Addr) (l : List IStep) : Prop :=
  ∀ (i : Nat) (x : IStep), l[i]? = some x → ∃ b o, a = some ⟨b, o, none⟩ ∧ b < w.heap.size ∧ w.cell? ⟨b, o + i * 2, none⟩ = some (.int .i64 x.kind) ∧ w.cell? ⟨b, o + i * 2 + 1, none⟩ = some (.int .i64 x.n) ∧ i64ok x.kind ∧ i64ok x.n
theorem IStepsAt.below {w w' : World} {a : Option Addr} {l : List IStep} (h : IStepsAt w a l) (hB : Below w.heap.size w w') : IStepsAt w' a l := fun i x hi => by
  obtain ⟨b, o, h1, h2, h3, h4, h5, h6⟩ := h i x hi
  have hc : ∀ j, w'.cell? ⟨b, j, none⟩ = w.cell? ⟨b, j, none⟩ := fun j => hB.cell (p := ⟨b, j, none⟩) h2
  exact ⟨b, o, h1, Nat.lt_of_lt_of_le h2 hB.size, (hc _).trans h3, (hc _).trans h4, h5, h6⟩

open Go.ChangeShapes Go.WideShapes Go.ChangeAt in
theorem isteps_open {H : Type} {enc : TypeId × Value → H} {w : World} {base fuel : Nat} {spare : Nat → Bool} {hd : Bool} {a : Option Addr} {len cap : Nat} {x : DataW H × List MemPlace}
    (h : DataW.trod enc Try.prog w base spare hd fuel 22 [.slice a len cap] = some x) : len ≤ cap ∧ cap ≤ maxLen ∧ ∃ l : List IStep, l.length = len ∧ IStepsAt w a l := by
  obtain ⟨h1, h2, l, h3, h4⟩ := rd_list (α := IStep) (k := 2) Try.underlying22 (by kernel_rfl) (by omega) h
    (fun z c => c 0 = some (.int .i64 z.kind) ∧ c 1 = some (.int .i64 z.n) ∧ i64ok z.kind ∧ i64ok z.n) (fun n cs y hy hl => by
      obtain ⟨y0, y1, m, _, _, e0, e1⟩ := trod_struct2 Try.underlying31 hy
      obtain ⟨k0, f0, g0, g1⟩ := rd_i64 Try.underlying3 e0
      obtain ⟨k1, f1, g2, g3⟩ := rd_i64 Try.underlying3 e1
      match cs, hl with
      | [c0, c1], _ =>
        have q0 : ([c0, c1].drop 0).take 1 = [.int .i64 k0] := f0
        have q1 : ([c0, c1].drop 1).take 1 = [.int .i64 k1] := f1
        simp at q0 q1
        exact ⟨⟨k0, k1⟩, by simp [q0], by simp [q1], ⟨g0, g1⟩, g2, g3⟩)
  refine ⟨h1, h2, l, h3, fun i x hi => ?_⟩
  obtain ⟨hlt, hx⟩ := List.getElem?_eq_some_iff.1 hi
  have hget : l.getD i default = x := by rw [List.getD_eq_getElem?_getD, hi]; rfl
  obtain ⟨b, o, e1, e2, c, ⟨c0, c1, c2, c3⟩, hc⟩ := h4 i hlt
  rw [hget] at c0 c1 c2 c3
  exact ⟨b, o, e1, e2, by have := hc 0 (by omega); rw [c0] at this; simpa using this, by have := hc 1 (by omega); rw [c1] at this; simpa using this, c2, c3⟩

/-! the plain law of a book's list -/
def ts (D : BD) : List Int := D.map (·.2)
theorem hs_len (D : BD) : (hs D).length = D.length := by simp [hs]
theorem tm_at {D : BD} (hn : (hs D).Nodup) (i : Nat) (p : Int × Int) (hi : D[i]? = some p) : tm D p.1 = some p.2 := by
  unfold tm
  induction D generalizing i with
  | nil => simp at hi
  | cons q D ih =>
    simp only [hs, List.map_cons, List.nodup_cons] at hn
    cases i with
    | zero => simp at hi; subst hi; simp
    | succ i =>
      have hm : p ∈ D := List.mem_of_getElem? (by simpa using hi)
      have e : (q.1 == p.1) = false := by
        simp; intro e; exact hn.1 (e ▸ List.mem_map.2 ⟨p, hm, rfl⟩)
      rw [List.find?_cons, e]
      exact ih hn.2 i (by simpa using hi)
theorem cl_at {D : BD} (hn : (hs D).Nodup) (i : Nat) (p : Int × Int) (hi : D[i]? = some p) : cl D p.1 = D.take i ++ D.drop (i + 1) := by
  unfold cl
  induction D generalizing i with
  | nil => simp at hi
  | cons q D ih =>
    simp only [hs, List.map_cons, List.nodup_cons] at hn
    cases i with
    | zero =>
      simp at hi; subst hi
      have : D.filter (fun p => p.1 != q.1) = D := by
        rw [List.filter_eq_self]
        intro r hr
        have : r.1 ≠ q.1 := fun e => hn.1 (e ▸ List.mem_map.2 ⟨r, hr, rfl⟩)
        simpa using this
      simp [this]
    | succ i =>
      have hm : p ∈ D := List.mem_of_getElem? (by simpa using hi)
      have e : (q.1 != p.1) = true := by
        have : q.1 ≠ p.1 := fun e => hn.1 (e ▸ List.mem_map.2 ⟨p, hm, rfl⟩)
        simpa using this
      rw [List.filter_cons, e]
      simp only [if_true, List.take_succ_cons, List.drop_succ_cons, List.cons_append]
      rw [ih hn.2 i (by simpa using hi)]
end Go.Proofs.Ytfmjkpobphjgkaa
