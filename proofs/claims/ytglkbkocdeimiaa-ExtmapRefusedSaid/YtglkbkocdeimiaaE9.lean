import Derived.Test.YtglkbkocdeimiaaE8
import Derived.Test.YtglkbkocdeimiaaMap2
namespace Go.Proofs.Ytglkbkocdeimiaa
open Go.RowKit
open BigFrame Lib
open Go.ChangeMaps (setBlock)

def ints (n : Nat) : List Int := (List.range n).map fun i : Nat => (i : Int)
def sumN (f : Int → Nat) (n : Nat) : Nat := ((ints n).map f).sum
theorem ints_mem (n : Nat) (k : Int) : k ∈ ints n ↔ 0 ≤ k ∧ k < n := by
  simp only [ints, List.mem_map, List.mem_range]
  constructor
  · rintro ⟨i, h, rfl⟩; omega
  · rintro ⟨h1, h2⟩; exact ⟨k.toNat, by omega, by omega⟩
theorem ints_nodup (n : Nat) : (ints n).Nodup := by
  unfold ints
  rw [List.nodup_iff_pairwise_ne, List.pairwise_map]
  exact (List.nodup_iff_pairwise_ne.1 (List.nodup_range)).imp (fun h e => h (by omega))
theorem sum_zero : ∀ (l : List Nat), (∀ x ∈ l, x = 0) → l.sum = 0
  | [], _ => rfl
  | x :: l, h => by rw [List.sum_cons, h x (by simp), sum_zero l (fun y hy => h y (by simp [hy]))]
theorem sum_keys (f : Int → Nat) (n : Nat) (ks : List Int) (hn : ks.Nodup) (h1 : ∀ k ∈ ks, 0 ≤ k ∧ k < n) (h2 : ∀ k : Int, 0 ≤ k → k < n → k ∉ ks → f k = 0) : (ks.map f).sum = sumN f n := by
  have hp : (ints n).Perm (ks ++ (ints n).filter fun k => decide (k ∉ ks)) := by
    rw [List.perm_ext_iff_of_nodup (ints_nodup n)]
    · intro k
      simp only [List.mem_append, List.mem_filter, decide_eq_true_eq]
      constructor
      · intro h
        by_cases hk : k ∈ ks
        · exact .inl hk
        · exact .inr ⟨h, hk⟩
      · rintro (h | h)
        · exact (ints_mem n k).2 (h1 k h)
        · exact h.1
    · rw [List.nodup_append]
      refine ⟨hn, (ints_nodup n).filter _, fun a ha b hb e => ?_⟩
      subst e
      have := (List.mem_filter.1 hb).2
      simp at this
      exact this ha
  unfold sumN
  rw [(hp.map f).sum_nat, List.map_append, List.sum_append_nat]
  have : (((ints n).filter fun k => decide (k ∉ ks)).map f).sum = 0 := by
    apply sum_zero
    intro x hx
    obtain ⟨k, hk, rfl⟩ := List.mem_map.1 hx
    obtain ⟨h3, h4⟩ := List.mem_filter.1 hk
    have := (ints_mem n k).1 h3
    exact h2 k this.1 this.2 (by simpa using h4)
  rw [this]; omega
theorem sumN_le (f g : Int → Nat) (n : Nat) (h : ∀ k : Int, 0 ≤ k → k < n → f k ≤ g k) : sumN f n ≤ sumN g n := by
  induction n with
  | zero => simp [sumN, ints]
  | succ n ih =>
    have e : ∀ f : Int → Nat, sumN f (n + 1) = sumN f n + f n := by intro f; simp [sumN, ints, List.range_succ, List.sum_append_nat]
    rw [e, e]
    have := ih (fun k h0 h1 => h k h0 (by omega))
    have := h n (by omega) (by omega)
    omega
theorem sumN_add (f g : Int → Nat) (n : Nat) : sumN (fun k => f k + g k) n = sumN f n + sumN g n := by
  induction n with
  | zero => simp [sumN, ints]
  | succ n ih =>
    have e : ∀ f : Int → Nat, sumN f (n + 1) = sumN f n + f n := by intro f; simp [sumN, ints, List.range_succ, List.sum_append_nat]
    rw [e, e, e, ih]; omega
theorem sumN_congr (f g : Int → Nat) (n : Nat) (h : ∀ k : Int, 0 ≤ k → k < n → f k = g k) : sumN f n = sumN g n :=
  Nat.le_antisymm (sumN_le f g n (fun k a b => Nat.le_of_eq (h k a b))) (sumN_le g f n (fun k a b => Nat.le_of_eq (h k a b).symm))
theorem sumN_const (c n : Nat) : sumN (fun _ => c) n = n * c := by
  induction n with
  | zero => simp [sumN, ints]
  | succ n ih =>
    have e : ∀ f : Int → Nat, sumN f (n + 1) = sumN f n + f n := by intro f; simp [sumN, ints, List.range_succ, List.sum_append_nat]
    rw [e, ih, Nat.succ_mul]

/-- an entry for each block that was written, and no other -/
theorem ExMap.sum {B r : Nat} {w : World} {m : IM} {E : Int → List Ver} {n : Nat} (h : ExMap B w r m E) (ho : ∀ k : Int, ¬ (0 ≤ k ∧ k < n) → E k = []) (f : Int → Nat) (hf : ∀ k, E k = [] → f k = 0) : ((m.map (·.1)).map f).sum = sumN f n := by
  refine sum_keys f n _ h.map.nodup (fun k hk => ?_) (fun k _ _ hk => hf k ?_)
  · obtain ⟨p, hp, rfl⟩ := List.mem_map.1 hk
    obtain ⟨_, _, _, _, hl, _⟩ := h.entry hp
    apply Classical.byContradiction
    intro hx
    rw [ho _ hx] at hl; simp at hl
  · apply Classical.byContradiction
    intro hx
    obtain ⟨p, hp, he⟩ := h.key_mem hx
    exact hk (List.mem_map.2 ⟨p, hp, he⟩)

def vers (A : Int → List AV) (n : Nat) : Nat := sumN (fun k => (A k).length) n
def used (A : Int → List AV) (n : Nat) : Nat := sumN (fun k => if A k = [] then 0 else 1) n

set_option maxRecDepth 100000 in
theorem used_any {B g r n : Nat} {last : Int} {A : Int → List AV} (w : World) (hX : ExAt B w g r n last A) :
    Calls Try.prog 19 #[.pointer (some ⟨g, 0, none⟩)] w fun e w' => e = .returned (.int .i64 (used A n)) ∧ w = w' := by
  have c1 := hX.c1
  have GO := Lib.hid (gone_any w hX)
  obtain ⟨m, E, hE, hA⟩ := hX.ex
  have hs := hE.sum (n := n) (fun k hk => by have := hX.pure.out k hk; rw [hA k] at this; simpa [absV] using this) (fun k => if A k = [] then 0 else 1) (fun k hk => by rw [hA k, hk]; rfl)
  have hone : ((m.map (·.1)).map fun k => if A k = [] then 0 else 1).sum = m.length := by
    have : ((m.map (·.1)).map fun k => if A k = [] then 0 else 1) = List.replicate m.length 1 := by
      rw [List.map_map, List.eq_replicate_iff]
      refine ⟨by simp, fun b hb => ?_⟩
      obtain ⟨p, hp, rfl⟩ := List.mem_map.1 hb
      obtain ⟨_, _, _, _, hl, _⟩ := hE.entry hp
      show (if A p.1 = [] then 0 else 1) = 1
      rw [if_neg (by rw [hA]; intro e; have := congrArg List.length e; simp [absV] at this; rw [this] at hl; simp at hl)]
    rw [this, List.sum_replicate_nat]; omega
  rw [hone] at hs
  have HS : Hid (m.length = used A n) := hs
  have HM := Lib.hid hE.map
  obtain ⟨es, cl, hb, hl⟩ := map_len hE.map
  have RL : (Builtin.len_ #[60] 3 #[.map (some r)]).run Try.prog w = .ok (.int .i64 m.length) w := by
    simp [Builtin.len_, run_underlying Try.underlying60, getObj, Sem.run, hb, hl, goInt, Result.andThen]
  clear hX hE hA hs hone hb hl
  go_enter Try.func19, Try.ntmps19
  go_wp2_with fail
  refine GO.out.mono ?_
  rintro e w' ⟨rfl, rfl⟩
  go_wp2_with fail
  try rw [RL]
  go_wp2
  go_ret
  exact ⟨by rw [HS.out]; rfl, rfl⟩

set_option maxRecDepth 100000 in
set_option maxHeartbeats 1000000 in
theorem versions_any {B g r n : Nat} {last : Int} {A : Int → List AV} (w : World) (hX : ExAt B w g r n last A) (hn : n ≤ 1000) :
    Calls Try.prog 17 #[.pointer (some ⟨g, 0, none⟩)] w fun e w' => e = .returned (.int .i64 (vers A n)) ∧ Below w.heap.size w w' := by
  have GO := Lib.hid (gone_any w hX)
  have c1 := hX.c1
  have hsh := hX.pure.short
  obtain ⟨m, E, hE, hA⟩ := hX.ex
  have hs := hE.sum (n := n) (fun k hk => by have := hX.pure.out k hk; rw [hA k] at this; simpa [absV] using this) (fun k => (A k).length) (fun k hk => by rw [hA k, hk]; rfl)
  have hle : vers A n ≤ 1099511627776000 := by
    have := sumN_le (fun k => (A k).length) (fun _ => 1099511627776) n (fun k _ _ => hsh k)
    rw [sumN_const] at this
    unfold vers
    have h2 : n * 1099511627776 ≤ 1000 * 1099511627776 := Nat.mul_le_mul_right _ hn
    omega
  have HS : Hid (((m.map (·.1)).map fun k => (A k).length).sum = vers A n) := hs
  have HE := Lib.hid hE
  have HA := Lib.hid hA
  obtain ⟨o, ho, hR⟩ := map_range (P := Try.prog) hE.map Try.underlying60
  clear hX hE hA hs hsh
  go_enter Try.func17, Try.ntmps17
  go_wp2_with fail
  refine GO.out.mono ?_
  rintro e w' ⟨rfl, rfl⟩
  go_wp2_with fail
  have hB0 : Below w.heap.size w (w.alloc o) := (Below.refl _ w).alloc (Nat.le_refl _) _
  generalize hit : w.heap.size = it at *
  generalize w.alloc o = w2 at *
  clear ho
  go_loopg [2] m.length (fun k sv wr => Below it w wr ∧ ∃ (left : IM) (s : Nat), k = left.length ∧ RangeIs wr it r m left ∧ sv = .int .i64 s ∧ s + ((left.map (·.1)).map fun k => (A k).length).sum = vers A n)
  case atStart => exact ⟨hB0, m, 0, rfl, hR, rfl, by rw [HS.out]; omega⟩
  case round =>
    obtain ⟨hB, left, s, hk, hR1, rfl, hsum⟩ := hrel
    have HK := Lib.hid hk; have HSUM := Lib.hid hsum; clear hk hsum
    rcases range_next (P := Try.prog) hR1 0 with ⟨hl0, hn0⟩ | ⟨p, left', w', hp1, hp2, hp3, hp4, hp5, hn1, hn2, hR2, hC2, hs2⟩
    · have hd : Hid (s = vers A n) := by
        show _ = _
        have := HSUM.out
        rw [hl0] at this; simpa using this
      clear hl0
      go_wp2
      go_ret
      exact ⟨by rw [hd.out]; rfl, by rw [hit]; exact hB⟩
    · have hit' : it < wr.heap.size := hR1.lt
      have hBn : Below it w w' := hB.trans (hC2.below (by omega) (fun k hk e => by omega))
      have hperm := range_perm hR1.keys hR2.keys hp1 hp3 hp4 hp5
      have hsum2 : s + (A p.1).length + ((left'.map (·.1)).map fun k => (A k).length).sum = vers A n := by
        have h1 := ((hperm.map (·.1)).map fun k => (A k).length).sum_nat
        have h2 := HSUM.out
        rw [h1] at h2
        simp at h2 ⊢; omega
      obtain ⟨b5, cap5, hpv, hown, hlen, hb5⟩ := HE.out.entry hp2
      have hAl : (A p.1).length = (E p.1).length := by rw [HA.out]; simp [absV]
      rw [hAl] at hsum2
      obtain ⟨pk, pv⟩ := p
      simp only at hpv hn1 hn2 hsum2
      subst hpv
      have hsl : s + (E pk).length ≤ 1099511627776000 := by omega
      have HS2 := Lib.hid hsum2
      have P5 := Lib.hid hp5
      generalize (E pk).length = el at *
      clear hperm hsum2 hown hAl hp1 hp2 hp3 hp4 hp5
      go_wp2
      go_roundg left'.length
      case measure => rw [HK.out]; exact P5.out
      case rel => exact ⟨hBn, left', s + el, rfl, hR2, by go_num, HS2.out⟩
end Go.Proofs.Ytglkbkocdeimiaa
