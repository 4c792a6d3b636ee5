import Derived.Test.YtglkbkocdeimiaaE3
import Derived.Deep.AppendLies
namespace Go.Proofs.Ytglkbkocdeimiaa
open Go.RowKit
open BigFrame Lib
open Go.ChangeMaps (setBlock)

theorem Try.info70 : (Try.prog.info? 70).map (fun i => (i.zero, i.size, i.bytes)) = some (some (.agg #[.int .i64 0, .slice none 0 0]), 2, 32) := by kernel_rfl

open Classical in
noncomputable def acode (n last t : Int) (l : List PutV) : Int :=
  if t ≤ last ∨ 1099511627776 < t then 11 else if ¬ Rises l then 1
  else if ¬ (∀ x ∈ l.head?, 0 ≤ x.lba ∧ x.lba < n) ∨ ¬ (∀ x ∈ l.getLast?, 0 ≤ x.lba ∧ x.lba < n) then 2 else if lenBad l = true then 3 else 0

def add1 (t : Int) (A : Int → List AV) (p : PutV) : Int → List AV := fun k => if k = p.lba then A k ++ [(t, p.d)] else A k
def addA (t : Int) (A : Int → List AV) (l : List PutV) : Int → List AV := l.foldl (add1 t) A
theorem addA_step (t : Int) (A : Int → List AV) (l : List PutV) (i : Nat) (x : PutV) (h : l[i]? = some x) : addA t A (l.take (i + 1)) = add1 t (addA t A (l.take i)) x := by
  unfold addA; rw [List.take_add_one, h, List.foldl_append]; rfl
theorem addA_other (t : Int) : ∀ (l : List PutV) (A : Int → List AV) (k : Int), k ∉ l.map (·.lba) → addA t A l k = A k
  | [], A, k, _ => rfl
  | p :: l, A, k, h => by
    simp only [List.map_cons, List.mem_cons, not_or] at h
    show addA t (add1 t A p) l k = _
    rw [addA_other t l _ k h.2]
    unfold add1; rw [if_neg h.1]

theorem rises_lt {l : List PutV} (h : Rises l) : ∀ (i j : Nat) (x y : PutV), i < j → l[i]? = some x → l[j]? = some y → x.lba < y.lba := by
  intro i j x y hij hx hy
  induction j generalizing y with
  | zero => omega
  | succ j ih =>
    have hj := (List.getElem?_eq_some_iff.1 hy).1
    have hz : l[j]? = some (l[j]'(by omega)) := List.getElem?_eq_getElem _
    have h2 := h.2 j _ y hz hy
    by_cases e : i = j
    · subst e; rw [hz] at hx; cases hx; exact h2
    · exact Int.lt_trans (ih _ (by omega) hz) h2
theorem rises_fresh {l : List PutV} (h : Rises l) (i : Nat) (x : PutV) (hx : l[i]? = some x) : x.lba ∉ (l.take i).map (·.lba) := by
  intro hm
  obtain ⟨y, hy, he⟩ := List.mem_map.1 hm
  obtain ⟨j, hj⟩ := List.getElem?_of_mem hy
  rw [List.getElem?_take] at hj
  split at hj
  · rename_i hlt
    have := rises_lt h j i y x hlt hj hx
    omega
  · cases hj

/-- as many versions at most as there are times -/
theorem pair_len : ∀ (l : List AV) (lo hi : Int), (l.Pairwise fun x y => x.1 < y.1) → (∀ x ∈ l, lo < x.1 ∧ x.1 ≤ hi) → lo ≤ hi → (l.length : Int) ≤ hi - lo
  | [], lo, hi, _, _, h => by simp; omega
  | x :: l, lo, hi, hp, hb, h => by
    rw [List.pairwise_cons] at hp
    have hx := hb x (by simp)
    have := pair_len l x.1 hi hp.2 (fun y hy => ⟨hp.1 y hy, (hb y (by simp [hy])).2⟩) hx.2
    simp only [List.length_cons]
    omega
theorem ExPure.short {n last : Int} {A : Int → List AV} (h : ExPure n last A) (k : Int) : (A k).length ≤ 1099511627776 := by
  have := pair_len (A k) 0 last (h.rise k) (h.top k) h.l0
  have := h.l1
  omega

/-- what the blocks of Apply are: the map's, and rows of versions -/
def S70 (r : Nat) (w : World) (k : Nat) : Prop := k = r ∨ ∃ cur, w.heap[k]? = some (.cells cur 70 (0, 0))

theorem own_lt {w : World} {B : Nat} {e : TypeId} {s : Nat} {v : Value} {n : Nat} {xs : List Value} (h : w.ownsRow B e s v n xs) : ∀ b, v.ownBlock = some b → b < w.heap.size ∧ ∃ cur, w.heap[b]? = some (.cells cur e (0, 0)) := by
  intro b hb
  rcases h.2 with ⟨h1, _⟩ | ⟨g, cap, cur, h1, h2, h3, h4⟩
  · rw [h1] at hb; cases hb
  · rw [h1] at hb; cases hb; exact ⟨lt_heap h3, cur, h3⟩

theorem ExMap.push {B r : Nat} {w5 w6 : World} {m : IM} {E : Int → List Ver} {k : Int} {v : Value} {gg cap n : Nat} {y : Ver} {o : Obj} (h : ExMap B w5 r m E) (hv : v = (mget m k).getD (.slice none 0 0)) (hn : n = (E k).length)
    (hown : w6.ownsRow B 70 2 (.slice (some ⟨gg, 0, none⟩) (n + 1) cap) (n + 1) ((E k).flatMap encV ++ encV y)) (hgrow : w5.grownBy w6 v.ownBlock) (hlies : v.ownBlock = some gg ∨ gg = w5.heap.size)
    (hdata : w5.ownsRow B 5 1 (.slice y.a 40 y.c) 40 (y.d.map u8)) (hm : MapIs (setBlock w6 r o) r (mput m k (.slice (some ⟨gg, 0, none⟩) (n + 1) cap))) (hm6 : MapIs w6 r m) :
    ExMap B (setBlock w6 r o) r (mput m k (.slice (some ⟨gg, 0, none⟩) (n + 1) cap)) (fun j => if j = k then E k ++ [y] else E j) := by
  have C56 : Chg (fun b => v.ownBlock = some b) w5 w6 := Chg.grown (Chg.refl _ _) hgrow (fun k h => .inl h)
  have C67 : Chg (· = r) w6 (setBlock w6 r o) := setBlock_chg o
  have v70 : ∀ b, v.ownBlock = some b → ∃ cur, w5.heap[b]? = some (.cells cur 70 (0, 0)) := by
    intro b hb
    have hk := h.ent k
    cases hg : mget m k with
    | none => rw [hg] at hv; rw [hv] at hb; cases hb
    | some u =>
      rw [hg] at hv hk
      have hv' : v = u := hv
      have hk' : VRow B w5 u (E k) := hk
      rw [hv'] at hb
      exact (own_lt hk'.1 b hb).2
  have d5 : ∀ x : Ver, w5.ownsRow B 5 1 (.slice x.a 40 x.c) 40 (x.d.map u8) → (setBlock w6 r o).ownsRow B 5 1 (.slice x.a 40 x.c) 40 (x.d.map u8) := by
    intro x hx
    have h6 : w6.ownsRow B 5 1 (.slice x.a 40 x.c) 40 (x.d.map u8) := own_chg hx C56 (fun b hb hvb => by
      obtain ⟨cur, hc⟩ := v70 b hvb
      exact own_no hx (noRow_type hc (by decide)) hb)
    exact own_chg h6 C67 (fun b hb hr => own_no h6 (noRow_map hm6) (hr ▸ hb))
  have uk : ∀ j u, j ≠ k → mget m j = some u → v.ownBlock = none ∨ u.ownBlock ≠ v.ownBlock := by
    intro j u hj hu
    cases hg : mget m k with
    | none => rw [hg] at hv; rw [hv]; exact .inl rfl
    | some v0 =>
      rw [hg] at hv
      have hv' : v = v0 := hv
      right
      rw [hv']
      exact h.apart j k u v0 hu hg hj
  refine ⟨hm, fun j => ?_, ?_⟩
  · rw [mget_put]
    by_cases e : j = k
    · rw [if_pos e, if_pos e]
      refine ⟨?_, by simp, fun x hx => ?_⟩
      · rw [List.flatMap_append, List.length_append, ← hn]
        simp only [List.flatMap_cons, List.flatMap_nil, List.append_nil, List.length_cons, List.length_nil]
        exact own_chg hown C67 (fun b hb hr => own_no hown (noRow_map hm6) (hr ▸ hb))
      · rcases List.mem_append.1 hx with hx | hx
        · have hk := h.ent k
          cases hg : mget m k with
          | none => rw [hg] at hk; have hk' : E k = [] := hk; rw [hk'] at hx; cases hx
          | some u => rw [hg] at hk; exact d5 x (hk.2.2 x hx)
        · simp at hx; subst hx; exact d5 _ hdata
    · rw [if_neg e, if_neg e]
      have hj := h.ent j
      cases hg : mget m j with
      | none => rw [hg] at hj; exact hj
      | some u =>
        rw [hg] at hj
        have hj' : VRow B w5 u (E j) := hj
        refine ⟨?_, hj'.2.1, fun x hx => d5 x (hj'.2.2 x hx)⟩
        have h6 := own_chg hj'.1 C56 (fun b hb hvb => by
          rcases uk j u e hg with h1 | h1
          · rw [h1] at hvb; cases hvb
          · exact h1 (hb.trans hvb.symm))
        exact own_chg h6 C67 (fun b hb hr => own_no h6 (noRow_map hm6) (hr ▸ hb))
  · have key : ∀ j u, j ≠ k → mget m j = some u → u.ownBlock ≠ some gg := by
      intro j u hj hu hb
      rcases hlies with h1 | h1
      · rcases uk j u hj hu with h2 | h2
        · rw [h2] at h1; cases h1
        · exact h2 (hb.trans h1.symm)
      · have hj2 := h.ent j
        rw [hu] at hj2
        have := (own_lt hj2.1 gg hb).1
        omega
    intro j j' u u' hu hu' hjj
    rw [mget_put] at hu hu'
    by_cases e : j = k
    · rw [if_pos e] at hu
      rw [if_neg (by rintro rfl; exact hjj e)] at hu'
      cases hu
      exact fun hb => key j' u' (by rintro rfl; exact hjj e) hu' hb.symm
    · rw [if_neg e] at hu
      by_cases e' : j' = k
      · rw [if_pos e'] at hu'
        cases hu'
        exact fun hb => key j u e hu hb
      · rw [if_neg e'] at hu'
        exact h.apart j j' u u' hu hu' hjj

theorem own_ge {w : World} {B : Nat} {e : TypeId} {s : Nat} {v : Value} {n : Nat} {xs : List Value} (h : w.ownsRow B e s v n xs) : ∀ b, v.ownBlock = some b → B ≤ b := by
  intro b hb
  rcases h.2 with ⟨h1, _⟩ | ⟨g, cap, cur, h1, h2, h3, h4⟩
  · rw [h1] at hb; cases hb
  · rw [h1] at hb; cases hb; exact h2

theorem rises_late {l : List PutV} (h : Rises l) (i : Nat) (x : PutV) (hx : l[i]? = some x) : x.lba ∉ (l.drop (i + 1)).map (·.lba) := by
  intro hm
  obtain ⟨y, hy, he⟩ := List.mem_map.1 hm
  obtain ⟨j, hj⟩ := List.getElem?_of_mem hy
  rw [List.getElem?_drop] at hj
  have := rises_lt h i (i + 1 + j) x y (by omega) hx hj
  omega
theorem addA_mem {l : List PutV} (h : Rises l) (t : Int) (A : Int → List AV) (i : Nat) (x : PutV) (hx : l[i]? = some x) : addA t A l x.lba = A x.lba ++ [(t, x.d)] := by
  have e : l = l.take i ++ x :: l.drop (i + 1) := by
    obtain ⟨hi, rfl⟩ := List.getElem?_eq_some_iff.1 hx
    rw [← List.drop_eq_getElem_cons hi, List.take_append_drop]
  conv => lhs; rw [e]
  unfold addA
  rw [List.foldl_append, List.foldl_cons]
  show addA t (add1 t (addA t A (l.take i)) x) (l.drop (i + 1)) x.lba = _
  rw [addA_other t _ _ _ (rises_late h i x hx)]
  unfold add1
  rw [if_pos rfl, addA_other t _ _ _ (rises_fresh h i x hx)]
theorem addA_cases {l : List PutV} (h : Rises l) (t : Int) (A : Int → List AV) (k : Int) : addA t A l k = A k ∨ ∃ x ∈ l, x.lba = k ∧ addA t A l k = A k ++ [(t, x.d)] := by
  by_cases hk : k ∈ l.map (·.lba)
  · right
    obtain ⟨x, hx, rfl⟩ := List.mem_map.1 hk
    obtain ⟨i, hi⟩ := List.getElem?_of_mem hx
    exact ⟨x, hx, rfl, addA_mem h t A i x hi⟩
  · exact .inl (addA_other t l A k hk)
theorem ExPure.apply {n last t : Int} {A : Int → List AV} {l : List PutV} (h : ExPure n last A) (h1 : ¬ (t ≤ last ∨ 1099511627776 < t)) (h2 : Rises l)
    (h3 : ¬ (¬ (∀ x ∈ l.head?, 0 ≤ x.lba ∧ x.lba < n) ∨ ¬ (∀ x ∈ l.getLast?, 0 ≤ x.lba ∧ x.lba < n))) (h4 : lenBad l = false) : ExPure n t (addA t A l) := by
  have hl0 := h.l0
  have hr : ∀ x ∈ l, 0 ≤ x.lba ∧ x.lba < n := by
    intro x hx
    obtain ⟨i, hi⟩ := List.getElem?_of_mem hx
    have hil := (List.getElem?_eq_some_iff.1 hi).1
    have h30 : ∀ x ∈ l.head?, 0 ≤ x.lba ∧ x.lba < n := Classical.not_not.1 (fun h => h3 (.inl h))
    have h3l : ∀ x ∈ l.getLast?, 0 ≤ x.lba ∧ x.lba < n := Classical.not_not.1 (fun h => h3 (.inr h))
    have z0 : l[0]? = some (l[0]'(by omega)) := List.getElem?_eq_getElem _
    have zl : l[l.length - 1]? = some (l[l.length - 1]'(by omega)) := List.getElem?_eq_getElem _
    have b0 := h30 _ (by rw [List.head?_eq_getElem?]; exact z0)
    have bl := h3l _ (by rw [List.getLast?_eq_getElem?]; exact zl)
    constructor
    · by_cases e : i = 0
      · subst e; rw [z0] at hi; cases hi; exact b0.1
      · have := rises_lt h2 0 i _ x (by omega) z0 hi; omega
    · by_cases e : i = l.length - 1
      · rw [e, zl] at hi; cases hi; exact bl.2
      · have := rises_lt h2 i (l.length - 1) x _ (by omega) hi zl; omega
  have hlen : ∀ x ∈ l, x.d.length = 40 := by
    intro x hx
    unfold lenBad at h4
    rw [List.any_eq_false] at h4
    simpa using h4 x hx
  refine ⟨h.lo, h.hi, by omega, by omega, fun k => ?_, fun k x hx => ?_, fun k x hx => ?_, fun k hk => ?_⟩
  · rcases addA_cases h2 t A k with e | ⟨y, _, _, e⟩
    · rw [e]; exact h.rise k
    · rw [e, List.pairwise_append]
      refine ⟨h.rise k, List.pairwise_singleton _ _, fun a ha b hb => ?_⟩
      simp at hb; subst hb
      have := (h.top k a ha).2
      show a.1 < t
      omega
  · rcases addA_cases h2 t A k with e | ⟨y, _, _, e⟩
    · rw [e] at hx; have := h.top k x hx; omega
    · rw [e] at hx
      rcases List.mem_append.1 hx with hx | hx
      · have := h.top k x hx; omega
      · simp at hx; subst hx; constructor
        · show 0 < t; omega
        · exact Int.le_refl _
  · rcases addA_cases h2 t A k with e | ⟨y, hy, _, e⟩
    · rw [e] at hx; exact h.len k x hx
    · rw [e] at hx
      rcases List.mem_append.1 hx with hx | hx
      · exact h.len k x hx
      · simp at hx; subst hx; exact hlen y hy
  · rcases addA_cases h2 t A k with e | ⟨y, hy, rfl, e⟩
    · rw [e]; exact h.out k hk
    · exact (hk (hr y hy)).elim
end Go.Proofs.Ytglkbkocdeimiaa
