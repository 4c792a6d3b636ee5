import Derived.Test.YtglkbkocdeimiaaE11
namespace Go.Proofs.Ytglkbkocdeimiaa
open Go.RowKit
open BigFrame Lib

def lo (h : Int) : AV → Bool := fun x => decide (x.1 ≤ h)
theorem filter_take (h : Int) : ∀ l : List AV, (l.Pairwise fun x y => x.1 < y.1) → l.filter (lo h) = l.take (l.filter (lo h)).length
  | [], _ => rfl
  | x :: l, hs => by
    rw [List.pairwise_cons] at hs
    have ih := filter_take h l hs.2
    by_cases e : x.1 ≤ h
    · have : lo h x = true := by simpa [lo] using e
      rw [List.filter_cons_of_pos this, List.length_cons, List.take_succ_cons, ← ih]
    · have h1 : lo h x = false := by simpa [lo] using e
      have : l.filter (lo h) = [] := by
        rw [List.filter_eq_nil_iff]
        intro y hy
        have := hs.1 y hy
        simp [lo]; omega
      rw [List.filter_cons_of_neg (by rw [h1]; decide), this]; rfl
theorem cut_eq (l : List AV) (h : Int) : cut l h = (l.filter (lo h)).length - 1 := rfl
/-- what is left up to the horizon, when what nobody reads is gone -/
theorem cut_left {l : List AV} (hs : l.Pairwise fun x y => x.1 < y.1) (h : Int) : ((l.drop (cut l h)).filter (lo h)).length = (l.filter (lo h)).length - cut l h := by
  have h1 := filter_take h l hs
  have hm := List.length_filter_le (lo h) l
  have hc := cut_eq l h
  generalize hcc : cut l h = c at *
  have h2 : l.filter (lo h) = (l.take c).filter (lo h) ++ (l.drop c).filter (lo h) := by rw [← List.filter_append, List.take_append_drop]
  have h3 : (l.take c).filter (lo h) = l.take c := by
    rw [List.filter_eq_self]
    intro x hx
    have : x ∈ l.filter (lo h) := by
      rw [h1]
      have : l.take c = (l.take (l.filter (lo h)).length).take c := by rw [List.take_take]; congr 1; omega
      rw [this] at hx
      exact List.mem_of_mem_take hx
    exact (List.mem_filter.1 this).2
  have h4 := congrArg List.length h2
  rw [List.length_append, h3, List.length_take] at h4
  omega
theorem cut_none {l : List AV} (hs : l.Pairwise fun x y => x.1 < y.1) (h : Int) : cut (l.drop (cut l h)) h = 0 := by
  rw [cut_eq (l.drop _), cut_left hs, cut_eq]
  omega
theorem rd_drop {l : List AV} (hs : l.Pairwise fun x y => x.1 < y.1) {h t : Int} (ht : h ≤ t) : rdAt (l.drop (cut l h)) t = rdAt l t := by
  by_cases h0 : cut l h = 0
  · rw [h0]; rfl
  · have h1 := cut_left hs h
    have h2 := cut_eq l h
    have hpos : 0 < ((l.drop (cut l h)).filter (lo h)).length := by omega
    obtain ⟨x, hx⟩ := List.exists_mem_of_length_pos hpos
    rw [List.mem_filter] at hx
    have e : l.filter (fun x => decide (x.1 ≤ t)) = (l.take (cut l h)).filter (fun x => decide (x.1 ≤ t)) ++ (l.drop (cut l h)).filter (fun x => decide (x.1 ≤ t)) := by rw [← List.filter_append, List.take_append_drop]
    unfold rdAt
    rw [e, List.getLast?_append]
    cases hg : ((l.drop (cut l h)).filter (fun x => decide (x.1 ≤ t))).getLast? with
    | some y => rfl
    | none =>
      rw [List.getLast?_eq_none_iff] at hg
      have : x ∈ (l.drop (cut l h)).filter (fun x => decide (x.1 ≤ t)) := by
        rw [List.mem_filter]
        refine ⟨hx.1, ?_⟩
        have := hx.2
        simp [lo] at this ⊢; omega
      rw [hg] at this; simp at this
theorem vers_pr (A : Int → List AV) (h : Int) (n : Nat) : vers (pr A h) n + cuts A h n = vers A n := by
  unfold vers cuts
  rw [← sumN_add]
  refine sumN_congr _ _ n fun k _ _ => ?_
  have := cut_le (A k) h
  simp [pr]; omega
theorem cuts_pr {n last : Int} {A : Int → List AV} (hp : ExPure n last A) (h : Int) (N : Nat) : cuts (pr A h) h N = 0 := by
  unfold cuts
  have := sumN_congr (fun k => cut (pr A h k) h) (fun _ => 0) N fun k _ _ => cut_none (hp.rise k) h
  rw [this, sumN_const]; omega
theorem pr_pr {n last : Int} {A : Int → List AV} (hp : ExPure n last A) (h : Int) : pr (pr A h) h = pr A h := by
  funext k
  show (pr A h k).drop (cut (pr A h k) h) = _
  rw [show cut (pr A h k) h = 0 from cut_none (hp.rise k) h]; rfl
theorem used_pr {n last : Int} {A : Int → List AV} (hp : ExPure n last A) (h : Int) (hl : last ≤ h) (N : Nat) : vers (pr A h) N = used (pr A h) N := by
  unfold vers used
  refine sumN_congr _ _ N fun k _ _ => ?_
  have hf : (A k).filter (lo h) = A k := by
    rw [List.filter_eq_self]
    intro x hx
    have := hp.top k x hx
    simp [lo]; omega
  have hc := cut_eq (A k) h
  rw [hf] at hc
  have hlen : (pr A h k).length = (A k).length - ((A k).length - 1) := by rw [← hc]; simp [pr]
  by_cases e : A k = []
  · rw [e] at hlen
    have : pr A h k = [] := by unfold pr; rw [e]; simp
    rw [this, if_pos rfl]; rfl
  · have h1 : 0 < (A k).length := List.length_pos_iff.2 e
    have h2 : (pr A h k).length = 1 := by omega
    rw [h2, if_neg (by intro e2; rw [e2] at h2; cases h2)]
theorem vers_le {n last : Int} {A : Int → List AV} (hp : ExPure n last A) : vers A 20 ≤ 1099511627776000 := by
  have := sumN_le (fun k => (A k).length) (fun _ => 1099511627776) 20 (fun k _ _ => hp.short k)
  rw [sumN_const] at this
  unfold vers
  omega

theorem own_types {w : World} {B1 B2 e1 e2 s1 s2 n1 n2 : Nat} {v1 v2 : Value} {x1 x2 : List Value} (h1 : w.ownsRow B1 e1 s1 v1 n1 x1) (h2 : w.ownsRow B2 e2 s2 v2 n2 x2) (hne : e1 ≠ e2) : v1.ownBlock = none ∨ v1.ownBlock ≠ v2.ownBlock := by
  rcases h1.2 with ⟨e, _⟩ | ⟨g, cap, cur, e, _, hb, _⟩
  · exact .inl (by rw [e]; rfl)
  · refine .inr ?_
    rcases h2.2 with ⟨e', _⟩ | ⟨g', cap', cur', e', _, hb', _⟩
    · rw [e, e']; simp [Value.ownBlock]
    · rw [e, e']
      intro heq
      have : g = g' := by simpa [Value.ownBlock] using heq
      subst this
      rw [hb] at hb'
      injection hb' with h; injection h with _ h; exact hne h
end Go.Proofs.Ytglkbkocdeimiaa
