import Derived.Test.YtdgnhimiamchmaaSo3
namespace Go.Proofs.Ytdgnhimiamchmaa

/-- an element into a row in order: behind all whose key is no greater -/
def insB {α : Type} (key : α → Int) (x : α) : List α → List α
  | [] => [x]
  | y :: l => if key x < key y then x :: y :: l else y :: insB key x l
/-- the stable sort -/
def stab {α : Type} (key : α → Int) (l : List α) : List α := l.foldl (fun acc x => insB key x acc) []

theorem insB_perm {α : Type} (key : α → Int) (x : α) : ∀ l, (insB key x l).Perm (x :: l)
  | [] => .refl _
  | y :: l => by
    unfold insB
    split
    · exact .refl _
    · exact (List.Perm.cons y (insB_perm key x l)).trans (List.Perm.swap x y l)
theorem insB_map {α β : Type} (key : β → Int) (f : α → β) (x : α) : ∀ l, (insB (fun a => key (f a)) x l).map f = insB key (f x) (l.map f)
  | [] => rfl
  | y :: l => by
    simp only [insB, List.map_cons]
    by_cases h : key (f x) < key (f y)
    · rw [if_pos h, if_pos h]; rfl
    · rw [if_neg h, if_neg h, List.map_cons, insB_map key f x l]
theorem stab_map {α β : Type} (key : β → Int) (f : α → β) (l : List α) : (stab (fun a => key (f a)) l).map f = stab key (l.map f) := by
  have : ∀ (l : List α) (acc : List α), (l.foldl (fun acc x => insB (fun a => key (f a)) x acc) acc).map f = (l.map f).foldl (fun acc x => insB key x acc) (acc.map f) := by
    intro l
    induction l with
    | nil => intro acc; rfl
    | cons x l ih => intro acc; simp only [List.foldl_cons, List.map_cons]; rw [ih, insB_map]
  exact this l []
theorem insB_sorted {α : Type} {key : α → Int} {pos : α → Nat} (x : α) : ∀ l : List α, l.Pairwise (Ks key pos) → (∀ y ∈ l, pos y < pos x) → (insB key x l).Pairwise (Ks key pos)
  | [], _, _ => List.pairwise_singleton _ _
  | y :: l, h, hp => by
    unfold insB
    rw [List.pairwise_cons] at h
    have hy := hp y (by simp)
    by_cases c : key x < key y
    · rw [if_pos c, List.pairwise_cons, List.pairwise_cons]
      refine ⟨fun z hz => ?_, h⟩
      rcases List.mem_cons.1 hz with rfl | hz
      · exact .inl c
      · have := (h.1 z hz).le
        exact .inl (by omega)
    · rw [if_neg c, List.pairwise_cons]
      refine ⟨fun z hz => ?_, insB_sorted x l h.2 (fun z hz => hp z (by simp [hz]))⟩
      rcases List.mem_cons.1 ((insB_perm key x l).mem_iff.1 hz) with rfl | hz
      · unfold Ks; omega
      · exact h.1 z hz
theorem stab_facts {α : Type} {key : α → Int} {pos : α → Nat} (l : List α) (h : l.Pairwise (fun x y => pos x < pos y)) : (stab key l).Perm l ∧ (stab key l).Pairwise (Ks key pos) := by
  have : ∀ (l acc : List α), (acc ++ l).Pairwise (fun x y => pos x < pos y) → ∀ s : List α, s.Perm acc → s.Pairwise (Ks key pos) → (l.foldl (fun acc x => insB key x acc) s).Perm (acc ++ l) ∧ (l.foldl (fun acc x => insB key x acc) s).Pairwise (Ks key pos) := by
    intro l
    induction l with
    | nil => intro acc _ s h1 h2; simpa using ⟨h1, h2⟩
    | cons x l ih =>
      intro acc hp s h1 h2
      have hp' : ((acc ++ [x]) ++ l).Pairwise (fun x y => pos x < pos y) := by simpa using hp
      have hs : (insB key x s).Perm (acc ++ [x]) := (insB_perm key x s).trans ((List.Perm.cons x h1).trans (List.perm_append_singleton x acc).symm)
      have := ih (acc ++ [x]) hp' (insB key x s) hs (insB_sorted x s h2 (fun y hy => ?_))
      · simpa using this
      · have hm := h1.mem_iff.1 hy
        exact (List.pairwise_append.1 hp).2.2 y hm x (by simp)
  exact this l [] (by simpa using h) [] (.refl _) .nil
/-- what the stable sort leaves is this -/
theorem stab_unique {α : Type} {key : α → Int} {pos : α → Nat} {l l' : List α} (h : l.Pairwise (fun x y => pos x < pos y)) (h1 : l'.Perm l) (h2 : l'.Pairwise (Ks key pos)) : l' = stab key l :=
  sorted_unique Ks.asymm _ _ (h1.trans (stab_facts l h).1.symm) h2 (stab_facts l h).2
theorem stab_perm {α : Type} (key : α → Int) (l : List α) : (stab key l).Perm l := by
  have : ∀ (l s : List α), (l.foldl (fun acc x => insB key x acc) s).Perm (s ++ l) := by
    intro l
    induction l with
    | nil => intro s; simp
    | cons x l ih =>
      intro s
      refine (ih _).trans ?_
      refine ((insB_perm key x s).append_right l).trans ?_
      exact List.perm_middle.symm
  exact this l []
theorem zipIdx_inc {α : Type} (l : List α) : ∀ n, (l.zipIdx n).Pairwise (fun x y => x.2 < y.2) := by
  induction l with
  | nil => intro n; exact .nil
  | cons x l ih =>
    intro n
    rw [List.zipIdx_cons, List.pairwise_cons]
    refine ⟨fun y hy => ?_, ih (n + 1)⟩
    have := List.le_snd_of_mem_zipIdx hy
    show n < y.2
    omega
theorem stab_zip {α : Type} (key : α → Int) (l : List α) : (stab (fun p : α × Nat => key p.1) l.zipIdx).map (·.1) = stab key l := by
  rw [stab_map key (fun p : α × Nat => p.1)]
  congr 1
  simp
end Go.Proofs.Ytdgnhimiamchmaa
