import Derived.Test.YtdgnhimiamchmaaSo2
namespace Go.Proofs.Ytdgnhimiamchmaa
open Go.Sort
section
variable {α : Type} {key : α → Int} {pos : α → Nat}

/-- rotation under way: X and Y are to change places -/
def RotInv (a m b i j : Nat) (d dk : Array α) : Prop :=
  ∃ P A B S DL X Y DR : List α, d = (P ++ A ++ B ++ S).toArray ∧ P.length = a ∧ P.length + A.length = m ∧ P.length + A.length + B.length = b ∧
    dk = (P ++ DL ++ X ++ Y ++ DR ++ S).toArray ∧ DL ++ Y ++ X ++ DR = B ++ A ∧ X.length = i ∧ Y.length = j ∧ P.length + DL.length + X.length = m
theorem RotInv.start {a m b : Nat} {d : Array α} (h1 : a ≤ m) (h2 : m ≤ b) (h3 : b ≤ d.size) : RotInv a m b (m - a) (b - m) d d := by
  obtain ⟨l, rfl⟩ : ∃ l : List α, d = l.toArray := ⟨d.toList, by simp⟩
  simp at h3
  obtain ⟨P, l1, rfl, hP, hl1⟩ := split_at l a (by omega)
  obtain ⟨A, l2, rfl, hA, hl2⟩ := split_at l1 (m - a) (by omega)
  obtain ⟨B, S, rfl, hB, hS⟩ := split_at l2 (b - m) (by simp only [List.length_append] at *; omega)
  exact ⟨P, A, B, S, [], A, B, [], by simp, hP, by omega, by omega, by simp, by simp, by omega, by omega, by simp; omega⟩
theorem RotInv.size {a m b i j : Nat} {d dk : Array α} (h : RotInv a m b i j d dk) : dk.size = d.size := by
  obtain ⟨P, A, B, S, DL, X, Y, DR, rfl, g1, g2, g3, rfl, g5, g6, g7, g8⟩ := h
  have := congrArg List.length g5
  simp at this ⊢; omega
theorem RotInv.bound {a m b i j : Nat} {d dk : Array α} (h : RotInv a m b i j d dk) : i ≤ m ∧ m + j ≤ d.size := by
  obtain ⟨P, A, B, S, DL, X, Y, DR, rfl, g1, g2, g3, rfl, g5, g6, g7, g8⟩ := h
  have := congrArg List.length g5
  simp at this ⊢; omega
theorem RotInv.gt [Inhabited α] {a m b i j : Nat} {d dk : Array α} (h : RotInv a m b i j d dk) (hij : j < i) : RotInv a m b (i - j) j d (swps dk (m - i) m j) := by
  obtain ⟨P, A, B, S, DL, X, Y, DR, rfl, g1, g2, g3, rfl, g5, g6, g7, g8⟩ := h
  obtain ⟨X1, X2, rfl, h1, h2⟩ := split_at X j (by omega)
  simp only [List.length_append] at *
  refine ⟨P, A, B, S, DL ++ Y, X2, X1, DR, rfl, g1, g2, g3, ?_, ?_, by omega, by omega, by simp; omega⟩
  · have := swps_app (P ++ DL) j X1 X2 Y (DR ++ S) h1 g7 m (by simp; omega)
    rw [show (P ++ DL).length = m - i by simp; omega] at this
    have e : P ++ DL ++ (X1 ++ X2) ++ Y ++ DR ++ S = P ++ DL ++ X1 ++ X2 ++ Y ++ (DR ++ S) := by simp
    rw [e, this]; simp
  · rw [← g5]; simp
theorem RotInv.lt [Inhabited α] {a m b i j : Nat} {d dk : Array α} (h : RotInv a m b i j d dk) (hij : i < j) : RotInv a m b i (j - i) d (swps dk (m - i) (m + j - i) i) := by
  obtain ⟨P, A, B, S, DL, X, Y, DR, rfl, g1, g2, g3, rfl, g5, g6, g7, g8⟩ := h
  obtain ⟨Y1, Y2, rfl, h1, h2⟩ := split_at Y (j - i) (by omega)
  simp only [List.length_append] at *
  refine ⟨P, A, B, S, DL, Y2, Y1, X ++ DR, rfl, g1, g2, g3, ?_, ?_, by omega, by omega, by omega⟩
  · have := swps_app (P ++ DL) i X Y1 Y2 (DR ++ S) g6 (by omega) (m + j - i) (by simp; omega)
    rw [show (P ++ DL).length = m - i by simp; omega] at this
    have e : P ++ DL ++ X ++ (Y1 ++ Y2) ++ DR ++ S = P ++ DL ++ X ++ Y1 ++ Y2 ++ (DR ++ S) := by simp
    rw [e, this]; simp
  · rw [← g5]; simp
theorem RotInv.done [Inhabited α] {a m b i j : Nat} {d dk : Array α} (h : RotInv a m b i j d dk) (hij : i = j) : Rot a m b d (swps dk (m - i) m i) := by
  obtain ⟨P, A, B, S, DL, X, Y, DR, rfl, g1, g2, g3, rfl, g5, g6, g7, g8⟩ := h
  refine ⟨P, A, B, S, rfl, ?_, g1, g2, g3⟩
  have := swps_app (P ++ DL) i X [] Y (DR ++ S) g6 (by omega) m (by simp; omega)
  rw [show (P ++ DL).length = m - i by simp; omega] at this
  have e : P ++ DL ++ X ++ Y ++ DR ++ S = P ++ DL ++ X ++ [] ++ Y ++ (DR ++ S) := by simp
  rw [e, this]
  have e2 : P ++ B ++ A ++ S = P ++ (B ++ A) ++ S := by simp
  rw [e2, ← g5]; simp

/-- a list of runs, each bs long but the last, each in order, the places rising from run to run -/
inductive Runs (key : α → Int) (pos : α → Nat) (bs : Nat) : List α → Prop
  | last (A : List α) : A.length ≤ bs → A.Pairwise (Ks key pos) → Runs key pos bs A
  | cons (A R : List α) : A.length = bs → A.Pairwise (Ks key pos) → (∀ x ∈ A, ∀ y ∈ R, pos x < pos y) → Runs key pos bs R → Runs key pos bs (A ++ R)
theorem Runs.short {bs : Nat} {X : List α} (h : Runs key pos bs X) (hl : X.length ≤ bs) : X.Pairwise (Ks key pos) := by
  cases h with
  | last _ h1 h2 => exact h2
  | cons A R h1 h2 h3 h4 =>
    have : R = [] := List.length_eq_zero_iff.1 (by simp at hl; omega)
    subst this; simpa using h2
theorem Runs.split {bs : Nat} {X : List α} (h : Runs key pos bs X) (hl : bs ≤ X.length) : ∃ A R, X = A ++ R ∧ A.length = bs ∧ A.Pairwise (Ks key pos) ∧ (∀ x ∈ A, ∀ y ∈ R, pos x < pos y) ∧ Runs key pos bs R := by
  cases h with
  | last _ h1 h2 => exact ⟨X, [], by simp, by omega, h2, by simp, .last _ (by simp) .nil⟩
  | cons A R h1 h2 h3 h4 => exact ⟨A, R, rfl, h1, h2, h3, h4⟩

/-- the places rise from a to b -/
def Inc (pos : α → Nat) (a b : Nat) (d : Array α) : Prop :=
  ∃ P X S : List α, d = (P ++ X ++ S).toArray ∧ X.Pairwise (fun x y => pos x < pos y) ∧ P.length = a ∧ P.length + X.length = b

/-- the first pass: runs of bs, up to a -/
def St1 (key : α → Int) (pos : α → Nat) (bs : Nat) (l : List α) (a : Nat) (dk : Array α) : Prop :=
  ∃ D E : List α, dk = (D ++ E).toArray ∧ D.length = a ∧ E.Pairwise (fun x y => pos x < pos y) ∧ (∀ E' : List α, E'.Perm E → Runs key pos bs E' → Runs key pos bs (D ++ E')) ∧ (D ++ E).Perm l
/-- runs of bs all through -/
def AllRuns (key : α → Int) (pos : α → Nat) (bs : Nat) (l : List α) (dk : Array α) : Prop := ∃ l' : List α, dk = l'.toArray ∧ l'.Perm l ∧ Runs key pos bs l'
/-- a later pass: runs of 2 bs up to a, of bs behind it -/
def St2 (key : α → Int) (pos : α → Nat) (bs : Nat) (l : List α) (a : Nat) (dk : Array α) : Prop :=
  ∃ D E : List α, dk = (D ++ E).toArray ∧ D.length = a ∧ Runs key pos bs E ∧ (∀ E' : List α, E'.Perm E → Runs key pos (2 * bs) E' → Runs key pos (2 * bs) (D ++ E')) ∧ (D ++ E).Perm l

theorem St1.start {bs : Nat} (l : List α) (h : l.Pairwise (fun x y => pos x < pos y)) : St1 key pos bs l 0 l.toArray :=
  ⟨[], l, by simp, rfl, h, fun E' _ h => by simpa using h, by simp⟩
theorem St1.size {bs a : Nat} {l : List α} {dk : Array α} (h : St1 key pos bs l a dk) : dk.size = l.length ∧ a ≤ l.length := by
  obtain ⟨D, E, rfl, h1, h2, h3, h4⟩ := h
  have := h4.length_eq
  simp at this ⊢; omega
theorem St1.inc {bs a b : Nat} {l : List α} {dk : Array α} (h : St1 key pos bs l a dk) (h1 : a ≤ b) (h2 : b ≤ l.length) : Inc pos a b dk := by
  obtain ⟨D, E, rfl, g1, g2, g3, g4⟩ := h
  have hl := g4.length_eq
  simp at hl
  obtain ⟨X, S, rfl, hX, hS⟩ := split_at E (b - a) (by omega)
  exact ⟨D, X, S, by simp, (List.pairwise_append.1 g2).1, g1, by omega⟩
/-- two ways to part a row at one place -/
theorem part_eq {D E P X S : List α} (h : (D ++ E).toArray = (P ++ X ++ S).toArray) (hl : D.length = P.length) : D = P ∧ E = X ++ S := by
  have := congrArg Array.toList h
  simp only [List.append_assoc] at this
  exact List.append_inj this hl
theorem St1.step {bs a : Nat} {l : List α} {dk dk' : Array α} (h : St1 key pos bs l a dk) (hS : Sorts key pos a (a + bs) dk dk') : St1 key pos bs l (a + bs) dk' := by
  obtain ⟨D, E, hd, g1, g2, g3, g4⟩ := h
  obtain ⟨P, X, C, S, k1, k2, k3, k4, k5, k6⟩ := hS
  obtain ⟨rfl, rfl⟩ := part_eq (hd.symm.trans k1) (by omega)
  have hl := k3.length_eq
  rw [List.pairwise_append] at g2
  refine ⟨D ++ C, S, by rw [k2], by simp; omega, g2.2.1, fun E' p r => ?_, ?_⟩
  · rw [List.append_assoc]
    refine g3 (C ++ E') (k3.append p) ?_
    exact .cons C E' (by omega) k4 (fun x hx y hy => g2.2.2 x (k3.mem_iff.1 hx) y (p.mem_iff.1 hy)) r
  · refine List.Perm.trans ?_ g4
    rw [List.append_assoc]
    exact List.Perm.append_left _ (k3.append_right _)
theorem St1.last {bs a : Nat} {l : List α} {dk dk' : Array α} (h : St1 key pos bs l a dk) (hn : l.length ≤ a + bs) (hS : Sorts key pos a l.length dk dk') : AllRuns key pos bs l dk' := by
  obtain ⟨D, E, hd, g1, g2, g3, g4⟩ := h
  obtain ⟨P, X, C, S, k1, k2, k3, k4, k5, k6⟩ := hS
  obtain ⟨rfl, rfl⟩ := part_eq (hd.symm.trans k1) (by omega)
  have hl := k3.length_eq
  have hl2 := g4.length_eq
  have : S = [] := List.length_eq_zero_iff.1 (by simp at hl2; omega)
  subst this
  simp only [List.append_nil] at *
  exact ⟨D ++ C, k2, (List.Perm.append_left _ k3).trans g4, g3 C k3 (.last C (by omega) k4)⟩

theorem AllRuns.size {bs : Nat} {l : List α} {dk : Array α} (h : AllRuns key pos bs l dk) : dk.size = l.length := by
  obtain ⟨l', rfl, h1, _⟩ := h
  simpa using h1.length_eq
theorem AllRuns.start {bs : Nat} {l : List α} {dk : Array α} (h : AllRuns key pos bs l dk) : St2 key pos bs l 0 dk := by
  obtain ⟨l', rfl, h1, h2⟩ := h
  exact ⟨[], l', by simp, rfl, h2, fun E' _ h => by simpa using h, by simpa using h1⟩
theorem AllRuns.done {bs : Nat} {l : List α} {dk : Array α} (h : AllRuns key pos bs l dk) (hn : l.length ≤ bs) : ∃ l' : List α, dk = l'.toArray ∧ l'.Perm l ∧ l'.Pairwise (Ks key pos) := by
  obtain ⟨l', rfl, h1, h2⟩ := h
  exact ⟨l', rfl, h1, h2.short (by rw [h1.length_eq]; exact hn)⟩
theorem St2.size {bs a : Nat} {l : List α} {dk : Array α} (h : St2 key pos bs l a dk) : dk.size = l.length ∧ a ≤ l.length := by
  obtain ⟨D, E, rfl, h1, h2, h3, h4⟩ := h
  have := h4.length_eq
  simp at this ⊢; omega
theorem St2.step {bs a : Nat} {l : List α} {dk : Array α} (h : St2 key pos bs l a dk) (hb : a + 2 * bs ≤ l.length) :
    Halves key pos a (a + bs) (a + 2 * bs) dk ∧ ∀ dk', Sorts key pos a (a + 2 * bs) dk dk' → St2 key pos bs l (a + 2 * bs) dk' := by
  obtain ⟨D, E, hd, g1, g2, g3, g4⟩ := h
  have hl := g4.length_eq
  simp at hl
  obtain ⟨A, R, rfl, hA, sA, pA, rR⟩ := g2.split (by omega)
  simp only [List.length_append] at hl
  obtain ⟨B, R2, rfl, hB, sB, pB, rR2⟩ := rR.split (by omega)
  refine ⟨⟨D, A, B, R2, by rw [hd]; simp, sA, sB, fun x hx y hy => pA x hx y (by simp [hy]), g1, by omega, by omega⟩, ?_⟩
  rintro dk' ⟨P, X, C, S, k1, k2, k3, k4, k5, k6⟩
  obtain ⟨rfl, h2⟩ := part_eq (hd.symm.trans k1) (by omega)
  rw [← List.append_assoc] at h2
  obtain ⟨rfl, rfl⟩ := List.append_inj h2 (by simp; omega)
  have hl2 := k3.length_eq
  simp at hl2
  refine ⟨D ++ C, R2, by rw [k2], by simp; omega, rR2, fun E' p r => ?_, ?_⟩
  · rw [List.append_assoc]
    refine g3 (C ++ E') (by rw [← List.append_assoc]; exact k3.append p) ?_
    refine .cons C E' (by omega) k4 (fun x hx y hy => ?_) r
    rcases List.mem_append.1 (k3.mem_iff.1 hx) with h | h
    · exact pA x h y (by simp [p.mem_iff.1 hy])
    · exact pB x h y (p.mem_iff.1 hy)
  · refine List.Perm.trans ?_ g4
    rw [List.append_assoc, ← List.append_assoc A]
    exact List.Perm.append_left _ (k3.append_right _)
theorem St2.last {bs a : Nat} {l : List α} {dk : Array α} (h : St2 key pos bs l a dk) (hb : l.length ≤ a + 2 * bs) (hm : a + bs < l.length) :
    Halves key pos a (a + bs) l.length dk ∧ ∀ dk', Sorts key pos a l.length dk dk' → AllRuns key pos (2 * bs) l dk' := by
  obtain ⟨D, E, hd, g1, g2, g3, g4⟩ := h
  have hl := g4.length_eq
  simp at hl
  obtain ⟨A, B, rfl, hA, sA, pA, rR⟩ := g2.split (by omega)
  simp only [List.length_append] at hl
  have sB := rR.short (by omega)
  refine ⟨⟨D, A, B, [], by rw [hd]; simp, sA, sB, pA, g1, by omega, by omega⟩, ?_⟩
  rintro dk' ⟨P, X, C, S, k1, k2, k3, k4, k5, k6⟩
  obtain ⟨rfl, h2⟩ := part_eq (hd.symm.trans k1) (by omega)
  have : S = [] := by
    have := congrArg List.length h2
    simp at this
    exact List.length_eq_zero_iff.1 (by omega)
  subst this
  simp only [List.append_nil] at h2 k2
  subst h2
  have hl2 := k3.length_eq
  simp at hl2
  exact ⟨D ++ C, k2, (List.Perm.append_left _ k3).trans g4, g3 C k3 (.last C (by omega) k4)⟩
theorem St2.none {bs a : Nat} {l : List α} {dk : Array α} (h : St2 key pos bs l a dk) (hm : l.length ≤ a + bs) : AllRuns key pos (2 * bs) l dk := by
  obtain ⟨D, E, hd, g1, g2, g3, g4⟩ := h
  have hl := g4.length_eq
  simp at hl
  exact ⟨D ++ E, hd, g4, g3 E (.refl _) (.last E (by omega) (g2.short (by omega)))⟩

/-- insertion: the stretch from a to i is in order, the rest as it was -/
theorem Inc.start {a b : Nat} {d : Array α} (h : Inc pos a b d) (hab : a < b) : Sorts key pos a (a + 1) d d := by
  obtain ⟨P, X, S, rfl, h1, h2, h3⟩ := h
  obtain ⟨Y, Z, rfl, hY, hZ⟩ := split_at X 1 (by omega)
  obtain ⟨y, rfl⟩ : ∃ x, Y = [x] := List.length_eq_one_iff.1 hY
  exact ⟨P, [y], [y], Z ++ S, by simp, by simp, .refl _, List.pairwise_singleton _ _, h2, by simp; omega⟩
theorem Inc.none {a : Nat} {d : Array α} (h : Inc pos a a d) : Sorts key pos a a d d := by
  obtain ⟨P, X, S, rfl, h1, h2, h3⟩ := h
  have : X = [] := List.length_eq_zero_iff.1 (by omega)
  subst this
  exact ⟨P, [], [], S, by simp, by simp, .refl _, .nil, h2, by simp; omega⟩
theorem Inc.next {a b i : Nat} {d dk : Array α} (h : Inc pos a b d) (hS : Sorts key pos a i d dk) (hib : i < b) : Halves key pos a i (i + 1) dk := by
  obtain ⟨P, X, S, hd, h1, h2, h3⟩ := h
  obtain ⟨P', X', C, S', k1, k2, k3, k4, k5, k6⟩ := hS
  obtain ⟨Y, Z, rfl, hY, hZ⟩ := split_at X (i - a) (by omega)
  obtain ⟨V, Z, rfl, hV, hZ'⟩ := split_at Z 1 (by omega)
  obtain ⟨y, rfl⟩ : ∃ x, V = [x] := List.length_eq_one_iff.1 hV
  rw [show P ++ (Y ++ ([y] ++ Z)) ++ S = P ++ (Y ++ (y :: Z ++ S)) by simp] at hd
  obtain ⟨rfl, h5⟩ := part_eq (hd.symm.trans k1) (by omega)
  obtain ⟨rfl, rfl⟩ := List.append_inj h5 (by omega)
  have hl := k3.length_eq
  refine ⟨P, C, [y], Z ++ S, by rw [k2]; simp, k4, List.pairwise_singleton _ _, fun u hu v hv => ?_, h2, by omega, by simp; omega⟩
  have h1' := (List.pairwise_append.1 h1).2.2
  exact h1' u (k3.mem_iff.1 hu) v (by simp at hv; simp [hv])
end
end Go.Proofs.Ytdgnhimiamchmaa
