import Derived.Test.YtdgnhimiamchmaaSo1
namespace Go.Proofs.Ytdgnhimiamchmaa
open Go.Sort
section
variable {α : Type} {key : α → Int} {pos : α → Nat}

/-- the stretch from a to b is in order behind it, and nothing else has changed -/
def Sorts (key : α → Int) (pos : α → Nat) (a b : Nat) (d d' : Array α) : Prop :=
  ∃ P X C S : List α, d = (P ++ X ++ S).toArray ∧ d' = (P ++ C ++ S).toArray ∧ C.Perm X ∧ C.Pairwise (Ks key pos) ∧ P.length = a ∧ P.length + X.length = b
/-- two stretches in order, one behind the other, the places of the first below those of the second -/
def Halves (key : α → Int) (pos : α → Nat) (a m b : Nat) (d : Array α) : Prop :=
  ∃ P A B S : List α, d = (P ++ A ++ B ++ S).toArray ∧ A.Pairwise (Ks key pos) ∧ B.Pairwise (Ks key pos) ∧ (∀ x ∈ A, ∀ y ∈ B, pos x < pos y) ∧ P.length = a ∧ P.length + A.length = m ∧ P.length + A.length + B.length = b
/-- two stretches have changed places -/
def Rot (a m b : Nat) (d d' : Array α) : Prop :=
  ∃ P A B S : List α, d = (P ++ A ++ B ++ S).toArray ∧ d' = (P ++ B ++ A ++ S).toArray ∧ P.length = a ∧ P.length + A.length = m ∧ P.length + A.length + B.length = b

theorem Sorts.size {a b : Nat} {d d' : Array α} (h : Sorts key pos a b d d') : d'.size = d.size := by
  obtain ⟨P, X, C, S, rfl, rfl, h1, _⟩ := h
  have := h1.length_eq
  simp [this]
theorem Sorts.bound {a b : Nat} {d d' : Array α} (h : Sorts key pos a b d d') : a ≤ b ∧ b ≤ d.size := by
  obtain ⟨P, X, C, S, rfl, rfl, h1, h2, h3, h4⟩ := h
  simp; omega
theorem Halves.bound {a m b : Nat} {d : Array α} (h : Halves key pos a m b d) : a ≤ m ∧ m ≤ b ∧ b ≤ d.size := by
  obtain ⟨P, A, B, S, rfl, _, _, _, h1, h2, h3⟩ := h
  simp; omega
theorem Rot.size {a m b : Nat} {d d' : Array α} (h : Rot a m b d d') : d'.size = d.size := by
  obtain ⟨P, A, B, S, rfl, rfl, _⟩ := h
  simp; omega

theorem get_in [Inhabited α] (P A S : List α) (i : Nat) (hi : i < A.length) : (P ++ A ++ S).toArray[P.length + i]! = A[i] := by
  rw [getElem!_pos _ _ (by simp; omega)]
  simp [hi]
theorem pw_get {A : List α} (h : A.Pairwise (Ks key pos)) {i j : Nat} (hij : i ≤ j) (hj : j < A.length) : key A[i] ≤ key A[j] := by
  rcases Nat.lt_or_ge i j with h1 | h1
  · exact (List.pairwise_iff_getElem.1 h i j (by omega) hj h1).le
  · obtain rfl : i = j := by omega
    exact Int.le_refl _
theorem Halves.left [Inhabited α] {a m b : Nat} {d : Array α} (h : Halves key pos a m b d) {i j : Nat} (h1 : a ≤ i) (h2 : i ≤ j) (h3 : j < m) : key d[i]! ≤ key d[j]! := by
  obtain ⟨P, A, B, S, rfl, hA, _, _, e1, e2, e3⟩ := h
  obtain ⟨i', rfl⟩ : ∃ q, i = P.length + q := ⟨i - P.length, by omega⟩
  obtain ⟨j', rfl⟩ : ∃ q, j = P.length + q := ⟨j - P.length, by omega⟩
  rw [show P ++ A ++ B ++ S = P ++ A ++ (B ++ S) by simp, get_in P A _ i' (by omega), get_in P A _ j' (by omega)]
  exact pw_get hA (by omega) (by omega)
theorem Halves.right [Inhabited α] {a m b : Nat} {d : Array α} (h : Halves key pos a m b d) {i j : Nat} (h1 : m ≤ i) (h2 : i ≤ j) (h3 : j < b) : key d[i]! ≤ key d[j]! := by
  obtain ⟨P, A, B, S, rfl, _, hB, _, e1, e2, e3⟩ := h
  obtain ⟨i', rfl⟩ : ∃ q, i = (P ++ A).length + q := ⟨i - (P ++ A).length, by simp; omega⟩
  obtain ⟨j', rfl⟩ : ∃ q, j = (P ++ A).length + q := ⟨j - (P ++ A).length, by simp; omega⟩
  simp only [List.length_append] at h1 h2 h3
  rw [get_in (P ++ A) B _ i' (by omega), get_in (P ++ A) B _ j' (by omega)]
  exact pw_get hB (by omega) (by omega)

/-- one of the two stretches is empty -/
theorem Halves.none {a m b : Nat} {d : Array α} (h : Halves key pos a m b d) (h0 : m ≤ a ∨ b ≤ m) : Sorts key pos a b d d := by
  obtain ⟨P, A, B, S, rfl, hA, hB, hp, e1, e2, e3⟩ := h
  rcases h0 with h0 | h0
  · have : A = [] := List.length_eq_zero_iff.1 (by omega)
    subst this
    exact ⟨P, B, B, S, by simp, by simp, List.Perm.refl _, hB, e1, by simp at e3; omega⟩
  · have : B = [] := List.length_eq_zero_iff.1 (by omega)
    subst this
    exact ⟨P, A, A, S, by simp, by simp, List.Perm.refl _, hA, e1, by simp at e3; omega⟩
theorem split_at (A : List α) (n : Nat) (hn : n ≤ A.length) : ∃ A1 A2, A = A1 ++ A2 ∧ A1.length = n ∧ A2.length = A.length - n :=
  ⟨A.take n, A.drop n, (List.take_append_drop n A).symm, by simp; omega, by simp⟩
theorem Halves.rot_none {a m b s e : Nat} {d : Array α} (h : Halves key pos a m b d) (h1 : a ≤ s) (h2 : s ≤ m) (h3 : m ≤ e) (h4 : e ≤ b) (h0 : m ≤ s ∨ e ≤ m) : Rot s m e d d := by
  obtain ⟨P, A, B, S, rfl, hA, hB, hp, e1, e2, e3⟩ := h
  obtain ⟨A1, A2, rfl, la, ld⟩ := split_at A (s - a) (by omega)
  obtain ⟨B1, B2, rfl, lb, lbd⟩ := split_at B (e - m) (by omega)
  simp only [List.length_append] at *
  refine ⟨P ++ A1, A2, B1, B2 ++ S, by simp, ?_, ?_, ?_, ?_⟩
  · rcases h0 with h0 | h0
    · have : A2 = [] := List.length_eq_zero_iff.1 (by omega)
      subst this; simp
    · have : B1 = [] := List.length_eq_zero_iff.1 (by omega)
      subst this; simp
  · simp; omega
  · simp; omega
  · simp; omega

/-- the left stretch is one element: it moves up to its place -/
theorem one_done [Inhabited α] {a b i : Nat} {d : Array α} (h : Halves key pos a (a + 1) b d) (h1 : a + 1 ≤ i) (h2 : i ≤ b) (hl : ∀ k, a + 1 ≤ k → k < i → key d[k]! < key d[a]!) (hr : ∀ k, i ≤ k → k < b → ¬ key d[k]! < key d[a]!) :
    Sorts key pos a b d (bubUp d a (i - 1 - a)) := by
  obtain ⟨P, A, B, S, rfl, hA, hB, hp, e1, e2, e3⟩ := h
  obtain ⟨x, rfl⟩ : ∃ x, A = [x] := List.length_eq_one_iff.1 (by omega)
  have tb := List.take_append_drop (i - 1 - a) B
  have lb : (B.take (i - 1 - a)).length = i - 1 - a := by simp at e3 ⊢; omega
  have gx : (P ++ [x] ++ B ++ S).toArray[a]! = x := by
    have := get_mid P (B ++ S) x e1
    simpa using this
  have gk : ∀ k, (hk : k < B.length) → (P ++ [x] ++ B ++ S).toArray[a + 1 + k]! = B[k] := fun k hk => by
    have := get_in (P ++ [x]) B S k hk
    simpa [e1] using this
  refine ⟨P, [x] ++ B, B.take (i - 1 - a) ++ x :: B.drop (i - 1 - a), S, by simp, ?_, ?_, ?_, e1, by simp at e3 ⊢; omega⟩
  · have := bubUp_app P x (i - 1 - a) (B.take (i - 1 - a)) (B.drop (i - 1 - a) ++ S) lb
    rw [← List.append_assoc, tb, e1] at this
    rw [show P ++ [x] ++ B ++ S = P ++ x :: (B ++ S) by simp, this]
    simp
  · have : (B.take (i - 1 - a) ++ x :: B.drop (i - 1 - a)).Perm (x :: (B.take (i - 1 - a) ++ B.drop (i - 1 - a))) := List.perm_middle
    rw [tb] at this
    exact this
  · have hB' := hB
    rw [← tb] at hB'
    rw [List.pairwise_append] at hB' ⊢
    refine ⟨hB'.1, List.pairwise_cons.2 ⟨fun y hy => ?_, hB'.2.1⟩, fun u hu y hy => ?_⟩
    · obtain ⟨k, hk, rfl⟩ := List.getElem_of_mem hy
      rw [List.length_drop] at hk
      rw [List.getElem_drop]
      have q := hr (a + 1 + (i - 1 - a + k)) (by omega) (by simp at e3; omega)
      rw [gx, gk _ (by omega)] at q
      have p := hp x (by simp) B[i - 1 - a + k] (List.getElem_mem _)
      unfold Ks; omega
    · obtain ⟨k, hk, rfl⟩ := List.getElem_of_mem hu
      rw [lb] at hk
      rw [List.getElem_take]
      have q := hl (a + 1 + k) (by omega) (by omega)
      rw [gx, gk _ (by simp at e3; omega)] at q
      rcases List.mem_cons.1 hy with rfl | hy
      · exact .inl q
      · have := hB'.2.2 _ hu y hy
        rw [List.getElem_take] at this
        exact this
/-- the right stretch is one element: it moves down to its place -/
theorem two_done [Inhabited α] {a m i : Nat} {d : Array α} (h : Halves key pos a m (m + 1) d) (h1 : a ≤ i) (h2 : i ≤ m) (hl : ∀ k, a ≤ k → k < i → ¬ key d[m]! < key d[k]!) (hr : ∀ k, i ≤ k → k < m → key d[m]! < key d[k]!) :
    Sorts key pos a (m + 1) d (bubDn d m (m - i)) := by
  obtain ⟨P, A, B, S, rfl, hA, hB, hp, e1, e2, e3⟩ := h
  obtain ⟨y, rfl⟩ : ∃ x, B = [x] := List.length_eq_one_iff.1 (by omega)
  have ta := List.take_append_drop (i - a) A
  have la : (A.take (i - a)).length = i - a := by simp; omega
  have ld : (A.drop (i - a)).length = m - i := by simp; omega
  have gy : (P ++ A ++ [y] ++ S).toArray[m]! = y := by
    have := get_mid (P ++ A) S y (by simpa using e2)
    simpa using this
  have gk : ∀ k, (hk : k < A.length) → (P ++ A ++ [y] ++ S).toArray[a + k]! = A[k] := fun k hk => by
    have := get_in P A ([y] ++ S) k hk
    simpa [e1] using this
  refine ⟨P, A ++ [y], A.take (i - a) ++ y :: A.drop (i - a), S, by simp, ?_, ?_, ?_, e1, by simp; omega⟩
  · have := bubDn_app y S (A.drop (i - a)) (P ++ A.take (i - a)) m (by simp; omega)
    rw [ld, List.append_assoc P, ta] at this
    rw [show P ++ A ++ [y] ++ S = P ++ A ++ y :: S by simp, this]
    simp
  · have : (A.take (i - a) ++ y :: A.drop (i - a)).Perm (y :: (A.take (i - a) ++ A.drop (i - a))) := List.perm_middle
    rw [ta] at this
    exact this.trans (List.perm_append_comm (l₁ := [y]) (l₂ := A))
  · have hA' := hA
    rw [← ta] at hA'
    rw [List.pairwise_append] at hA' ⊢
    refine ⟨hA'.1, List.pairwise_cons.2 ⟨fun u hu => ?_, hA'.2.1⟩, fun u hu v hv => ?_⟩
    · obtain ⟨k, hk, rfl⟩ := List.getElem_of_mem hu
      rw [ld] at hk
      rw [List.getElem_drop]
      have q := hr (a + (i - a + k)) (by omega) (by omega)
      rw [gy, gk _ (by omega)] at q
      exact .inl q
    · rcases List.mem_cons.1 hv with rfl | hv
      · obtain ⟨k, hk, rfl⟩ := List.getElem_of_mem hu
        rw [la] at hk
        rw [List.getElem_take]
        have q := hl (a + k) (by omega) (by omega)
        rw [gy, gk _ (by omega)] at q
        have p := hp A[k] (List.getElem_mem _) v (by simp)
        unfold Ks; omega
      · exact hA'.2.2 u hu v hv

/-- the two halves of a symmetric merge, with the search's end at s and e -/
theorem rec_done [Inhabited α] {a m b s mid e : Nat} {d d' : Array α} (h : Halves key pos a m b d) (h1 : a ≤ s) (h2 : s ≤ m) (h3 : m ≤ e) (h4 : e ≤ b) (hmid : mid + m = s + e)
    (hl : s = a ∨ e = b ∨ key d[s - 1]! ≤ key d[e]!) (hr : s = m ∨ e = m ∨ key d[e - 1]! < key d[s]!) (hR : Rot s m e d d') :
    Halves key pos a s mid d' ∧ ∀ d1, Sorts key pos a mid d' d1 → Halves key pos mid e b d1 ∧ ∀ d2, Sorts key pos mid b d1 d2 → Sorts key pos a b d d2 := by
  have HL : ∀ i j, a ≤ i → i ≤ j → j < m → key d[i]! ≤ key d[j]! := fun i j => h.left
  have HRt : ∀ i j, m ≤ i → i ≤ j → j < b → key d[i]! ≤ key d[j]! := fun i j => h.right
  obtain ⟨P, A, B, S, hd, hA, hB, hp, e1, e2, e3⟩ := h
  obtain ⟨P', A2, B1, S', hd2, hd3, e4, e5, e6⟩ := hR
  have ta := List.take_append_drop (s - a) A
  have tb := List.take_append_drop (e - m) B
  have la : (A.take (s - a)).length = s - a := by simp; omega
  have ld : (A.drop (s - a)).length = m - s := by simp; omega
  have lb : (B.take (e - m)).length = e - m := by simp; omega
  have lbd : (B.drop (e - m)).length = b - e := by simp; omega
  obtain ⟨A1, hA1⟩ : ∃ q, q = A.take (s - a) := ⟨_, rfl⟩
  obtain ⟨A2', hA2⟩ : ∃ q, q = A.drop (s - a) := ⟨_, rfl⟩
  obtain ⟨B1', hB1⟩ : ∃ q, q = B.take (e - m) := ⟨_, rfl⟩
  obtain ⟨B2, hB2⟩ : ∃ q, q = B.drop (e - m) := ⟨_, rfl⟩
  rw [← hA1, ← hA2] at ta
  rw [← hB1, ← hB2] at tb
  rw [← hA1] at la; rw [← hA2] at ld; rw [← hB1] at lb; rw [← hB2] at lbd
  clear hA1 hA2 hB1 hB2
  subst ta tb
  have hx : P ++ A1 ++ (A2' ++ (B1' ++ (B2 ++ S))) = P' ++ (A2 ++ (B1 ++ S')) := by
    have : (P ++ (A1 ++ A2') ++ (B1' ++ B2) ++ S).toArray = (P' ++ A2 ++ B1 ++ S').toArray := hd.symm.trans hd2
    have := congrArg Array.toList this
    simpa using this
  obtain ⟨hP, hx⟩ := List.append_inj hx (by simp; omega)
  obtain ⟨hA', hx⟩ := List.append_inj hx (by omega)
  obtain ⟨hB', hS'⟩ := List.append_inj hx (by omega)
  subst hA' hB' hP hS'
  have hpair : ∀ x ∈ A1 ++ B1', ∀ y ∈ A2' ++ B2, Ks key pos x y := by
    rw [List.pairwise_append] at hA hB
    have gA1 : ∀ k, (hk : k < A1.length) → d[a + k]! = A1[k] := fun k hk => by
      have := get_in P A1 (A2' ++ (B1' ++ (B2 ++ S))) k hk
      rw [hd]; simpa [e1] using this
    have gA2 : ∀ k, (hk : k < A2'.length) → d[s + k]! = A2'[k] := fun k hk => by
      have := get_in (P ++ A1) A2' (B1' ++ (B2 ++ S)) k hk
      rw [hd]; simpa [show P.length + A1.length = s by simp at e4; omega] using this
    have gB1 : ∀ k, (hk : k < B1'.length) → d[m + k]! = B1'[k] := fun k hk => by
      have := get_in (P ++ A1 ++ A2') B1' (B2 ++ S) k hk
      rw [hd]; simpa [show P.length + A1.length + A2'.length = m by omega, show P.length + (A1.length + A2'.length) = m by omega] using this
    have gB2 : ∀ k, (hk : k < B2.length) → d[e + k]! = B2[k] := fun k hk => by
      have := get_in (P ++ A1 ++ A2' ++ B1') B2 S k hk
      rw [hd]; simpa [show P.length + (A1.length + (A2'.length + B1'.length)) = e by omega] using this
    intro x hx y hy
    rcases List.mem_append.1 hx with hx | hx <;> rcases List.mem_append.1 hy with hy | hy
    · exact hA.2.2 x hx y hy
    · have hpp := hp x (by simp [hx]) y (by simp [hy])
      obtain ⟨i, hi, rfl⟩ := List.getElem_of_mem hx
      obtain ⟨j, hj, rfl⟩ := List.getElem_of_mem hy
      have : key A1[i] ≤ key B2[j] := by
        rw [← gA1 i hi, ← gB2 j hj]
        rcases hl with hl | hl | hl
        · omega
        · omega
        · have q1 := HL (a + i) (s - 1) (by omega) (by omega) (by omega)
          have q2 := HRt e (e + j) (by omega) (by omega) (by omega)
          omega
      unfold Ks; omega
    · obtain ⟨i, hi, rfl⟩ := List.getElem_of_mem hx
      obtain ⟨j, hj, rfl⟩ := List.getElem_of_mem hy
      left
      rw [← gB1 i hi, ← gA2 j hj]
      rcases hr with hr | hr | hr
      · omega
      · omega
      · have q1 := HRt (m + i) (e - 1) (by omega) (by omega) (by omega)
        have q2 := HL s (s + j) (by omega) (by omega) (by omega)
        omega
    · exact hB.2.2 x hx y hy
  have hA0 := hA; have hB0 := hB
  rw [List.pairwise_append] at hA hB
  refine ⟨⟨P, A1, B1', A2' ++ (B2 ++ S), by rw [hd3]; simp, hA.1, hB.1, fun x hx y hy => hp x (by simp [hx]) y (by simp [hy]), e1, by omega, by omega⟩, ?_⟩
  rintro d1 ⟨P1, X1, C1, S1, g1, g2, g3, g4, g5, g6⟩
  have hx : P ++ ((A1 ++ B1') ++ (A2' ++ (B2 ++ S))) = P1 ++ (X1 ++ S1) := by
    have := congrArg Array.toList (hd3.symm.trans g1)
    simpa using this
  obtain ⟨hP, hx⟩ := List.append_inj hx (by omega)
  obtain ⟨hX, hS⟩ := List.append_inj hx (by simp; omega)
  subst hP hX hS
  refine ⟨⟨P ++ C1, A2', B2, S, by rw [g2]; simp, hA.2.1, hB.2.1, fun x hx y hy => hp x (by simp [hx]) y (by simp [hy]), ?_, ?_, ?_⟩, ?_⟩
  · have := g3.length_eq; simp at this ⊢; omega
  · have := g3.length_eq; simp at this ⊢; omega
  · have := g3.length_eq; simp at this ⊢; omega
  rintro d2 ⟨P2, X2, C2, S2, k1, k2, k3, k4, k5, k6⟩
  have hl1 := g3.length_eq
  have hx : (P ++ C1) ++ ((A2' ++ B2) ++ S) = P2 ++ (X2 ++ S2) := by
    have := congrArg Array.toList (g2.symm.trans k1)
    simpa using this
  obtain ⟨hP, hx⟩ := List.append_inj hx (by simp at hl1 g6 ⊢; omega)
  obtain ⟨hX, hS⟩ := List.append_inj hx (by simp at hl1 g6 k6 ⊢; omega)
  subst hP hX hS
  refine ⟨P, (A1 ++ A2') ++ (B1' ++ B2), C1 ++ C2, S, by rw [hd]; simp, by rw [k2]; simp, ?_, ?_, e1, by simp; omega⟩
  · refine (g3.append k3).trans ?_
    simp only [List.append_assoc]
    refine List.Perm.append_left _ ?_
    rw [← List.append_assoc, ← List.append_assoc]
    exact List.Perm.append_right _ List.perm_append_comm
  · exact List.pairwise_append.2 ⟨g4, k4, fun x hx y hy => hpair x (g3.mem_iff.1 hx) y (k3.mem_iff.1 hy)⟩

theorem Sorts.trans_in {a i b : Nat} {d d1 d2 : Array α} (h : Sorts key pos a i d d1) (h2 : Sorts key pos a b d1 d2) (hib : i ≤ b) : Sorts key pos a b d d2 := by
  obtain ⟨P, X, C, S, hd, hd1, g1, g2, g3, g4⟩ := h
  obtain ⟨P', X', C', S', k1, k2, k3, k4, k5, k6⟩ := h2
  have hl := g1.length_eq
  have ts := List.take_append_drop (b - i) S
  have hlen : d1.size = P'.length + X'.length + S'.length := by rw [k1]; simp; omega
  have hlen2 : d1.size = P.length + C.length + S.length := by rw [hd1]; simp; omega
  have hx : P ++ ((C ++ S.take (b - i)) ++ S.drop (b - i)) = P' ++ (X' ++ S') := by
    have := congrArg Array.toList (hd1.symm.trans k1)
    simp only [List.append_assoc, ts] at this ⊢
    exact this
  obtain ⟨hP, hx⟩ := List.append_inj hx (by omega)
  obtain ⟨hX, hS⟩ := List.append_inj hx (by simp; omega)
  refine ⟨P, X ++ S.take (b - i), C', S.drop (b - i), ?_, ?_, ?_, k4, g3, ?_⟩
  · rw [hd]; simp [ts]
  · rw [k2, hP, hS]
  · rw [← hX] at k3
    exact k3.trans (List.Perm.append_right _ g1)
  · simp; omega
end
end Go.Proofs.Ytdgnhimiamchmaa
