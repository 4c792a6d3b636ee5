import Derived.Test.YtdgnhimiamchmaaM3
namespace Go.Proofs.Ytdgnhimiamchmaa
open Go.RowKit
open BigFrame Lib
open Go.ChangeMaps (setBlock)

theorem get_bad {g r : Nat} {n : Int} {d : Int → List Int} (k : Int) (w : World) (hM : MAt w g r n d) (hk : ¬ (0 ≤ k ∧ k < n)) :
    Calls Try.prog 21 #[.pointer (some ⟨g, 0, none⟩), .int .i64 k] w fun e w' => e = .returned (.tuple #[.slice none 0 0, .int .i64 2]) ∧ w = w' := by
  have h := block_any k w hM
  rw [decide_eq_false hk] at h
  have H := Lib.hid h
  clear h hM hk
  go_enter Try.func21, Try.ntmps21
  go_wp2_with fail
  refine H.out.mono ?_
  rintro e w' ⟨rfl, rfl⟩
  go_wp2
  go_ret2
  exact ⟨rfl, rfl⟩

theorem mk40 (W : World) : (Instr.makeSlice 35 (.int .i64 40) (.int .i64 40)).run Try.prog W = .ok (.slice (some ⟨W.heap.size, 0, none⟩) 40 40) (W.alloc (.cells (zeros.map u8).toArray 5)) :=
  make_run (P := Try.prog) (T := 35) (E := 5) (fun x : Int => [u8 x]) 0 Try.underlying35 Try.info5 rfl rfl (by omega) 40 (by omega) (by omega) W

set_option maxRecDepth 100000 in
theorem get_any {g r : Nat} {n : Int} {d : Int → List Int} (k : Int) (w : World) (hM : MAt w g r n d) (hk : 0 ≤ k ∧ k < n) :
    Calls Try.prog 21 #[.pointer (some ⟨g, 0, none⟩), .int .i64 k] w fun e w' => ∃ a' c', e = .returned (.tuple #[.slice a' 40 c', .int .i64 0]) ∧ Below w.heap.size w w' ∧ w'.ownsRow w.heap.size 5 1 (.slice a' 40 c') 40 ((d k).map u8) ∧ (d k).length = 40 := by
  have h := block_any k w hM
  rw [decide_eq_true hk] at h
  have H := Lib.hid h
  have c1 := hM.c1
  obtain ⟨_, ⟨m, hm, hE⟩, _, _⟩ := hM
  have hk1 := hE k
  have hL := Lib.hid (map_lookup_ok (P := Try.prog) (k := k) hm Try.underlying80 Try.underlying3 (Try.zeroValue35 _))
  clear h hm hE hk
  cases hg : mget m k with
  | none =>
    rw [hg] at hk1
    simp only [Ent] at hk1
    have hz := Lib.hid hk1
    have hG := Lib.hid hg
    clear hk1 hg
    go_enter Try.func21, Try.ntmps21
    go_wp2_with fail
    refine H.out.mono ?_
    rintro e w' ⟨rfl, rfl⟩
    go_wp2_with fail
    rw [hL.out, hG.out]
    go_wp2_with fail
    rw [mk40]
    go_wp2
    go_ret2
    refine ⟨_, _, rfl, (Below.refl _ w).alloc (Nat.le_refl _) _, ?_, by rw [hz.out]; rfl⟩
    rw [hz.out]
    exact World.ownsRow_lit _ _ 40 (Nat.le_refl _) (by unfold maxLen; omega) rfl
  | some v =>
    rw [hg] at hk1
    obtain ⟨ad, c, rfl, h2, h3, h4⟩ := hk1
    have CL := Lib.hid (clone_some ad c (d k) w (by omega) h2)
    have hG := Lib.hid hg
    have H3 := Lib.hid h3
    clear h2 h4 hg h3
    go_enter Try.func21, Try.ntmps21
    go_wp2_with fail
    refine H.out.mono ?_
    rintro e w' ⟨rfl, rfl⟩
    go_wp2_with fail
    rw [hL.out, hG.out]
    go_wp2_with fail
    rw [← H3.out]
    refine CL.out.mono ?_
    rintro e w' ⟨a', c', rfl, hB, hown⟩
    have HO := Lib.hid hown; clear hown
    go_wp2
    go_ret2
    rw [H3.out] at HO
    refine ⟨_, _, by rw [H3.out]; rfl, hB, HO.out, H3.out⟩

theorem nodup_len : ∀ (l1 l2 : List Int), l1.Nodup → (∀ x ∈ l1, x ∈ l2) → l1.length ≤ l2.length
  | [], _, _, _ => Nat.zero_le _
  | x :: l1, l2, hn, hs => by
    rw [List.nodup_cons] at hn
    have hx := hs x (by simp)
    have := nodup_len l1 (l2.erase x) hn.2 (fun y hy => (List.mem_erase_of_ne (by rintro rfl; exact hn.1 hy)).2 (hs y (by simp [hy])))
    rw [List.length_erase_of_mem hx] at this
    have h0 : 0 < l2.length := List.length_pos_of_mem hx
    simp only [List.length_cons]
    omega
theorem nodup_all (l1 l2 : List Int) (hn : l1.Nodup) (hs : ∀ x ∈ l1, x ∈ l2) (hl : l1.length = l2.length) : ∀ x ∈ l2, x ∈ l1 := by
  intro x hx
  by_cases h : x ∈ l1
  · exact h
  · have := nodup_len (x :: l1) l2 (List.nodup_cons.2 ⟨h, hn⟩) (by intro y hy; rcases List.mem_cons.1 hy with rfl | hy; exact hx; exact hs y hy)
    simp at this; omega
theorem mget_some_iff (m : IM) (k : Int) : k ∈ m.map (·.1) ↔ ∃ v, mget m k = some v := by
  constructor
  · intro h
    cases hg : mget m k with
    | some v => exact ⟨v, rfl⟩
    | none =>
      unfold mget at hg
      simp at hg
      obtain ⟨p, hp, rfl⟩ := List.mem_map.1 h
      exact (hg p.1 p.2 hp rfl).elim
  · rintro ⟨v, h⟩
    by_cases hk : k ∈ m.map (·.1)
    · exact hk
    · rw [mget_none_of m k hk] at h; cases h
theorem mget_mem {m : IM} (hn : (m.map (·.1)).Nodup) {p : Int × Value} (hp : p ∈ m) : mget m p.1 = some p.2 := by
  induction m with
  | nil => simp at hp
  | cons q m ih =>
    simp only [List.map_cons, List.nodup_cons] at hn
    rcases List.mem_cons.1 hp with rfl | hp
    · simp [mget]
    · have e : (q.1 == p.1) = false := by
        simp; intro e; exact hn.1 (e ▸ List.mem_map.2 ⟨p, hp, rfl⟩)
      have := ih hn.2 hp
      simp only [mget, List.find?_cons, e] at this ⊢
      exact this
theorem Ent.key {w : World} {m : IM} {d : Int → List Int} (h : ∀ k, Ent w (mget m k) (d k)) (k : Int) : k ∈ m.map (·.1) ↔ d k ≠ zeros := by
  rw [mget_some_iff]
  have := h k
  cases hg : mget m k with
  | none => rw [hg] at this; simp only [Ent] at this; simp [this]
  | some v =>
    rw [hg] at this
    obtain ⟨ad, c, rfl, h2, h3, h4⟩ := this
    simp only [Option.some.injEq, exists_eq', ne_eq, true_iff]
    intro e; rw [e, allz_zeros] at h4; cases h4
/-- as many keys, and all of the first's are in the second alike -/
theorem same_of {w : World} {m1 m2 : IM} {d1 d2 : Int → List Int} (h1 : ∀ k, Ent w (mget m1 k) (d1 k)) (h2 : ∀ k, Ent w (mget m2 k) (d2 k)) (n1 : (m1.map (·.1)).Nodup) (hl : m1.length = m2.length)
    (hs : ∀ p ∈ m1, d1 p.1 = d2 p.1) : d1 = d2 := by
  have hk : ∀ x ∈ m1.map (·.1), x ∈ m2.map (·.1) := by
    intro x hx
    have hx1 := (Ent.key h1 x).1 hx
    obtain ⟨p, hp, rfl⟩ := List.mem_map.1 hx
    exact (Ent.key h2 p.1).2 (hs p hp ▸ hx1)
  have hr := nodup_all _ _ n1 hk (by simpa using hl)
  funext k
  by_cases hkm : k ∈ m1.map (·.1)
  · obtain ⟨p, hp, rfl⟩ := List.mem_map.1 hkm; exact hs p hp
  · have e1 : d1 k = zeros := by
      by_cases e : d1 k = zeros
      · exact e
      · exact (hkm ((Ent.key h1 k).2 e)).elim
    have e2 : d2 k = zeros := by
      by_cases e : d2 k = zeros
      · exact e
      · exact (hkm (hr k ((Ent.key h2 k).2 e))).elim
    rw [e1, e2]
theorem len_of_same {w : World} {m1 m2 : IM} {d : Int → List Int} (h1 : ∀ k, Ent w (mget m1 k) (d k)) (h2 : ∀ k, Ent w (mget m2 k) (d k)) (n1 : (m1.map (·.1)).Nodup) (n2 : (m2.map (·.1)).Nodup) : m1.length = m2.length := by
  have a := nodup_len _ _ n1 (fun x hx => (Ent.key h2 x).2 ((Ent.key h1 x).1 hx))
  have b := nodup_len _ _ n2 (fun x hx => (Ent.key h1 x).2 ((Ent.key h2 x).1 hx))
  simp at a b; omega
end Go.Proofs.Ytdgnhimiamchmaa
