import Derived.Test.YtdgnhimiamchmaaFx
import Derived.Test.YtdgnhimiamchmaaEq
import Derived.Test.YtdgnhimiamchmaaMa
namespace Go.Proofs.Ytdgnhimiamchmaa
open Go.RowKit
open BigFrame Lib

/-- those that wrote up to a begin -/
def aheadL (l : List HistV) (os : List Nat) (h : HistV) : List HistV := (os.filter (fun k => decide ((hget l k).tm ≤ h.bg))).map (hget l)
def sawH (n : Int) (l : List HistV) (os : List Nat) (h : HistV) : Bool := h.rl.all fun r => r.own || decide ((replay n (aheadL l os h)).2 r.lba = r.d)
/-- all data are bytes -/
def HB8 (h : HistV) : Prop := (∀ r ∈ h.rl, B8 r.d) ∧ (∀ p ∈ h.pl, B8 p.d)

theorem mayPuts_code (n : Int) : ∀ (l : List PutV) (seen : List Int), mayPuts n seen l = true → anyBad n l = false ∧ argBad seen l = false
  | [], _, _ => ⟨rfl, rfl⟩
  | p :: l, seen, h => by
    rw [mayPuts, Bool.and_eq_true, Bool.and_eq_true] at h
    have ih := mayPuts_code n l _ h.2.2
    have h1 : decide (p.lba ∈ seen) = false := by simpa using h.1
    have h2 := h.2.1
    unfold blockOk at h2
    simp only [Bool.and_eq_true, decide_eq_true_eq] at h2
    refine ⟨?_, ?_⟩
    · show (p :: l).any (fun p => !lbaOk n p) = false
      rw [List.any_cons, show l.any (fun p => !lbaOk n p) = false from ih.1]
      have : lbaOk n p = true := decide_eq_true ⟨h2.1.1, h2.1.2⟩
      rw [this]; rfl
    · rw [argBad, h1, ih.2, h2.2]; rfl
theorem mayPuts_zero {n : Int} {l : List PutV} (h : mayPuts n [] l = true) : code n l = 0 := by
  have := mayPuts_code n l [] h
  unfold code
  rw [this.1, this.2]; rfl
theorem runAll_zero (n : Int) : ∀ (ps : List (List PutV)) (d : Int → List Int), (∀ p ∈ ps, code n p = 0) → (runAll n d ps).1 = 0
  | [], _, _ => rfl
  | p :: ps, d, h => by
    rw [runAll, if_pos (h p (by simp))]
    exact runAll_zero n ps _ (fun q hq => h q (by simp [hq]))
theorem upd_B8 : ∀ (l : List PutV) (d : Int → List Int), (∀ p ∈ l, B8 p.d) → (∀ k, B8 (d k)) → ∀ k, B8 (upd d l k)
  | [], _, _, h => h
  | p :: l, d, hp, h => by
    refine upd_B8 l _ (fun q hq => hp q (by simp [hq])) (fun k => ?_)
    unfold put1
    split
    · exact hp p (by simp)
    · exact h k
theorem runAll_B8 (n : Int) : ∀ (ps : List (List PutV)) (d : Int → List Int), (∀ p ∈ ps, ∀ q ∈ p, B8 q.d) → (∀ k, B8 (d k)) → ∀ k, B8 ((runAll n d ps).2 k)
  | [], _, _, h => h
  | p :: ps, d, hp, h => by
    rw [runAll]
    split
    · exact runAll_B8 n ps _ (fun q hq => hp q (by simp [hq])) (upd_B8 p d (hp p (by simp)) h)
    · exact h
theorem B8_zeros : B8 zeros := fun x hx => by
  have : x = 0 := List.eq_of_mem_replicate hx
  omega
theorem replay_facts {n : Int} {l : List HistV} (hm : ∀ x ∈ l, mayPuts n [] x.pl = true) (hb : ∀ x ∈ l, HB8 x) : (replay n l).1 = 0 ∧ ∀ k, B8 ((replay n l).2 k) := by
  have hmem : ∀ p ∈ (stab HistV.tm (wroteL l)).map HistV.pl, ∃ x ∈ l, x.pl = p := by
    intro p hp
    obtain ⟨x, hx, rfl⟩ := List.mem_map.1 hp
    have := (stab_perm _ _).mem_iff.1 hx
    exact ⟨x, (List.mem_filter.1 this).1, rfl⟩
  refine ⟨runAll_zero n _ _ (fun p hp => ?_), runAll_B8 n _ _ (fun p hp q hq => ?_) (fun _ => B8_zeros)⟩
  · obtain ⟨x, hx, rfl⟩ := hmem p hp
    exact mayPuts_zero (hm x hx)
  · obtain ⟨x, hx, rfl⟩ := hmem p hp
    exact (hb x hx).2 q hq
theorem upd_len : ∀ (l : List PutV) (d : Int → List Int), (∀ p ∈ l, p.d.length = 40) → (∀ k, (d k).length = 40) → ∀ k, (upd d l k).length = 40
  | [], _, _, h => h
  | p :: l, d, hp, h => by
    refine upd_len l _ (fun q hq => hp q (by simp [hq])) (fun k => ?_)
    unfold put1
    split
    · exact hp p (by simp)
    · exact h k
theorem runAll_len (n : Int) : ∀ (ps : List (List PutV)) (d : Int → List Int), (∀ k, (d k).length = 40) → ∀ k, ((runAll n d ps).2 k).length = 40
  | [], _, h => h
  | p :: ps, d, h => by
    rw [runAll]
    split
    · rename_i hc
      exact runAll_len n ps _ (upd_len p d (code_len hc) h)
    · exact h
theorem aheadL_mem {l : List HistV} {os : List Nat} {h x : HistV} (ho : ∀ k ∈ os, k < l.length) (hx : x ∈ aheadL l os h) : x ∈ l := by
  obtain ⟨k, hk, rfl⟩ := List.mem_map.1 hx
  have := ho k (List.mem_filter.1 hk).1
  rw [hget_of (List.getElem?_eq_getElem this)]
  exact List.getElem_mem _
theorem aheadL_len (l : List HistV) (os : List Nat) (h : HistV) : (aheadL l os h).length ≤ os.length := by
  unfold aheadL
  rw [List.length_map]
  exact List.length_filter_le _ _
/-- the first i of the order -/
def aheadN (l : List HistV) (os : List Nat) (h : HistV) (i : Nat) : List HistV := aheadL l (os.take i) h
theorem aheadN_snoc {l : List HistV} {os : List Nat} {h : HistV} {i k : Nat} (hk : os[i]? = some k) : aheadN l os h (i + 1) = aheadN l os h i ++ if (hget l k).tm ≤ h.bg then [hget l k] else [] := by
  unfold aheadN aheadL
  rw [List.take_add_one, hk, List.filter_append, List.map_append]
  congr 1
  by_cases c : (hget l k).tm ≤ h.bg
  · rw [if_pos c]; simp [List.filter_cons, c]
  · rw [if_neg c]; simp [List.filter_cons, c]
end Go.Proofs.Ytdgnhimiamchmaa
