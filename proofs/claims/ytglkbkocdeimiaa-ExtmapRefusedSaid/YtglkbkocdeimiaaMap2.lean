import Derived.Test.YtglkbkocdeimiaaMap
namespace Go.Proofs.Ytglkbkocdeimiaa
open Go.RowKit
open Go.ChangeMaps (setBlock)

theorem pv_keys {es : List MapEntry} {l : IM} (h : es.map kv = l.map pv) : es.map (·.key) = (l.map (·.1)).map (Value.int .i64) := by
  have := congrArg (List.map Prod.fst) h
  simpa [kv, pv, Function.comp_def] using this
theorem nodup_int {l : List Int} : (l.map (Value.int .i64)).Nodup ↔ l.Nodup := by
  constructor
  · exact fun h => List.Pairwise.of_map (S := (· ≠ ·)) _ (fun a b hne e => hne (by rw [e])) h
  · exact fun h => List.Pairwise.map _ (fun a b hne e => hne (by injection e)) h
theorem nodup_len : ∀ (l1 l2 : List Int), l1.Nodup → (∀ x ∈ l1, x ∈ l2) → l1.length ≤ l2.length
  | [], _, _, _ => Nat.zero_le _
  | x :: l1, l2, hn, hs => by
    rw [List.nodup_cons] at hn
    have hx := hs x (by simp)
    have := nodup_len l1 (l2.erase x) hn.2 (fun y hy => (List.mem_erase_of_ne (by rintro rfl; exact hn.1 hy)).2 (hs y (by simp [hy])))
    rw [List.length_erase_of_mem hx] at this
    have h0 : 0 < l2.length := List.length_pos_of_mem hx
    simp only [List.length_cons]
    omega
theorem filter_modify {α : Type} (p : α → Bool) (f : α → α) : ∀ (l : List α) (j : Nat), (∀ x, l[j]? = some x → p x = false ∧ p (f x) = false) → (l.modify j f).filter p = l.filter p
  | [], j, _ => by simp
  | x :: l, 0, h => by
    obtain ⟨h1, h2⟩ := h x rfl
    simp [List.modify_zero_cons, List.filter_cons, h1, h2]
  | x :: l, j + 1, h => by
    have := filter_modify p f l j (fun y hy => h y (by simpa using hy))
    simp [List.modify_succ_cons, List.filter_cons, this]
section
variable {w : World} {it r : Nat} {m left : IM}
theorem RangeIs.keys (h : RangeIs w it r m left) : (left.map (·.1)).Nodup := by
  obtain ⟨es, clock, since, seen, c0, h1, h2, h3, h4, h5, h6, h7, h8, hsk, h9⟩ := h
  rw [← nodup_int, ← pv_keys h9]
  have hs : (leftOf es seen).toList.Sublist es.toList := by unfold leftOf; rw [Array.toList_filter]; exact List.filter_sublist
  refine List.Sublist.nodup (hs.map _) ?_
  rw [pv_keys h2, nodup_int]; exact h3
theorem nodup_of_keys {l : IM} (h : (l.map (·.1)).Nodup) : l.Nodup := List.Pairwise.of_map (S := (· ≠ ·)) _ (fun a b hne e => hne (by rw [e])) h
theorem range_perm {p : Int × Value} {left' : IM} (h1 : (left.map (·.1)).Nodup) (h2 : (left'.map (·.1)).Nodup) (hp : p ∈ left) (ha : ∀ q, q ∈ left → q = p ∨ q ∈ left') (hb : ∀ q, q ∈ left' → q ∈ left) (hl : left'.length < left.length) :
    left.Perm (p :: left') := by
  have n1 := nodup_of_keys h1
  have n2 := nodup_of_keys h2
  have hp' : p ∉ left' := by
    intro hin
    have := nodup_len (left.map (·.1)) (left'.map (·.1)) h1 (fun x hx => by
      obtain ⟨q, hq, rfl⟩ := List.mem_map.1 hx
      rcases ha q hq with rfl | h
      · exact List.mem_map.2 ⟨_, hin, rfl⟩
      · exact List.mem_map.2 ⟨q, h, rfl⟩)
    simp at this
    omega
  rw [List.perm_ext_iff_of_nodup n1 (List.nodup_cons.2 ⟨hp', n2⟩)]
  intro q
  constructor
  · intro hq
    rcases ha q hq with rfl | h
    · simp
    · simp [h]
  · intro hq
    rcases List.mem_cons.1 hq with rfl | h
    · exact hp
    · exact hb q h
end
section
variable {P : Program} {T K E : TypeId} {w : World} {it r : Nat} {m left : IM} {k : Int} {v : Value}
/-- a key that has come is written anew while the range goes on -/
theorem range_update (h : RangeIs w it r m left) (hk : k ∈ m.map (·.1)) (hn : k ∉ left.map (·.1)) (hT : P.underlying T = some (.map K E)) (hK : P.underlying K = some (.int .i64)) :
    ∃ o, (Instr.mapUpdate T (.map (some r)) (.int .i64 k) v).run P w = .ok () (setBlock w r o) ∧ RangeIs (setBlock w r o) it r (mput m k v) left := by
  have hlt := h.map.lt
  have hne := h.ne
  have hnd := nodup_put m k v h.map.nodup
  obtain ⟨es, clock, since, seen, c0, hb, hm, hnn, hbn, hbc, h6, h7, h8, hsk, h9⟩ := h
  have hf := MapKept.run_findKey (P := P) (w := w) hK (findNow_is k es.toList m 0 hm)
  simp only [Instr.mapUpdate, Sem.run_bind, run_underlying hT, Result.andThen, getObj, Sem.run, hb, checkKey_int hK]
  cases hj : m.findIdx? (fun p => p.1 == k) with
  | none =>
    exfalso
    obtain ⟨p, hp, rfl⟩ := List.mem_map.1 hk
    rw [List.findIdx?_eq_none_iff] at hj
    have := hj p hp
    simp at this
  | some j =>
    obtain ⟨hj1, hj2⟩ := idx_lt hj
    rw [hj] at hf
    have hjl : j < es.toList.length := by have := congrArg List.length hm; simp at this; simpa [this] using hj1
    have hjs : j < es.size := by simpa using hjl
    have hkj : (es[j]).key = .int .i64 k := by
      have h1 : (es.toList.map kv)[j]? = (m.map pv)[j]? := by rw [hm]
      simp only [List.getElem?_map] at h1
      rw [List.getElem?_eq_getElem hj1] at h1 hj2
      rw [List.getElem?_eq_getElem hjl] at h1
      simp [kv, pv] at h1 hj2
      simp [h1.1, hj2]
    have hke : (es[j]?).map (·.key) = some (.int .i64 k) := by rw [Array.getElem?_eq_getElem hjs]; simp [hkj]
    have hks : (Instr.keyThatStays (.int .i64 k) (.int .i64 k)).run P w = .ok (.int .i64 k) w := by simp [Instr.keyThatStays, Instr.sameBits]
    simp only [hf, List.getElem?_eq_getElem hj1, Option.bind_some, Option.map_some, Nat.zero_add, hke, Option.getD_some, Sem.run_bind, hks, Result.andThen]
    -- the entry has been seen
    have hseen : seen.contains (es[j]).born = true := by
      cases hc : seen.contains (es[j]).born with
      | true => rfl
      | false =>
        exfalso
        have hin : es[j] ∈ (leftOf es seen).toList := by
          unfold leftOf
          simp only [Array.toList_filter, List.mem_filter]
          exact ⟨by simp, by rw [hc]; rfl⟩
        obtain ⟨p, hp, hkp, _⟩ := sub_pairs h9 hin
        rw [hkj] at hkp
        have : p.1 = k := by injection hkp with _ e; exact e.symm
        exact hn (List.mem_map.2 ⟨p, hp, this⟩)
    have hborn : (es.modify j fun e => { e with key := .int .i64 k, val := v }).toList.map (·.born) = es.toList.map (·.born) := by
      rw [Array.toList_modify]
      apply List.ext_getElem?
      intro i
      simp only [List.getElem?_map, List.getElem?_modify]
      cases es.toList[i]? with
      | none => rfl
      | some e => by_cases e1 : j = i <;> simp [e1]
    have hmem : ∀ e ∈ (es.modify j fun e => { e with key := .int .i64 k, val := v }).toList, ∃ e0 ∈ es.toList, e.born = e0.born := by
      intro e he
      have : e.born ∈ (es.modify j fun e => { e with key := .int .i64 k, val := v }).toList.map (·.born) := List.mem_map.2 ⟨e, he, rfl⟩
      rw [hborn] at this
      obtain ⟨e0, h0, h1⟩ := List.mem_map.1 this
      exact ⟨e0, h0, h1.symm⟩
    have hleft : (leftOf (es.modify j fun e => { e with key := .int .i64 k, val := v }) seen).toList = (leftOf es seen).toList := by
      unfold leftOf
      rw [Array.toList_filter, Array.toList_filter, Array.toList_modify]
      refine filter_modify _ _ _ _ (fun x hx => ?_)
      rw [List.getElem?_eq_getElem hjl] at hx
      cases hx
      have hsb : seen.contains (es.toList[j]).born = true := by simpa using hseen
      exact ⟨by rw [hsb]; rfl, by show (!seen.contains (es.toList[j]).born) = false; rw [hsb]; rfl⟩
    refine ⟨_, setObj_map hb, _, clock, since, seen, c0, setBlock_same hlt, ?_, hnd, by rw [hborn]; exact hbn, ?_, (setBlock_other hne).trans h6, ?_, h8, hsk, by rw [hleft]; exact h9⟩
    · rw [mput_some _ _ _ _ hj, Array.toList_modify, List.map_set, ← hm]
      apply List.ext_getElem?
      intro i
      simp only [List.getElem?_map, List.getElem?_modify, List.getElem?_set]
      by_cases e : j = i
      · subst e; simp [hjl, List.getElem?_eq_getElem hjl, kv, pv]
        simpa using hjl
      · simp [e]
    · intro e he
      obtain ⟨e0, h0, h1⟩ := hmem e he
      rw [h1]; exact hbc e0 h0
    · intro e he
      obtain ⟨e0, h0, h1⟩ := hmem e he
      rw [h1]; exact h7 e0 h0
end
end Go.Proofs.Ytglkbkocdeimiaa
