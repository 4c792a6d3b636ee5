import Derived.Test.YtdgnhimiamchmaaLib
import Derived.Maps.RangeRun
import Derived.MapKept
namespace Go.Proofs.Ytdgnhimiamchmaa
open Go.RowKit
open Go.ChangeMaps (setBlock)

/-! maps with int keys -/
abbrev IM := List (Int × Value)
def kv (e : MapEntry) : Value × Value := (e.key, e.val)
def pv (p : Int × Value) : Value × Value := (.int .i64 p.1, p.2)
def mget (m : IM) (k : Int) : Option Value := (m.find? fun p => p.1 == k).map (·.2)
def mput : IM → Int → Value → IM
  | [], k, v => [(k, v)]
  | p :: m, k, v => if p.1 = k then (k, v) :: m else p :: mput m k v
def mdel : IM → Int → IM
  | [], _ => []
  | p :: m, k => if p.1 = k then m else p :: mdel m k

def MapIs (w : World) (r : Nat) (m : IM) : Prop :=
  ∃ es clock, w.heap[r]? = some (.map es clock) ∧ es.toList.map kv = m.map pv ∧ (m.map (·.1)).Nodup ∧ (es.toList.map (·.born)).Nodup ∧ ∀ e ∈ es.toList, e.born < clock

theorem MapIs.lt {w : World} {r : Nat} {m : IM} (h : MapIs w r m) : r < w.heap.size := by
  obtain ⟨es, clock, h1, _⟩ := h; exact lt_heap h1
theorem MapIs.of_eq {w w' : World} {r : Nat} {m : IM} (h : MapIs w r m) (e : w'.heap[r]? = w.heap[r]?) : MapIs w' r m := by
  obtain ⟨es, clock, h1, h2⟩ := h; exact ⟨es, clock, e.trans h1, h2⟩
theorem MapIs.new (w : World) : MapIs (w.alloc (.map #[] 0)) w.heap.size [] := ⟨#[], 0, alloc_new rfl, rfl, by simp, by simp, by simp⟩
theorem MapIs.nodup {w : World} {r : Nat} {m : IM} (h : MapIs w r m) : (m.map (·.1)).Nodup := by obtain ⟨_, _, _, _, h3, _⟩ := h; exact h3

theorem findNow_is (k : Int) : ∀ (es : List MapEntry) (m : IM) (i : Nat), es.map kv = m.map pv →
    Instr.findNow (.int .i64) (.int .i64 k) es i = some ((m.findIdx? fun p => p.1 == k).bind fun j => (m[j]?).map fun p => (i + j, p.2)) := by
  intro es
  induction es with
  | nil => intro m i h; cases m with
    | nil => rfl
    | cons p m => simp at h
  | cons e es ih =>
    intro m i h
    cases m with
    | nil => simp at h
    | cons p m =>
      simp only [List.map_cons, List.cons.injEq] at h
      obtain ⟨h1, h2⟩ := h
      have hk : e.key = .int .i64 p.1 := congrArg Prod.fst h1
      have hv : e.val = p.2 := congrArg Prod.snd h1
      simp only [Instr.findNow, hk, Instr.sameNow, if_true]
      by_cases hkk : k = p.1
      · subst hkk
        simp [List.findIdx?_cons, hv]
      · have e1 : (k == p.1) = false := by simpa using hkk
        have e2 : (p.1 == k) = false := by simp; exact fun h => hkk h.symm
        rw [e1]
        simp only [ih m (i + 1) h2, List.findIdx?_cons, e2, Bool.false_eq_true, if_false]
        cases hf : m.findIdx? fun p => p.1 == k with
        | none => simp
        | some j => simp [Nat.add_assoc, Nat.add_comm 1 j]

theorem idx_get (k : Int) : ∀ (m : IM), ((m.findIdx? fun p => p.1 == k).bind fun j => (m[j]?).map fun p => p.2) = mget m k := by
  intro m
  induction m with
  | nil => rfl
  | cons p m ih =>
    simp only [List.findIdx?_cons, mget, List.find?_cons]
    cases h : p.1 == k with
    | true => simp
    | false =>
      simp only [Bool.false_eq_true, if_false]
      rw [← show mget m k = (m.find? fun p => p.1 == k).map (·.2) from rfl, ← ih]
      cases hf : m.findIdx? fun p => p.1 == k <;> simp

section
variable {P : Program} {T K E ty : TypeId} {w : World} {r : Nat} {m : IM} {k : Int} {v z : Value}

theorem checkKey_int (hK : P.underlying K = some (.int .i64)) (b : Bool) : (Instr.checkKey b 10000 K (.int .i64 k)).run P w = .ok () w := by
  unfold Instr.checkKey
  simp [run_underlying hK]

theorem map_lookup (h : MapIs w r m) (hT : P.underlying T = some (.map K E)) (hK : P.underlying K = some (.int .i64)) (hz : (zeroValue E).run P w = .ok z w) :
    (Instr.lookup T (.map (some r)) (.int .i64 k) false).run P w = .ok ((mget m k).getD z) w := by
  obtain ⟨es, clock, hb, hm, _⟩ := h
  have hf := MapKept.run_findKey (P := P) (w := w) hK (findNow_is k es.toList m 0 hm)
  simp only [Instr.lookup, Sem.run_bind, run_underlying hT, Result.andThen, getObj, Sem.run, hb, checkKey_int hK, ← idx_get]
  cases hj : m.findIdx? (fun p => p.1 == k) with
  | none => rw [hj] at hf; simp [hf, hz]
  | some j =>
    have hlt : j < m.length := by
      have := List.findIdx?_eq_some_iff_getElem.1 hj
      exact this.1
    rw [hj] at hf
    simp [hf, List.getElem?_eq_getElem hlt]

theorem map_lookup_ok (h : MapIs w r m) (hT : P.underlying T = some (.map K E)) (hK : P.underlying K = some (.int .i64)) (hz : (zeroValue E).run P w = .ok z w) :
    (Instr.lookup T (.map (some r)) (.int .i64 k) true).run P w = .ok (.tuple #[(mget m k).getD z, .bool (mget m k).isSome]) w := by
  obtain ⟨es, clock, hb, hm, _⟩ := h
  have hf := MapKept.run_findKey (P := P) (w := w) hK (findNow_is k es.toList m 0 hm)
  simp only [Instr.lookup, Sem.run_bind, run_underlying hT, Result.andThen, getObj, Sem.run, hb, checkKey_int hK, ← idx_get]
  cases hj : m.findIdx? (fun p => p.1 == k) with
  | none => rw [hj] at hf; simp [hf, hz]
  | some j =>
    have hlt : j < m.length := by
      have := List.findIdx?_eq_some_iff_getElem.1 hj
      exact this.1
    rw [hj] at hf
    simp [hf, List.getElem?_eq_getElem hlt]

theorem mput_some (k : Int) (v : Value) : ∀ (m : IM) (j : Nat), (m.findIdx? fun p => p.1 == k) = some j → mput m k v = m.set j (k, v) := by
  intro m
  induction m with
  | nil => intro j h; simp at h
  | cons p m ih =>
    intro j h
    simp only [List.findIdx?_cons] at h
    cases hb : p.1 == k with
    | true =>
      rw [hb] at h; simp at h; subst h
      simp only [mput]; rw [if_pos (by simpa using hb)]; rfl
    | false =>
      rw [hb] at h; simp only [Bool.false_eq_true, if_false, Option.map_eq_some_iff] at h
      obtain ⟨i, hi, rfl⟩ := h
      simp only [mput]; rw [if_neg (by simpa using hb), ih i hi]; rfl
theorem mput_none (k : Int) (v : Value) : ∀ (m : IM), (m.findIdx? fun p => p.1 == k) = none → mput m k v = m ++ [(k, v)] := by
  intro m
  induction m with
  | nil => intro _; rfl
  | cons p m ih =>
    intro h
    simp only [List.findIdx?_cons] at h
    cases hb : p.1 == k with
    | true => rw [hb] at h; simp at h
    | false =>
      rw [hb] at h; simp only [Bool.false_eq_true, if_false, Option.map_eq_none_iff] at h
      simp only [mput]; rw [if_neg (by simpa using hb), ih h]; rfl
theorem mdel_some (k : Int) : ∀ (m : IM) (j : Nat), (m.findIdx? fun p => p.1 == k) = some j → mdel m k = m.eraseIdx j := by
  intro m
  induction m with
  | nil => intro j h; simp at h
  | cons p m ih =>
    intro j h
    simp only [List.findIdx?_cons] at h
    cases hb : p.1 == k with
    | true =>
      rw [hb] at h; simp at h; subst h
      simp only [mdel]; rw [if_pos (by simpa using hb)]; rfl
    | false =>
      rw [hb] at h; simp only [Bool.false_eq_true, if_false, Option.map_eq_some_iff] at h
      obtain ⟨i, hi, rfl⟩ := h
      simp only [mdel]; rw [if_neg (by simpa using hb), ih i hi]; rfl
theorem mdel_none (k : Int) : ∀ (m : IM), (m.findIdx? fun p => p.1 == k) = none → mdel m k = m := by
  intro m
  induction m with
  | nil => intro _; rfl
  | cons p m ih =>
    intro h
    simp only [List.findIdx?_cons] at h
    cases hb : p.1 == k with
    | true => rw [hb] at h; simp at h
    | false =>
      rw [hb] at h; simp only [Bool.false_eq_true, if_false, Option.map_eq_none_iff] at h
      simp only [mdel]; rw [if_neg (by simpa using hb), ih h]
theorem mget_put (m : IM) (k j : Int) (v : Value) : mget (mput m k v) j = if j = k then some v else mget m j := by
  induction m with
  | nil =>
    by_cases h : j = k
    · subst h; simp [mput, mget]
    · rw [if_neg h]
      have e : (k == j) = false := by simp; exact fun e => h e.symm
      simp [mput, mget, e]
  | cons p m ih =>
    simp only [mput]
    by_cases h : p.1 = k
    · rw [if_pos h]
      by_cases e : j = k
      · subst e; simp [mget]
      · simp only [mget, List.find?_cons, if_neg e]
        have e1 : (k == j) = false := by simp; exact fun h => e h.symm
        have e2 : (p.1 == j) = false := by rw [h]; exact e1
        rw [e1, e2]
    · rw [if_neg h]
      simp only [mget, List.find?_cons] at ih ⊢
      by_cases e : p.1 = j
      · have e1 : (p.1 == j) = true := by simpa using e
        rw [e1, if_neg (by rintro rfl; exact h e)]
      · have e1 : (p.1 == j) = false := by simpa using e
        rw [e1]; exact ih
theorem mget_none_of (m : IM) (k : Int) (h : k ∉ m.map (·.1)) : mget m k = none := by
  induction m with
  | nil => rfl
  | cons p m ih =>
    simp only [List.map_cons, List.mem_cons, not_or] at h
    have e1 : (p.1 == k) = false := by simp; exact fun e => h.1 e.symm
    have := ih h.2
    simp only [mget, List.find?_cons, e1] at this ⊢
    exact this
theorem mget_del (m : IM) (k j : Int) (hn : (m.map (·.1)).Nodup) : mget (mdel m k) j = if j = k then none else mget m j := by
  induction m with
  | nil => simp [mdel, mget]
  | cons p m ih =>
    simp only [List.map_cons, List.nodup_cons] at hn
    simp only [mdel]
    by_cases h : p.1 = k
    · rw [if_pos h]
      by_cases e : j = k
      · subst e; rw [if_pos rfl]; exact mget_none_of _ _ (h ▸ hn.1)
      · rw [if_neg e]
        have e2 : (p.1 == j) = false := by simp; rw [h]; exact fun h => e h.symm
        simp only [mget, List.find?_cons, e2]
    · rw [if_neg h]
      have ih := ih hn.2
      simp only [mget, List.find?_cons] at ih ⊢
      by_cases e : p.1 = j
      · have e1 : (p.1 == j) = true := by simpa using e
        rw [e1, if_neg (by rintro rfl; exact h e)]
      · have e1 : (p.1 == j) = false := by simpa using e
        rw [e1]; exact ih
theorem keys_put (m : IM) (k : Int) (v : Value) : ∀ j, j ∈ (mput m k v).map (·.1) ↔ j = k ∨ j ∈ m.map (·.1) := by
  intro j
  induction m with
  | nil => simp [mput]
  | cons p m ih =>
    simp only [mput]
    by_cases h : p.1 = k
    · rw [if_pos h]; simp [h]
    · rw [if_neg h]; simp only [List.map_cons, List.mem_cons, ih]
      constructor
      · rintro (h1 | h1 | h1) <;> simp [h1]
      · rintro (h1 | h1 | h1) <;> simp [h1]
theorem nodup_put (m : IM) (k : Int) (v : Value) (hn : (m.map (·.1)).Nodup) : ((mput m k v).map (·.1)).Nodup := by
  induction m with
  | nil => simp [mput]
  | cons p m ih =>
    simp only [List.map_cons, List.nodup_cons] at hn
    simp only [mput]
    by_cases h : p.1 = k
    · rw [if_pos h]; simp only [List.map_cons, List.nodup_cons]; exact ⟨h ▸ hn.1, hn.2⟩
    · rw [if_neg h]; simp only [List.map_cons, List.nodup_cons]
      refine ⟨?_, ih hn.2⟩
      rw [keys_put]
      rintro (h1 | h1)
      · exact h h1
      · exact hn.1 h1
theorem mdel_sub (m : IM) (k : Int) : (mdel m k).Sublist m := by
  induction m with
  | nil => exact List.Sublist.refl _
  | cons p m ih =>
    simp only [mdel]
    split
    · exact List.sublist_cons_self _ _
    · exact ih.cons_cons _
theorem nodup_del (m : IM) (k : Int) (hn : (m.map (·.1)).Nodup) : ((mdel m k).map (·.1)).Nodup := ((mdel_sub m k).map _).nodup hn

theorem idx_lt {m : IM} {j : Nat} (hj : (m.findIdx? fun p => p.1 == k) = some j) : j < m.length ∧ (m[j]?).map (·.1) = some k := by
  obtain ⟨h1, h2, _⟩ := List.findIdx?_eq_some_iff_getElem.1 hj
  exact ⟨h1, by rw [List.getElem?_eq_getElem h1]; simpa using h2⟩

theorem map_erase {α β : Type} (f : α → β) (l : List α) (j : Nat) : (l.eraseIdx j).map f = (l.map f).eraseIdx j := by
  simp [List.eraseIdx_eq_take_drop_succ, List.map_take, List.map_drop]

theorem setObj_map {es es' : Array MapEntry} {c c' : Nat} (hb : w.heap[r]? = some (.map es c)) : (setObj r (.map es' c')).run P w = .ok () (setBlock w r (.map es' c')) := by
  simp [setObj, Sem.run, hb, setBlock]
theorem setBlock_same {o : Obj} (hr : r < w.heap.size) : (setBlock w r o).heap[r]? = some o := by simp [setBlock, hr]
theorem setBlock_other {o : Obj} {k : Nat} (hk : k ≠ r) : (setBlock w r o).heap[k]? = w.heap[k]? := by
  simp only [setBlock, Array.getElem?_setIfInBounds]; rw [if_neg (fun h => hk h.symm)]
theorem setBlock_chg (o : Obj) : Chg (· = r) w (setBlock w r o) := ⟨rfl, rfl, rfl, by simp [setBlock], fun k _ hk => setBlock_other hk⟩
theorem setBlock_size (o : Obj) : (setBlock w r o).heap.size = w.heap.size := by simp [setBlock]

theorem map_update (h : MapIs w r m) (hT : P.underlying T = some (.map K E)) (hK : P.underlying K = some (.int .i64)) :
    ∃ o, (Instr.mapUpdate T (.map (some r)) (.int .i64 k) v).run P w = .ok () (setBlock w r o) ∧ MapIs (setBlock w r o) r (mput m k v) := by
  have hlt := h.lt
  have hnd := nodup_put m k v h.nodup
  obtain ⟨es, clock, hb, hm, _, hbn, hbc⟩ := h
  have hf := MapKept.run_findKey (P := P) (w := w) hK (findNow_is k es.toList m 0 hm)
  simp only [Instr.mapUpdate, Sem.run_bind, run_underlying hT, Result.andThen, getObj, Sem.run, hb, checkKey_int hK]
  cases hj : m.findIdx? (fun p => p.1 == k) with
  | none =>
    rw [hj] at hf
    simp only [hf, Option.bind_none]
    refine ⟨_, setObj_map hb, _, _, setBlock_same hlt, ?_, hnd, ?_, ?_⟩
    · rw [mput_none _ _ _ hj]; simp [hm, kv, pv]
    · simp only [Array.toList_push, List.map_append, List.map_cons, List.map_nil]
      rw [List.nodup_append]
      refine ⟨hbn, by simp, ?_⟩
      intro a ha b hb2
      simp at hb2
      obtain ⟨e, he, rfl⟩ := List.mem_map.1 ha
      have := hbc e he
      omega
    · intro e he
      simp at he
      rcases he with he | rfl
      · have := hbc e (by simpa using he); omega
      · simp
  | some j =>
    obtain ⟨hj1, hj2⟩ := idx_lt hj
    rw [hj] at hf
    have hjl : j < es.toList.length := by have := congrArg List.length hm; simp at this; simpa [this] using hj1
    have hke : (es[j]?).map (·.key) = some (.int .i64 k) := by
      have h1 : (es.toList.map kv)[j]? = (m.map pv)[j]? := by rw [hm]
      simp only [List.getElem?_map] at h1
      rw [List.getElem?_eq_getElem hj1] at h1 hj2
      rw [List.getElem?_eq_getElem hjl] at h1
      simp [kv, pv] at h1 hj2
      have hjs : j < es.size := by simpa using hjl
      rw [Array.getElem?_eq_getElem hjs]
      simp [h1.1, hj2]
    simp only [hf, List.getElem?_eq_getElem hj1, Option.bind_some, Option.map_some, Nat.zero_add, hke, Option.getD_some]
    have hks : (Instr.keyThatStays (.int .i64 k) (.int .i64 k)).run P w = .ok (.int .i64 k) w := by simp [Instr.keyThatStays, Instr.sameBits]
    simp only [hf, List.getElem?_eq_getElem hj1, Option.bind_some, Option.map_some, Nat.zero_add, hke, Option.getD_some, Sem.run_bind, hks, Result.andThen]
    refine ⟨_, setObj_map hb, _, _, setBlock_same hlt, ?_, hnd, ?_, ?_⟩
    · rw [mput_some _ _ _ _ hj, Array.toList_modify, List.map_set, ← hm]
      apply List.ext_getElem?
      intro i
      simp only [List.getElem?_map, List.getElem?_modify, List.getElem?_set]
      by_cases e : j = i
      · subst e; simp [hjl, List.getElem?_eq_getElem hjl, kv, pv]
        simpa using hjl
      · simp [e]
    · have : (es.modify j fun e => { e with key := .int .i64 k, val := v }).toList.map (·.born) = es.toList.map (·.born) := by
        rw [Array.toList_modify]
        apply List.ext_getElem?
        intro i
        simp only [List.getElem?_map, List.getElem?_modify]
        cases es.toList[i]? with
        | none => rfl
        | some e => by_cases e1 : j = i <;> simp [e1]
      rw [this]; exact hbn
    · intro e he
      rw [Array.toList_modify] at he
      obtain ⟨i, hi⟩ := List.getElem?_of_mem he
      rw [List.getElem?_modify] at hi
      cases hq : es.toList[i]? with
      | none => rw [hq] at hi; simp at hi
      | some e0 =>
        rw [hq] at hi
        have h0 := hbc e0 (List.mem_of_getElem? hq)
        by_cases e1 : j = i
        · simp [e1] at hi; subst hi; exact h0
        · simp [e1] at hi; subst hi; exact h0

theorem map_delete (h : MapIs w r m) (hT : P.underlying T = some (.map K E)) (hK : P.underlying K = some (.int .i64)) (k2 : TypeId) :
    ∃ o, (Builtin.delete_ #[T, k2] ty #[.map (some r), .int .i64 k]).run P w = .ok (.tuple #[]) (setBlock w r o) ∧ MapIs (setBlock w r o) r (mdel m k) := by
  have hlt := h.lt
  have hnd := nodup_del m k h.nodup
  obtain ⟨es, clock, hb, hm, _, hbn, hbc⟩ := h
  have hf := MapKept.run_findKey (P := P) (w := w) hK (findNow_is k es.toList m 0 hm)
  cases hj : m.findIdx? (fun p => p.1 == k) with
  | none =>
    rw [hj] at hf
    refine ⟨.map es clock, ?_, es, clock, setBlock_same hlt, by rw [mdel_none _ _ hj]; exact hm, hnd, hbn, hbc⟩
    simp [Builtin.delete_, run_underlying hT, getObj, Sem.run, hb, checkKey_int hK, hf, setObj_map hb, Result.andThen]
  | some j =>
    obtain ⟨hj1, hj2⟩ := idx_lt hj
    rw [hj] at hf
    refine ⟨.map (es.eraseIdxIfInBounds j) clock, ?_, _, _, setBlock_same hlt, ?_, hnd, ?_, ?_⟩
    · simp [Builtin.delete_, run_underlying hT, getObj, Sem.run, hb, checkKey_int hK, hf, setObj_map hb, Result.andThen, List.getElem?_eq_getElem hj1]
    · rw [mdel_some _ _ _ hj, Array.toList_eraseIdxIfInBounds, map_erase, map_erase, hm]
    · rw [Array.toList_eraseIdxIfInBounds, map_erase]
      exact (List.eraseIdx_sublist _ _).nodup hbn
    · intro e he
      rw [Array.toList_eraseIdxIfInBounds] at he
      exact hbc e ((List.eraseIdx_sublist _ _).subset he)

theorem map_len (h : MapIs w r m) : ∃ es clock, w.heap[r]? = some (.map es clock) ∧ es.size = m.length := by
  obtain ⟨es, clock, hb, hm, _⟩ := h
  exact ⟨es, clock, hb, by have := congrArg List.length hm; simpa using this⟩

/-! ranging: the iterator lies in block it; 'left' are the entries that are to come -/
def RangeIs (w : World) (it r : Nat) (m left : IM) : Prop :=
  ∃ es clock since seen c0, w.heap[r]? = some (.map es clock) ∧ es.toList.map kv = m.map pv ∧ (m.map (·.1)).Nodup ∧ (es.toList.map (·.born)).Nodup ∧ (∀ e ∈ es.toList, e.born < clock) ∧
    w.heap[it]? = some (.mapIter (some r) since seen c0) ∧ (∀ e ∈ es.toList, e.born < since) ∧ since ≤ c0 ∧ since ≤ clock ∧ (leftOf es seen).toList.map kv = left.map pv

theorem RangeIs.map {it : Nat} {left : IM} (h : RangeIs w it r m left) : MapIs w r m := by
  obtain ⟨es, clock, since, seen, c0, h1, h2, h3, h4, h5, _⟩ := h
  exact ⟨es, clock, h1, h2, h3, h4, h5⟩
theorem RangeIs.of_eq {w' : World} {it : Nat} {left : IM} (h : RangeIs w it r m left) (e1 : w'.heap[r]? = w.heap[r]?) (e2 : w'.heap[it]? = w.heap[it]?) : RangeIs w' it r m left := by
  obtain ⟨es, clock, since, seen, c0, h1, h2, h3, h4, h5, h6, h7⟩ := h
  exact ⟨es, clock, since, seen, c0, e1.trans h1, h2, h3, h4, h5, e2.trans h6, h7⟩
theorem RangeIs.lt {it : Nat} {left : IM} (h : RangeIs w it r m left) : it < w.heap.size := by
  obtain ⟨es, clock, since, seen, c0, h1, h2, h3, h4, h5, h6, h7⟩ := h
  exact lt_heap h6
theorem RangeIs.ne {it : Nat} {left : IM} (h : RangeIs w it r m left) : it ≠ r := by
  obtain ⟨es, clock, since, seen, c0, h1, h2, h3, h4, h5, h6, h7⟩ := h
  rintro rfl; rw [h1] at h6; cases h6
theorem RangeIs.below {w' : World} {it : Nat} {left : IM} (h : RangeIs w it r m left) (hB : Below w.heap.size w w') : RangeIs w' it r m left :=
  h.of_eq (hB.block r h.map.lt) (hB.block it h.lt)

theorem map_range (h : MapIs w r m) (hT : P.underlying T = some (.map K E)) :
    ∃ o, (Instr.range T (.map (some r))).run P w = .ok (.pointer (some ⟨w.heap.size, 0, none⟩)) (w.alloc o) ∧ RangeIs (w.alloc o) w.heap.size r m m := by
  have hlt := h.lt
  obtain ⟨es, clock, hb, hm, hn, hbn, hbc⟩ := h
  refine ⟨.mapIter (some r) clock #[] clock, run_range_map w T K E r es clock hT hb, es, clock, clock, #[], clock, (alloc_heap hlt).trans hb, hm, hn, hbn, hbc, alloc_new rfl, hbc, Nat.le_refl _, Nat.le_refl _, ?_⟩
  have : leftOf es #[] = es := by simp [leftOf]
  rw [this]; exact hm

theorem sub_pairs {es : List MapEntry} {e : MapEntry} {left : IM} (h : es.map kv = left.map pv) (he : e ∈ es) : ∃ p, p ∈ left ∧ e.key = .int .i64 p.1 ∧ e.val = p.2 := by
  have : kv e ∈ left.map pv := h ▸ List.mem_map.2 ⟨e, he, rfl⟩
  obtain ⟨p, hp, hpe⟩ := List.mem_map.1 this
  exact ⟨p, hp, (congrArg Prod.fst hpe).symm, (congrArg Prod.snd hpe).symm⟩

theorem pairs_lift : ∀ (es : List MapEntry) (m : IM), es.map kv = m.map pv → ∀ es' : List MapEntry, es'.Sublist es → ∃ left : IM, left.Sublist m ∧ es'.map kv = left.map pv := by
  intro es m h es' hs
  induction hs generalizing m with
  | slnil => exact ⟨[], List.nil_sublist _, rfl⟩
  | cons e hs ih =>
    cases m with
    | nil => simp at h
    | cons p m =>
      simp only [List.map_cons, List.cons.injEq] at h
      obtain ⟨l, h1, h2⟩ := ih m h.2
      exact ⟨l, h1.cons _, h2⟩
  | cons_cons e hs ih =>
    cases m with
    | nil => simp at h
    | cons p m =>
      simp only [List.map_cons, List.cons.injEq] at h
      obtain ⟨l, h1, h2⟩ := ih m h.2
      exact ⟨p :: l, h1.cons_cons _, by simp [h.1, h2]⟩

/-- one step of a range -/
theorem range_next {it : Nat} {left : IM} (h : RangeIs w it r m left) (ty : TypeId) :
    (left = [] ∧ (Instr.next (.pointer (some ⟨it, 0, none⟩)) false ty).run P w = .ok (.tuple #[.bool false]) w) ∨
    ∃ p left' w', p ∈ left ∧ p ∈ m ∧ (∀ q, q ∈ left → q = p ∨ q ∈ left') ∧ (∀ q, q ∈ left' → q ∈ left) ∧ left'.length < left.length ∧
      (Instr.next (.pointer (some ⟨it, 0, none⟩)) false ty).run P w = .ok (.tuple #[.bool true, .int .i64 p.1, p.2]) w' ∧
      (Instr.entry (.pointer (some ⟨it, 0, none⟩))).run P w' = .ok (.tuple #[.int .i64 p.1, p.2]) w' ∧ RangeIs w' it r m left' ∧ Chg (· = it) w w' ∧ w'.heap.size = w.heap.size := by
  have hlt := h.lt
  have hne := h.ne
  obtain ⟨es, clock, since, seen, c0, h1, h2, h3, h4, h5, h6, h7, h8, hsk, h9⟩ := h
  rcases run_next_at (P := P) w ty it r since c0 seen es clock h6 h1 h7 h8 with ⟨h0, hrun⟩ | ⟨e, he, w1, hal, hrun⟩
  · left
    refine ⟨?_, hrun⟩
    have : left.length = 0 := by have := congrArg List.length h9; simp at this; omega
    exact List.eq_nil_of_length_eq_zero this
  · right
    obtain ⟨hem, hes⟩ := mem_left he
    obtain ⟨p, hp, hk, hv⟩ := sub_pairs h9 he
    obtain ⟨p', hp', hk', hv'⟩ := sub_pairs h2 hem
    have hpp : p' = p := Prod.ext (by have := hk.symm.trans hk'; injection this with _ h; exact h.symm) (hv'.symm.trans hv)
    subst hpp
    have hw1 : w1.heap = w.heap := by rcases hal with rfl | rfl <;> rfl
    have hr1 : w1.heap[it]? = some (.mapIter (some r) since seen c0) := by rw [hw1]; exact h6
    have hC1 : Chg (· = it) w w1 := by rcases hal with rfl | rfl; exact Chg.refl _ _; exact (Chg.refl _ _).drew
    have hC : Chg (· = it) w (setBlock w1 it (.mapIter (some r) since (seen.push e.born) clock)) := hC1.trans (setBlock_chg _)
    have hb' : (setBlock w1 it (.mapIter (some r) since (seen.push e.born) clock)).heap[r]? = some (.map es clock) := by rw [setBlock_other hne.symm, hw1]; exact h1
    have hi' : (setBlock w1 it (.mapIter (some r) since (seen.push e.born) clock)).heap[it]? = some (.mapIter (some r) since (seen.push e.born) clock) := setBlock_same (by rw [hw1]; exact hlt)
    have hsub : (leftOf es (seen.push e.born)).toList.Sublist es.toList := by unfold leftOf; rw [Array.toList_filter]; exact List.filter_sublist
    obtain ⟨left', hl1, hl2⟩ := pairs_lift _ _ h2 _ hsub
    have hsz := left_shrinks es seen e he
    refine ⟨p', left', _, hp, hp', ?_, ?_, ?_, ?_, ?_, ⟨es, clock, since, seen.push e.born, clock, hb', h2, h3, h4, h5, hi', h7, hsk, hsk, hl2⟩, hC, ?_⟩
    · intro q hq
      have : pv q ∈ (leftOf es seen).toList.map kv := h9 ▸ List.mem_map.2 ⟨q, hq, rfl⟩
      obtain ⟨x, hx, hxq⟩ := List.mem_map.1 this
      by_cases hxe : x.born = e.born
      · have hxe2 := born_inj h4 (mem_left hx).1 hem hxe
        subst hxe2
        left
        have a1 : Value.int .i64 q.1 = .int .i64 p'.1 := (congrArg Prod.fst hxq).symm.trans hk
        have a2 : q.2 = p'.2 := (congrArg Prod.snd hxq).symm.trans hv
        injection a1 with _ a1
        exact Prod.ext a1 a2
      · right
        have hx2 : x ∈ (leftOf es (seen.push e.born)).toList := by
          have := mem_left hx
          unfold leftOf
          simp only [Array.toList_filter, List.mem_filter]
          refine ⟨this.1, ?_⟩
          rw [contains_push, this.2]
          simpa using hxe
        obtain ⟨q', hq', hk2, hv2⟩ := sub_pairs hl2 hx2
        have a1 : Value.int .i64 q.1 = .int .i64 q'.1 := (congrArg Prod.fst hxq).symm.trans hk2
        have a2 : q.2 = q'.2 := (congrArg Prod.snd hxq).symm.trans hv2
        injection a1 with _ a1
        rw [show q = q' from Prod.ext a1 a2]
        exact hq'
    · intro q hq
      have : pv q ∈ (leftOf es (seen.push e.born)).toList.map kv := hl2 ▸ List.mem_map.2 ⟨q, hq, rfl⟩
      obtain ⟨x, hx, hxq⟩ := List.mem_map.1 this
      have hx1 := mem_left hx
      have hx2 : x ∈ (leftOf es seen).toList := by
        unfold leftOf
        simp only [Array.toList_filter, List.mem_filter]
        refine ⟨hx1.1, ?_⟩
        have := hx1.2
        rw [contains_push] at this
        simp at this
        simpa using this.1
      obtain ⟨q', hq', hk2, hv2⟩ := sub_pairs h9 hx2
      have a1 : Value.int .i64 q.1 = .int .i64 q'.1 := (congrArg Prod.fst hxq).symm.trans hk2
      have a2 : q.2 = q'.2 := (congrArg Prod.snd hxq).symm.trans hv2
      injection a1 with _ a1
      rw [show q = q' from Prod.ext a1 a2]
      exact hq'
    · have l1 := congrArg List.length h9
      have l2 := congrArg List.length hl2
      simp at l1 l2
      omega
    · rw [hrun, hk, hv]
    · rw [← hk, ← hv]; exact run_entry_at _ it r since seen es clock e hi' hb' hem h4
    · rw [setBlock_size, hw1]
end
end Go.Proofs.Ytdgnhimiamchmaa
