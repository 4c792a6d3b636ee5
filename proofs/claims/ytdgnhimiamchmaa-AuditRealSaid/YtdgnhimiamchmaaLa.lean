import Derived.Test.YtdgnhimiamchmaaA1
import Derived.Test.YtdgnhimiamchmaaNo
namespace Go.Proofs.Ytdgnhimiamchmaa
open Go.RowKit
open BigFrame Lib
open Go.ChangeMaps (setBlock)

/-- no byte lies in a block -/
def NoU8 (w : World) (k : Nat) : Prop := ∀ o x, w.cell? ⟨k, o, none⟩ ≠ some (.int .u8 x)
theorem noU8_map {w : World} {k : Nat} {m : IM} (h : MapIs w k m) : NoU8 w k := by
  obtain ⟨es, cl, hb, _⟩ := h
  intro o x hc
  simp [World.cell?, hb] at hc
theorem Rd.chg_no {S : Nat → Prop} {w w' : World} {a : Option Addr} {l : List Int} (h : Rd u8 w a l) (hC : Chg S w w') (hS : ∀ k, S k → NoU8 w k) : Rd u8 w' a l := fun i x hi => by
  obtain ⟨b, o, h1, h2, h3⟩ := h i x hi
  exact ⟨b, o, h1, Nat.lt_of_lt_of_le h2 hC.size, (World.cell?_of_block (a := ⟨b, o + i, none⟩) (hC.block b h2 (fun s => hS b s _ _ h3))).trans h3⟩
theorem Ent.chg_no {S : Nat → Prop} {w w' : World} {v : Option Value} {l : List Int} (h : Ent w v l) (hC : Chg S w w') (hS : ∀ k, S k → NoU8 w k) : Ent w' v l := by
  cases v with
  | none => exact h
  | some v =>
    obtain ⟨ad, c, h1, h2, h3, h4⟩ := h
    exact ⟨ad, c, h1, h2.chg_no hC hS, h3, h4⟩
theorem MAt.chg_no {S : Nat → Prop} {w w' : World} {g r : Nat} {n : Int} {d : Int → List Int} (h : MAt w g r n d) (hC : Chg S w w') (hS : ∀ k, S k → NoU8 w k) (hg : ¬ S g) (hr : ¬ S r) : MAt w' g r n d := by
  obtain ⟨h1, ⟨m, h2, h3⟩, h4, h5⟩ := h
  exact ⟨(hC.block g (lt_heap h1) hg).trans h1, ⟨m, h2.of_eq (hC.block r h2.lt hr), fun k => (h3 k).chg_no hC hS⟩, h4, h5⟩
abbrev zi : Int → Value := Value.int .i64
theorem noU8_ints {w : World} {k : Nat} {ls : List Int} (h : w.heap[k]? = some (.cells (ls.map zi).toArray 3 (0, 0))) : NoU8 w k := by
  intro o x hc
  simp only [World.cell?, h, Option.isSome_none, Bool.false_eq_true, if_false, List.getElem?_toArray, List.getElem?_map, Option.map_eq_some_iff] at hc
  obtain ⟨y, _, hy⟩ := hc
  injection hy with h1 _
  cases h1
theorem Try.info3 : (Try.prog.info? 3).map (fun i => (i.zero, i.size, i.bytes)) = some (some (.int .i64 0), 1, 8) := by kernel_rfl
theorem mk10 (W : World) : (Instr.makeSlice 44 (.int .i64 10) (.int .i64 10)).run Try.prog W = .ok (.slice (some ⟨W.heap.size, 0, none⟩) 10 10) (W.alloc (.cells ((List.replicate 10 0).map zi).toArray 3)) :=
  make_run (P := Try.prog) (T := 44) (E := 3) (fun x : Int => [zi x]) 0 Try.underlying44 Try.info3 rfl rfl (by omega) 10 (by omega) (by omega) W

theorem dat_not_zeros (k : Int) (h0 : 0 ≤ k) (h1 : k ≤ 100) : dat k ≠ zeros := by
  intro e
  have h : (dat k)[0]? = zeros[0]? := by rw [e]
  rw [dat_get k 0 (by omega)] at h
  simp [zeros, datAt] at h
  omega

/-- what the blocks are when these were written there last -/
def DL (ls : List Int) (k : Int) : List Int := if 0 ≤ k ∧ ls.getD k.toNat 0 ≠ 0 then dat (ls.getD k.toNat 0) else zeros
theorem DL_set (ls : List Int) (k : Nat) (v : Int) (hk : k < ls.length) (hv : v ≠ 0) : (fun j => if j = (k : Int) then dat v else DL ls j) = DL (ls.set k v) := by
  funext j
  unfold DL
  by_cases h0 : 0 ≤ j
  · obtain ⟨i, rfl⟩ : ∃ i : Nat, j = i := ⟨j.toNat, by omega⟩
    simp only [Int.toNat_natCast, List.getD_eq_getElem?_getD, List.getElem?_set]
    by_cases e : i = k
    · subst e; simp [hk, hv]
    · have e2 : ¬ ((i : Int) = k) := by omega
      have e3 : ¬ (k = i) := fun h => e h.symm
      rw [if_neg e2]
      simp only [if_neg e3]
  · have e2 : ¬ (j = (k : Int)) := by omega
    rw [if_neg e2, if_neg (fun h => h0 h.1), if_neg (fun h => h0 h.1)]
/-- those below k are blank -/
def DB (b : Bool) (ls : List Int) (k : Nat) (j : Int) : List Int := if b = true ∧ j < k then zeros else DL ls j
theorem DB_zero (b : Bool) (ls : List Int) : DB b ls 0 = DL ls := by
  funext j
  unfold DB
  split
  · rename_i h
    unfold DL
    rw [if_neg (by omega)]
  · rfl
theorem DB_skip (b : Bool) (ls : List Int) (k : Nat) (h : ls.getD k 0 = 0) : DB b ls (k + 1) = DB b ls k := by
  funext j
  unfold DB
  by_cases e : j = (k : Int)
  · subst e
    unfold DL
    rw [Int.toNat_natCast, h]
    simp
  · by_cases h1 : b = true ∧ j < k
    · rw [if_pos h1, if_pos ⟨h1.1, by omega⟩]
    · rw [if_neg h1, if_neg (fun h => h1 ⟨h.1, by omega⟩)]
theorem DB_false (ls : List Int) (k : Nat) : DB false ls (k + 1) = DB false ls k := by
  funext j; unfold DB; simp
theorem DB_true (ls : List Int) (k : Nat) : (fun j => if j = (k : Int) then zeros else DB true ls k j) = DB true ls (k + 1) := by
  funext j
  unfold DB
  by_cases e : j = (k : Int)
  · subst e; rw [if_pos rfl, if_pos ⟨rfl, by omega⟩]
  · rw [if_neg e]
    by_cases h1 : j < k
    · rw [if_pos ⟨rfl, h1⟩, if_pos ⟨rfl, by omega⟩]
    · rw [if_neg (fun h => h1 h.2), if_neg (fun h => h1 (by omega))]
theorem DB_get (b : Bool) (ls : List Int) (k : Nat) (h : ls.getD k 0 ≠ 0) : DB b ls k (k : Int) = dat (ls.getD k 0) := by
  unfold DB
  rw [if_neg (by omega)]
  unfold DL
  rw [Int.toNat_natCast, if_pos ⟨by omega, h⟩]
theorem DL_out (ls : List Int) (h : ls.length = 10) : Out 10 (DL ls) := by
  intro k hk
  unfold DL
  by_cases h0 : 0 ≤ k
  · have : ls.getD k.toNat 0 = 0 := by rw [List.getD_eq_getElem?_getD, List.getElem?_eq_none (by omega)]; rfl
    rw [this]; simp
  · rw [if_neg (fun h => h0 h.1)]
theorem DB_out (b : Bool) (ls : List Int) (k : Nat) (h : ls.length = 10) : Out 10 (DB b ls k) := by
  intro j hj
  unfold DB
  split
  · rfl
  · exact DL_out ls h j hj
theorem DB_all (ls : List Int) (h : ls.length = 10) : DB true ls 10 = fun _ => zeros := by
  funext j
  by_cases hj : 0 ≤ j ∧ j < 10
  · unfold DB; rw [if_pos ⟨rfl, by omega⟩]
  · exact DB_out true ls 10 h j hj
theorem DB_none (b : Bool) (ls : List Int) (h : List.replicate 10 (0 : Int) = ls) (k : Nat) : DB b ls k = fun _ => zeros := by
  subst h
  funext j
  unfold DB
  split
  · rfl
  · unfold DL
    have : (List.replicate 10 (0 : Int)).getD j.toNat 0 = 0 := by
      rw [List.getD_eq_getElem?_getD, List.getElem?_replicate]; split <;> rfl
    rw [this]; simp
theorem full_nil (n : Int) : full (fun _ => zeros) n = [] := by simp [full]
theorem full_some {d : Int → List Int} {n k : Int} (h0 : 0 ≤ k) (h1 : k < n) (h2 : d k ≠ zeros) : full d n ≠ [] := by
  intro e
  have := (full_mem d n k).2 ⟨⟨h0, h1⟩, h2⟩
  rw [e] at this; simp at this

theorem fin_law (bl : Bool) (ls : List Int) (i : Nat) (hn : i ≤ 100) (hll : ls.length = 10) (hl0 : i = 0 → ls = List.replicate 10 0) (hl1 : 0 < i → ∃ k : Nat, k < 10 ∧ ls.getD k 0 ≠ 0) (hlx : ∀ x ∈ ls, 0 ≤ x ∧ x ≤ i) :
    (same (DB bl ls 10) (fun _ => zeros) = (bl || decide (i = 0))) ∧ (full (DB bl ls 10) 10 = [] ↔ (bl || decide (i = 0)) = true) := by
  cases bl with
  | true =>
    rw [DB_all ls hll, same_self, full_nil]
    exact ⟨rfl, fun _ => rfl, fun _ => rfl⟩
  | false =>
    by_cases h0 : i = 0
    · rw [DB_none false ls (hl0 h0).symm, same_self, full_nil, decide_eq_true h0]
      exact ⟨rfl, fun _ => rfl, fun _ => rfl⟩
    · obtain ⟨k, hk, hk2⟩ := hl1 (by omega)
      have e1 : DB false ls 10 (k : Int) = dat (ls.getD k 0) := by
        unfold DB DL
        rw [if_neg (by simp), Int.toNat_natCast, if_pos ⟨by omega, hk2⟩]
      have hx := hlx (ls.getD k 0) (by
        rw [List.getD_eq_getElem?_getD, List.getElem?_eq_getElem (by rw [hll]; exact hk)]
        exact List.getElem_mem _)
      have hne : DB false ls 10 (k : Int) ≠ zeros := by rw [e1]; exact dat_not_zeros _ hx.1 (by omega)
      have h1 : same (DB false ls 10) (fun _ => zeros) = false := by
        cases hs : same (DB false ls 10) (fun _ => zeros) with
        | false => rfl
        | true => exact (hne (by rw [same_true.1 hs])).elim
      rw [h1, decide_eq_false h0]
      exact ⟨rfl, fun h => (full_some (by omega) (by omega) hne h).elim, fun h => by cases h⟩

theorem put_own {w : World} {B : Nat} {a : Option Addr} {c : Nat} {k : Int} {d : List Int} (h0 : -9223372036854775808 ≤ k) (h1 : k ≤ 9223372036854775807) (hd : d.length = 40) (hown : w.ownsRow B 5 1 (.slice a 40 c) 40 (d.map u8)) :
    PutsAt (w.alloc (.cells #[.int .i64 k, .slice a 40 c] 39)) (some ⟨w.heap.size, 0, none⟩) [put0 k a c d] :=
  puts_one h0 h1 hd (own_cap hown) (alloc_new rfl) ((Rd.of_own hown).2.below ((Below.refl _ w).alloc (Nat.le_refl _) _))

set_option maxRecDepth 100000 in
set_option maxHeartbeats 1000000 in
theorem last_law (la : Option Addr) (lc : Nat) (l : List Int) (bl : Bool) (w : World) (hl : l.length ≤ 9223372036854775807) (h1 : Rd zi w la l) (hz : ∀ x ∈ l, -9223372036854775808 ≤ x ∧ x ≤ 9223372036854775807) :
    Calls Try.prog 11 #[.slice la l.length lc, .bool bl] w fun e w' => e = .returned (.bool true) ∧ Below w.heap.size w w' := by
  have HAW := Lib.hid awake_any
  have H1 := Lib.hid h1; have HZ := Lib.hid hz; clear h1 hz
  generalize hq : l.length = n at *
  have HN := Lib.hid hq; clear hq
  by_cases hg : 100 < n
  · go_enter Try.func11, Try.ntmps11
    go_wp2_with fail
    refine (HAW.out _).mono ?_
    rintro e w5 ⟨rfl, hB5⟩
    go_wp2
    go_ret
    exact ⟨rfl, hB5⟩
  · have hn : n ≤ 100 := by omega
    clear hg
    go_enter Try.func11, Try.ntmps11
    go_wp2_with fail
    refine (new_good 10 w (by omega) (by omega)).mono ?_
    rintro e w1 ⟨rfl, hB1, hM1⟩
    have HM1 := Lib.hid hM1; clear hM1
    go_wp2_with fail
    refine (new_good 10 w1 (by omega) (by omega)).mono ?_
    rintro e w2 ⟨rfl, hB2, hM2⟩
    have HA2 := Lib.hid (HM1.out.below hB2)
    have HB2 := Lib.hid hM2; clear hM2
    have hs1 := hB1.size
    have hs2 := hB2.size
    have hB2' : Below w.heap.size w w2 := hB1.trans (hB2.mono hs1)
    have ha2 := HA2.out.lt_r
    have hb2 := HB2.out.lt_r
    have hga := lt_heap HA2.out.cell
    have hgb := lt_heap HB2.out.cell
    have ha1 := HM1.out.lt_r
    have hg1 := lt_heap HM1.out.cell
    generalize hr1 : w.heap.size = r1 at *
    generalize hr2 : w1.heap.size = r2 at *
    go_wp2_with fail
    rw [mk10]
    have hb3 : (w2.alloc (.cells ((List.replicate 10 0).map zi).toArray 3)).heap[w2.heap.size]? = some (.cells ((List.replicate 10 0).map zi).toArray 3 (0, 0)) := alloc_new rfl
    have hB3 : Below w2.heap.size w2 (w2.alloc (.cells ((List.replicate 10 0).map zi).toArray 3)) := (Below.refl _ w2).alloc (Nat.le_refl _) _
    have HA3 := Lib.hid (HA2.out.below hB3)
    have HB3 := Lib.hid (HB2.out.below hB3)
    have HC3 := Lib.hid hb3
    have hB3' : Below r1 w (w2.alloc (.cells ((List.replicate 10 0).map zi).toArray 3)) := hB2'.trans (hB3.mono (by omega))
    have hs3 : (w2.alloc (.cells ((List.replicate 10 0).map zi).toArray 3)).heap.size = w2.heap.size + 1 := by simp
    generalize hlb : w2.heap.size = lb at *
    generalize w2.alloc (.cells ((List.replicate 10 0).map zi).toArray 3) = w3 at *
    clear hb3 hB3
    have FR : Hid (∀ W, Chg (fun k => k = r1 ∨ k = lb) w3 W → Below r1 w W) := fun W hW => hB3'.trans (hW.below (by omega) (fun k hk e => by omega))
    go_wp2_with fail
    go_loopw [10] (fun iv wr => ∃ (i : Nat) (ls : List Int), i ≤ n ∧ iv = .int .i64 i ∧ Chg (fun k => k = r1 ∨ k = lb) w3 wr ∧ wr.heap[lb]? = some (.cells (ls.map zi).toArray 3 (0, 0)) ∧ ls.length = 10 ∧ (∀ x ∈ ls, 0 ≤ x ∧ x ≤ i) ∧
        (i = 0 → ls = List.replicate 10 0) ∧ (0 < i → ∃ k : Nat, k < 10 ∧ ls.getD k 0 ≠ 0) ∧ MAt wr (r1 + 1) r1 10 (DL ls) ∧ MAt wr (r2 + 1) r2 10 (fun _ => zeros)) (fun iv _ => n - (intOf iv).toNat)
    case atStart =>
      refine ⟨0, List.replicate 10 0, Nat.zero_le _, rfl, Chg.refl _ _, HC3.out, by simp, fun x hx => by have := List.eq_of_mem_replicate hx; omega, fun _ => rfl, fun h => by omega, ?_, HB3.out⟩
      have := DB_none false (List.replicate 10 0) rfl 0
      rw [DB_zero] at this
      rw [this]; exact HA3.out
    case round =>
      obtain ⟨i, ls, hi, rfl, hC, hcl, hll, hlx, hl0, hl1, hMa, hMb⟩ := hrel
      have HC := Lib.hid hC; have HCL := Lib.hid hcl; have HLL := Lib.hid hll; have HLX := Lib.hid hlx; have HL0 := Lib.hid hl0; have HL1 := Lib.hid hl1; have HMa := Lib.hid hMa; have HMb := Lib.hid hMb
      clear hC hcl hll hlx hl0 hl1 hMa hMb
      have hwr := HC.out.size
      by_cases hlt : i < n
      · have hx : l[i]? = some (l[i]'(by rw [HN.out]; exact hlt)) := List.getElem?_eq_getElem _
        generalize l[i]'(by rw [HN.out]; exact hlt) = x at hx
        obtain ⟨b1, o1, ea, e1, d1⟩ := H1.out.below (by rw [hr1]; exact FR.out _ HC.out) i x hx
        simp only [zi] at d1
        subst ea
        have hxz := HZ.out x (List.mem_of_getElem? hx)
        clear hx
        have RD := Lib.hid (round_any x 10 wr (by omega) (by omega) hxz.1 hxz.2)
        have hm0 := Int.emod_nonneg x (show (10 : Int) ≠ 0 by omega)
        have hm1 := Int.emod_lt_of_pos x (show (0 : Int) < 10 by omega)
        obtain ⟨k, hk⟩ : ∃ k : Nat, x % 10 = k := ⟨(x % 10).toNat, by omega⟩
        rw [hk] at RD hm0 hm1
        have HK := Lib.hid hk
        clear hk hxz
        have f0 : wr.frozen? ⟨lb, k, none⟩ = false := free_heap HCL.out
        have hlk : k < ls.length := by rw [HLL.out]; omega
        have c0 : wr.cell? ⟨lb, k, none⟩ = some (.int .i64 (ls[k]'hlk)) := cell_heap HCL.out (by rw [List.getElem?_map, List.getElem?_eq_getElem hlk]; rfl)
        generalize ls[k]'hlk = y0 at c0
        go_wp2_with fail
        refine RD.out.mono ?_
        rintro e w' ⟨rfl, rfl⟩
        have hset := set_heap (o := k) (u := .int .i64 ((i : Int) + 1)) HCL.out
        rw [show (ls.map zi).set k (.int .i64 ((i : Int) + 1)) = (ls.set k ((i : Int) + 1)).map zi by rw [List.map_set]] at hset
        have HSET := Lib.hid hset
        have hCs : Chg (· = lb) wr (wr.setCell ⟨lb, k, none⟩ (.int .i64 ((i : Int) + 1))) := Chg.setCell (S := (· = lb)) (Chg.refl _ _) (p := ⟨lb, k, none⟩) (.inl rfl) _
        have hno : ∀ j, j = lb → NoU8 wr j := by rintro j rfl; exact noU8_ints HCL.out
        have HMa2 := Lib.hid (HMa.out.chg_no hCs hno (by omega) (by omega))
        have HMb2 := Lib.hid (HMb.out.chg_no hCs hno (by omega) (by omega))
        have HC2 : Hid (Chg (fun k => k = r1 ∨ k = lb) w3 (wr.setCell ⟨lb, k, none⟩ (.int .i64 ((i : Int) + 1)))) := HC.out.trans (hCs.mono (fun _ _ h => .inr h))
        have hsz2 : (wr.setCell ⟨lb, k, none⟩ (.int .i64 ((i : Int) + 1))).heap.size = wr.heap.size := by simp [World.setCell]
        clear hset hCs hno
        go_wp2_with fail
        generalize wr.setCell ⟨lb, k, none⟩ (.int .i64 ((i : Int) + 1)) = w4 at *
        refine (data_any ((i : Int) + 1) w4 (by omega) (by omega)).mono ?_
        rintro e w5 ⟨a5, c5, rfl, hB5, hown5⟩
        have HO5 := Lib.hid hown5; clear hown5
        have hs5 := hB5.size
        have hB56 : Below w5.heap.size w5 (w5.alloc (.cells #[.int .i64 (k : Int), .slice a5 40 c5] 39)) := (Below.refl _ w5).alloc (Nat.le_refl _) _
        have hB46 : Below w4.heap.size w4 (w5.alloc (.cells #[.int .i64 (k : Int), .slice a5 40 c5] 39)) := hB5.trans (hB56.mono hs5)
        have hP := put_own (k := (k : Int)) (d := dat ((i : Int) + 1)) (by omega) (by omega) (dat_len _) HO5.out
        have RUN := run_any 0 (some ⟨w5.heap.size, 0, none⟩) 1 _ _ (by simp) hP (HMa2.out.below hB46)
        rw [code_one 10 (k : Int) a5 c5 _ (by omega) (by omega) (dat_len _), after_one 10 (k : Int) a5 c5 _ (by omega) (by omega) (dat_len _), DL_set ls k ((i : Int) + 1) hlk (by omega)] at RUN
        have HRUN := Lib.hid RUN
        have HMb6 := Lib.hid (HMb2.out.below hB46)
        have HMr6 : Hid (∃ m, MapIs (w5.alloc (.cells #[.int .i64 (k : Int), .slice a5 40 c5] 39)) r1 m) := (HMa2.out.below hB46).map
        have HC6 : Hid (Chg (fun k => k = r1 ∨ k = lb) w3 (w5.alloc (.cells #[.int .i64 (k : Int), .slice a5 40 c5] 39))) := HC2.out.trans (Chg.of_below hB46)
        have HS6 : Hid ((w5.alloc (.cells #[.int .i64 (k : Int), .slice a5 40 c5] 39)).heap[lb]? = some (.cells ((ls.set k ((i : Int) + 1)).map zi).toArray 3 (0, 0))) := (hB46.block lb (lt_heap HSET.out)).trans HSET.out
        clear hP RUN
        go_wp2_with fail
        generalize w5.alloc (.cells #[.int .i64 (k : Int), .slice a5 40 c5] 39) = w6 at *
        refine HRUN.out.mono ?_
        rintro e w7 ⟨rfl, hC7, hM7⟩
        have HM7 := Lib.hid hM7
        have hS7 : ∀ k, k = r1 → ∃ m, MapIs w6 k m := by rintro k rfl; exact HMr6.out
        have HMb7 := Lib.hid (HMb6.out.chg hC7 hS7 (by omega))
        have HS7 := Lib.hid ((hC7.block lb (lt_heap HS6.out) (by omega)).trans HS6.out)
        have HC7 := Lib.hid (HC6.out.trans (hC7.mono (fun _ _ h => .inl h)))
        clear hM7 hS7 hC7
        go_wp2
        go_roundw
        case rel =>
          refine ⟨i + 1, ls.set k ((i : Int) + 1), by omega, by go_num, HC7.out, HS7.out, by rw [List.length_set]; exact HLL.out, fun x hx => ?_, fun h => by omega, fun _ => ⟨k, by omega, ?_⟩, HM7.out, HMb7.out⟩
          · rcases List.mem_or_eq_of_mem_set hx with hx | rfl
            · have := HLX.out x hx; omega
            · omega
          · rw [List.getD_eq_getElem?_getD, List.getElem?_set, if_pos rfl, if_pos hlk]
            show ((i : Int) + 1) ≠ 0; omega
        case measure => simp [intOf]; omega
      · obtain rfl : i = n := by omega
        have HB : Hid (Below r1 w wr) := FR.out _ HC.out
        have DBZ := Lib.hid (DB_zero bl ls)
        have HMa0 : Hid (MAt wr (r1 + 1) r1 10 (DB bl ls 0)) := by show MAt _ _ _ _ _; rw [DBZ.out]; exact HMa.out
        have hi2 : i ≤ 100 := hn
        have FIN : Hid ((same (DB bl ls 10) (fun _ => zeros) = (bl || decide (i = 0))) ∧ (full (DB bl ls 10) 10 = [] ↔ (bl || decide (i = 0)) = true)) := by
          exact fin_law bl ls i hi2 HLL.out HL0.out HL1.out HLX.out
        clear hlt
        go_wp2_with fail
        go_loopw [12] (fun kv wr2 => ∃ k : Nat, k ≤ 10 ∧ kv = .int .i64 k ∧ Chg (fun k => k = r1 ∨ k = lb) w3 wr2 ∧ wr2.heap[lb]? = some (.cells (ls.map zi).toArray 3 (0, 0)) ∧ MAt wr2 (r1 + 1) r1 10 (DB bl ls k) ∧ MAt wr2 (r2 + 1) r2 10 (fun _ => zeros)) (fun kv _ => 10 - (intOf kv).toNat)
        case atStart => exact ⟨0, by omega, rfl, HC.out, HCL.out, HMa0.out, HMb.out⟩
        case round =>
          clear HC HCL HMa HMb HMa0 HB
          obtain ⟨k, hk, rfl, hC, hcl, hMa, hMb⟩ := hrel
          have HC := Lib.hid hC; have HCL := Lib.hid hcl; have HMa := Lib.hid hMa; have HMb := Lib.hid hMb
          clear hC hcl hMa hMb
          have hwr2 := HC.out.size
          have HB : Hid (Below r1 w wr) := FR.out _ HC.out
          by_cases hlt : k < 10
          · have hlk : k < ls.length := by rw [HLL.out]; exact hlt
            have c0 : wr.cell? ⟨lb, k, none⟩ = some (.int .i64 (ls[k]'hlk)) := cell_heap HCL.out (by rw [List.getElem?_map, List.getElem?_eq_getElem hlk]; rfl)
            have hgd : ls.getD k 0 = ls[k]'hlk := by rw [List.getD_eq_getElem?_getD, List.getElem?_eq_getElem hlk]; rfl
            have hvx := HLX.out _ (List.getElem_mem hlk)
            generalize ls[k]'hlk = v at *
            have HGD := Lib.hid hgd; clear hgd
            have hbl := lt_heap HCL.out
            by_cases hv : v = 0
            · have t1 : (v == 0) = true := by simpa using hv
              have HS : Hid (DB bl ls (k + 1) = DB bl ls k) := DB_skip bl ls k (by rw [HGD.out]; exact hv)
              clear hv
              go_wp2
              go_roundw
              case rel => exact ⟨k + 1, by omega, by go_num, HC.out, HCL.out, by rw [HS.out]; exact HMa.out, HMb.out⟩
              case measure => simp [intOf]; omega
            · have t1 : (v == 0) = false := by simpa using hv
              have hg := DB_get bl ls k (by rw [HGD.out]; exact hv)
              rw [HGD.out] at hg
              have G := get_any (k : Int) wr HMa.out (by omega)
              rw [hg] at G
              have HG := Lib.hid G
              clear G hg hv
              go_wp2_with fail
              refine HG.out.mono ?_
              rintro e w4 ⟨a4, c4, rfl, hB4, hown4, hl4⟩
              have HR4 := Lib.hid (Rd.of_own hown4).2
              have hs4 := hB4.size
              have c1 : w4.cell? ⟨lb, k, none⟩ = some (.int .i64 v) := (hB4.cell (p := ⟨lb, k, none⟩) hbl).trans c0
              clear hown4 hl4
              go_wp2_with fail
              refine (data_any v w4 hvx.1 (by omega)).mono ?_
              rintro e w5 ⟨a5, c5, rfl, hB5, hown5⟩
              have BY := bytes_any a4 a5 c4 c5 (dat v) (dat v) w5 (by rw [dat_len]; omega) (HR4.out.below hB5) (Rd.of_own hown5).2
              rw [dat_len, decide_eq_true rfl] at BY
              have HBY := Lib.hid BY; clear BY hown5
              go_wp2_with fail
              refine HBY.out.mono ?_
              rintro e w6 ⟨rfl, hB6⟩
              have hB46 : Below wr.heap.size wr w6 := (hB4.trans (hB5.mono hs4)).trans (hB6.mono (Nat.le_trans hs4 hB5.size))
              have HMa6 := Lib.hid (HMa.out.below hB46)
              have HMb6 := Lib.hid (HMb.out.below hB46)
              have HC6 : Hid (Chg (fun k => k = r1 ∨ k = lb) w3 w6) := HC.out.trans (Chg.of_below hB46)
              have HCL6 := Lib.hid ((hB46.block lb hbl).trans HCL.out)
              cases bl with
              | false =>
                have HS := Lib.hid (DB_false ls k)
                go_wp2
                go_roundw
                case rel => exact ⟨k + 1, by omega, by go_num, HC6.out, HCL6.out, by rw [HS.out]; exact HMa6.out, HMb6.out⟩
                case measure => simp [intOf]; omega
              | true =>
                have HS := Lib.hid (DB_true ls k)
                go_wp2_with fail
                rw [mk40]
                have ho7 : (w6.alloc (.cells (zeros.map u8).toArray 5)).ownsRow w6.heap.size 5 1 (.slice (some ⟨w6.heap.size, 0, none⟩) 40 40) 40 (zeros.map u8) := World.ownsRow_lit _ _ 40 (Nat.le_refl _) (by unfold maxLen; omega) rfl
                have hB7 : Below w6.heap.size w6 (w6.alloc (.cells (zeros.map u8).toArray 5)) := (Below.refl _ w6).alloc (Nat.le_refl _) _
                have HO7 := Lib.hid ho7
                clear ho7
                generalize w6.alloc (.cells (zeros.map u8).toArray 5) = w7 at *
                generalize (some ⟨w6.heap.size, 0, none⟩ : Option Addr) = a7 at *
                have hs7 := hB7.size
                have hB78 : Below w7.heap.size w7 (w7.alloc (.cells #[.int .i64 (k : Int), .slice a7 40 40] 39)) := (Below.refl _ w7).alloc (Nat.le_refl _) _
                have hB68 : Below w6.heap.size w6 (w7.alloc (.cells #[.int .i64 (k : Int), .slice a7 40 40] 39)) := hB7.trans (hB78.mono hs7)
                have hP := put_own (k := (k : Int)) (d := zeros) (by omega) (by omega) rfl HO7.out
                have RUN := run_any 0 (some ⟨w7.heap.size, 0, none⟩) 1 _ _ (by simp) hP (HMa6.out.below hB68)
                rw [code_one 10 (k : Int) a7 40 _ (by omega) (by omega) rfl, after_one 10 (k : Int) a7 40 _ (by omega) (by omega) rfl, HS.out] at RUN
                have HRUN := Lib.hid RUN
                have HMb8 := Lib.hid (HMb6.out.below hB68)
                have HMr8 : Hid (∃ m, MapIs (w7.alloc (.cells #[.int .i64 (k : Int), .slice a7 40 40] 39)) r1 m) := (HMa6.out.below hB68).map
                have HC8 : Hid (Chg (fun k => k = r1 ∨ k = lb) w3 (w7.alloc (.cells #[.int .i64 (k : Int), .slice a7 40 40] 39))) := HC6.out.trans (Chg.of_below hB68)
                have HCL8 := Lib.hid ((hB68.block lb (lt_heap HCL6.out)).trans HCL6.out)
                clear hP RUN
                go_wp2_with fail
                generalize w7.alloc (.cells #[.int .i64 (k : Int), .slice a7 40 40] 39) = w8 at *
                refine HRUN.out.mono ?_
                rintro e w9 ⟨rfl, hC9, hM9⟩
                have HM9 := Lib.hid hM9
                have hS9 : ∀ k, k = r1 → ∃ m, MapIs w8 k m := by rintro k rfl; exact HMr8.out
                have HMb9 := Lib.hid (HMb8.out.chg hC9 hS9 (by omega))
                have HCL9 := Lib.hid ((hC9.block lb (lt_heap HCL8.out) (by omega)).trans HCL8.out)
                have HC9 := Lib.hid (HC8.out.trans (hC9.mono (fun _ _ h => .inl h)))
                clear hM9 hS9 hC9
                go_wp2
                go_roundw
                case rel => exact ⟨k + 1, by omega, by go_num, HC9.out, HCL9.out, HM9.out, HMb9.out⟩
                case measure => simp [intOf]; omega
          · obtain rfl : k = 10 := by omega
            have SA := same_any wr HMa.out HMb.out
            rw [FIN.out.1] at SA
            have HSA := Lib.hid SA
            have hout := DB_out bl ls 10 HLL.out
            have AL := Lib.hid (fun W (hW : Below wr.heap.size wr W) => all_any W (HMa.out.below hW) hout)
            have HF := Lib.hid FIN.out.2
            clear SA hlt
            generalize DB bl ls 10 = D at *
            clear FIN DBZ HB
            have HBw : Hid (Below r1 w wr) := FR.out _ HC.out
            cases hb : (bl || decide (i = 0)) with
            | true =>
              rw [hb] at HSA HF
              have hfe : Hid (full D 10 = []) := HF.out.2 rfl
              cases bl with
              | true =>
                clear hb
                go_wp2_with fail
                refine HSA.out.mono ?_
                rintro e w4 ⟨rfl, hB4⟩
                go_wp2_with fail
                refine (AL.out _ hB4).mono ?_
                rintro e w5 ⟨a5, c5, ps, rfl, hB5, hP5, hps⟩
                rw [hfe.out] at hps
                have hps0 : ps = [] := by simpa using hps
                subst hps0
                clear hP5 hps
                go_wp2_with fail
                refine (HAW.out _).mono ?_
                rintro e w6 ⟨rfl, hB6⟩
                go_wp2
                go_ret
                have h1 := HBw.out.size
                exact ⟨rfl, by rw [hr1]; exact ((HBw.out.trans (hB4.mono (by omega))).trans (hB5.mono (by have := hB4.size; omega))).trans (hB6.mono (by have := hB4.size; have := hB5.size; omega))⟩
              | false =>
                have hi0 : i = 0 := by simpa using hb
                clear hb
                have t1 : ((i : Int) == 0) = true := by simp; exact hi0
                have t2 : (i == 0) = true := by simpa using hi0
                clear hi0
                go_wp2_with fail
                refine HSA.out.mono ?_
                rintro e w4 ⟨rfl, hB4⟩
                go_wp2_with fail
                refine (AL.out _ hB4).mono ?_
                rintro e w5 ⟨a5, c5, ps, rfl, hB5, hP5, hps⟩
                rw [hfe.out] at hps
                have hps0 : ps = [] := by simpa using hps
                subst hps0
                clear hP5 hps
                go_wp2_with fail
                refine (HAW.out _).mono ?_
                rintro e w6 ⟨rfl, hB6⟩
                go_wp2
                go_ret
                have h1 := HBw.out.size
                exact ⟨rfl, by rw [hr1]; exact ((HBw.out.trans (hB4.mono (by omega))).trans (hB5.mono (by have := hB4.size; omega))).trans (hB6.mono (by have := hB4.size; have := hB5.size; omega))⟩
            | false =>
              rw [hb] at HSA HF
              have hfe : Hid (full D 10 ≠ []) := fun h => by have := HF.out.1 h; cases this
              have hor : Hid (bl = false ∧ i ≠ 0) := by
                show _ ∧ _
                simpa using hb
              clear hb
              obtain ⟨hb0, hi0⟩ := hor.out
              subst hb0
              have t1 : ((i : Int) == 0) = false := by simp; omega
              have t2 : (i == 0) = false := by simpa using hi0
              go_wp2_with fail
              refine HSA.out.mono ?_
              rintro e w4 ⟨rfl, hB4⟩
              go_wp2_with fail
              refine (AL.out _ hB4).mono ?_
              rintro e w5 ⟨a5, c5, ps, rfl, hB5, hP5, hps⟩
              have hpl : ps.length ≠ 0 := by
                intro h
                have := congrArg List.length hps
                simp [h] at this
                exact hfe.out (List.eq_nil_of_length_eq_zero (by omega))
              have t3 : ((ps.length : Int) == 0) = false := by simp; exact fun h => hpl (by rw [h]; rfl)
              have t4 : (ps.length == 0) = false := by simpa using hpl
              generalize ps.length = pl at *
              clear hP5 hps hpl
              go_wp2_with fail
              refine (HAW.out _).mono ?_
              rintro e w6 ⟨rfl, hB6⟩
              go_wp2
              go_ret
              have h1 := HBw.out.size
              exact ⟨rfl, by rw [hr1]; exact ((HBw.out.trans (hB4.mono (by omega))).trans (hB5.mono (by have := hB4.size; omega))).trans (hB6.mono (by have := hB4.size; have := hB5.size; omega))⟩
end Go.Proofs.Ytdgnhimiamchmaa
