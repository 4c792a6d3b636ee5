import Derived.Maps.AppendAt
import Derived.Laws.OwnMore
import Derived.Test.YtfmjkpobphjgkaaOn1
import Derived.Test.YtfmjkpobphjgkaaLo
namespace Go.Proofs.Ytfmjkpobphjgkaa
open Go.RowKit
open BigFrame Lib

section
variable {P : Program} {w : World} {ops : Array Oper} {rest : List Oper} {o : Oper} {a : Act} {K : Act → World → Prop} {Q : Exit → Act → World → Prop} {E : Prop}
/-- an append of any row, of none too: where the new row lies -/
theorem wp_append_x (s x : Operand) (t : TypeId)
    (ho : o.op = .call { callee := .builtin .append, args := #[s, x], argTypes := #[t, t] })
    (base : Nat) (e : TypeId) (i : TypeInfo) (z : Value) (size bytes : Nat) (ht : P.underlying t = some (.slice e)) (hi : P.info? e = some i) (hz : i.zero = some z)
    (hsize : i.size = size) (hby : i.bytes = bytes) (hzs : z.cells.size = size) (hsz : 0 < size)
    (v : Value) (n : Nat) (xs : List Value) (hs : a.eval s = v) (hown : w.ownsRow base e size v n xs)
    (xa : Option Addr) (m c : Nat) (news : List Value) (hx : a.eval x = .slice xa m c) (hnone : xa = none → m = 0 ∧ c = 0) (hl : news.length = m * size) (hnews : ∀ ad, xa = some ad → ∀ j u, news[j]? = some u → w.cell? (ad.add j) = some u) (h1 : ∀ u ∈ news, u.oneCell' = true)
    (h63 : n + m ≤ maxLen) (hbytes : (n + m) * bytes ≤ 140737488355328) (hbase : base ≤ w.heap.size)
    (h : ∀ v' w', w'.ownsRow base e size v' (n + m) (xs ++ news) → w.grownBy w' v.ownBlock → (v'.ownBlock = v.ownBlock ∨ v'.ownBlock = some w.heap.size) → K (a.put o.dst v') w') : o.wp P a w K Q := by
  cases xa with
  | none =>
    obtain ⟨rfl, rfl⟩ := hnone rfl
    have hn0 : news = [] := List.length_eq_zero_iff.1 (by rw [hl]; omega)
    subst hn0
    have hr := run_append_owned_none (P := P) w base t o.type e i size ht hi v n xs hown
    unfold Oper.wp execOp
    simp only [ho, resolve, invoke, builtin, Sem.run_bind, Sem.run_pure, Result.andThen_ok, List.map_toArray, List.map_cons, List.map_nil, hs, hx, hr]
    exact h v w (by rw [List.append_nil]; exact hown) ⟨rfl, rfl, rfl, Nat.le_refl _, fun k _ _ => rfl⟩ (.inl rfl)
  | some ad =>
    obtain ⟨v', w', hr, h2, h3, _, h5⟩ := run_append_own_at (P := P) w base t o.type e i z size bytes ht hi hz hsize hby hzs hsz v n xs hown ad m c news hl (hnews ad rfl) h1 h63 hbytes hbase
    unfold Oper.wp execOp
    simp only [ho, resolve, invoke, builtin, Sem.run_bind, Sem.run_pure, Result.andThen_ok, List.map_toArray, List.map_cons, List.map_nil, hs, hx, hr]
    exact h v' w' h2 h3 h5
theorem step_append_x (hgd : o.guard = none) (s x : Operand) (t : TypeId)
    (ho : o.op = .call { callee := .builtin .append, args := #[s, x], argTypes := #[t, t] })
    (base : Nat) (e : TypeId) (i : TypeInfo) (z : Value) (size bytes : Nat) (ht : P.underlying t = some (.slice e)) (hi : P.info? e = some i) (hz : i.zero = some z)
    (hsize : i.size = size) (hby : i.bytes = bytes) (hzs : z.cells.size = size) (hsz : 0 < size)
    (v : Value) (n : Nat) (xs : List Value) (hs : a.eval s = v) (hown : w.ownsRow base e size v n xs)
    (xa : Option Addr) (m c : Nat) (news : List Value) (hx : a.eval x = .slice xa m c) (hnone : xa = none → m = 0 ∧ c = 0) (hl : news.length = m * size) (hnews : ∀ ad, xa = some ad → ∀ j u, news[j]? = some u → w.cell? (ad.add j) = some u) (h1 : ∀ u ∈ news, u.oneCell' = true)
    (h63 : n + m ≤ maxLen) (hbytes : (n + m) * bytes ≤ 140737488355328) (hbase : base ≤ w.heap.size)
    (h : ∀ v' w', w'.ownsRow base e size v' (n + m) (xs ++ news) → w.grownBy w' v.ownBlock → (v'.ownBlock = v.ownBlock ∨ v'.ownBlock = some w.heap.size) → K (a.put o.dst v') w') :
    if Region.wanted o (yielded ops a.tmps) = true then Oper.wp P o a w K Q else E := by
  have hw : Region.wanted o (yielded ops a.tmps) = true := by simp [Region.wanted, hgd]
  rw [if_pos hw]
  exact wp_append_x s x t ho base e i z size bytes ht hi hz hsize hby hzs hsz v n xs hs hown xa m c news hx hnone hl hnews h1 h63 hbytes hbase h
theorem wpList_append_x (hgd : o.guard = none) (s x : Operand) (t : TypeId)
    (ho : o.op = .call { callee := .builtin .append, args := #[s, x], argTypes := #[t, t] })
    (base : Nat) (e : TypeId) (i : TypeInfo) (z : Value) (size bytes : Nat) (ht : P.underlying t = some (.slice e)) (hi : P.info? e = some i) (hz : i.zero = some z)
    (hsize : i.size = size) (hby : i.bytes = bytes) (hzs : z.cells.size = size) (hsz : 0 < size)
    (v : Value) (n : Nat) (xs : List Value) (hs : a.eval s = v) (hown : w.ownsRow base e size v n xs)
    (xa : Option Addr) (m c : Nat) (news : List Value) (hx : a.eval x = .slice xa m c) (hnone : xa = none → m = 0 ∧ c = 0) (hl : news.length = m * size) (hnews : ∀ ad, xa = some ad → ∀ j u, news[j]? = some u → w.cell? (ad.add j) = some u) (h1 : ∀ u ∈ news, u.oneCell' = true)
    (h63 : n + m ≤ maxLen) (hbytes : (n + m) * bytes ≤ 140737488355328) (hbase : base ≤ w.heap.size)
    (h : ∀ v' w', w'.ownsRow base e size v' (n + m) (xs ++ news) → w.grownBy w' v.ownBlock → (v'.ownBlock = v.ownBlock ∨ v'.ownBlock = some w.heap.size) → wpList P ops Q rest (a.put o.dst v') w') : wpList P ops Q (o :: rest) a w :=
  wpList_plain hgd fun _ hK => wp_append_x s x t ho base e i z size bytes ht hi hz hsize hby hzs hsz v n xs hs hown xa m c news hx hnone hl hnews h1 h63 hbytes hbase fun v' w' h2 h3 h4 => hK _ _ (h v' w' h2 h3 h4)
end

/-- the reference's book: its rows lie from B on -/
structure RefB (B : Nat) (w : World) (g : Nat) (most last : Int) (D : BD) (ov tv : Value) : Prop where
  cell : w.heap[g]? = some (.cells ([.int .i64 most, ov, tv, .int .i64 last] : List Value).toArray 29 (0, 0))
  ho : w.ownsRow B 3 1 ov D.length ((hs D).map zi)
  tmo : w.ownsRow B 3 1 tv D.length ((ts D).map zi)
  bg : B ≤ g
  pure : BP last D
theorem RefB.c0 {B : Nat} {w : World} {g : Nat} {most last : Int} {D : BD} {ov tv : Value} (h : RefB B w g most last D ov tv) : w.cell? ⟨g, 0, none⟩ = some (.int .i64 most) := cell_heap h.cell rfl
theorem RefB.c1 {B : Nat} {w : World} {g : Nat} {most last : Int} {D : BD} {ov tv : Value} (h : RefB B w g most last D ov tv) : w.cell? ⟨g, 1, none⟩ = some ov := cell_heap h.cell rfl
theorem RefB.c2 {B : Nat} {w : World} {g : Nat} {most last : Int} {D : BD} {ov tv : Value} (h : RefB B w g most last D ov tv) : w.cell? ⟨g, 2, none⟩ = some tv := cell_heap h.cell rfl
theorem RefB.c3 {B : Nat} {w : World} {g : Nat} {most last : Int} {D : BD} {ov tv : Value} (h : RefB B w g most last D ov tv) : w.cell? ⟨g, 3, none⟩ = some (.int .i64 last) := cell_heap h.cell rfl
theorem RefB.chg {S : Nat → Prop} {B : Nat} {w w' : World} {g : Nat} {most last : Int} {D : BD} {ov tv : Value} (h : RefB B w g most last D ov tv) (hC : Chg S w w') (hS : ∀ k, S k → k < B) : RefB B w' g most last D ov tv :=
  ⟨(hC.block g (lt_heap h.cell) (fun s => by have := hS g s; have := h.bg; omega)).trans h.cell, own_chg h.ho hC (fun b hb s => by have := own_ge h.ho b hb; have := hS b s; omega), own_chg h.tmo hC (fun b hb s => by have := own_ge h.tmo b hb; have := hS b s; omega), h.bg, h.pure⟩
theorem RefB.below {B : Nat} {w w' : World} {g : Nat} {most last : Int} {D : BD} {ov tv : Value} (h : RefB B w g most last D ov tv) (hB : Below w.heap.size w w') : RefB B w' g most last D ov tv :=
  h.chg (S := fun _ => False) (Chg.of_below hB) (fun _ h => h.elim)
theorem row_slot {w : World} {B n cap : Nat} {a : Option Addr} {xs : List Int} (h : w.ownsRow B 3 1 (.slice a n cap) n (xs.map zi)) (hn : 0 < n) : ∃ b, a = some ⟨b, 0, none⟩ ∧ B ≤ b ∧ b < w.heap.size ∧ n ≤ cap ∧ cap ≤ maxLen ∧ ∀ j v, xs[j]? = some v → w.cell? ⟨b, j, none⟩ = some (.int .i64 v) := by
  rcases h.2 with ⟨_, h2⟩ | ⟨g', cap', cur, e1, e2, e3, e4, e5, e6⟩
  · omega
  · injection e1 with e1 _ e7
    subst e7; subst e1
    refine ⟨g', rfl, e2, lt_heap e3, e4, e5, fun j v hv => ?_⟩
    have hj := (List.getElem?_eq_some_iff.1 hv).1
    have hl := h.1
    simp at hl
    have := h.cellAt j (by omega)
    rw [this, List.getElem?_map, hv]; rfl
theorem row_none {w : World} {B n cap : Nat} {a : Option Addr} {xs : List Value} (h : w.ownsRow B 3 1 (.slice a n cap) n xs) : n ≤ cap ∧ cap ≤ maxLen ∧ (a = none → n = 0 ∧ cap = 0) := by
  rcases h.2 with ⟨h1, h2⟩ | ⟨g', cap', cur, e1, e2, e3, e4, e5, e6⟩
  · simp at h1; omega
  · injection e1 with e1 _ e7
    subst e7; subst e1
    exact ⟨e4, e5, fun h => by cases h⟩
def PlaceIs (D : BD) (h : Int) (i : Int) : Prop := (i = -1 ∧ tm D h = none) ∨ ∃ (q : Nat) (p : Int × Int), i = q ∧ D[q]? = some p ∧ p.1 = h
theorem tm_none_of {D : BD} {h : Int} (hno : ∀ q : Nat, q < D.length → (hs D)[q]? ≠ some h) : tm D h = none := by
  cases ht : tm D h with
  | none => rfl
  | some v =>
    have h1 := (tm_some_iff D h).1 (by rw [ht]; rfl)
    obtain ⟨q, hq⟩ := List.getElem?_of_mem h1
    have hql := (List.getElem?_eq_some_iff.1 hq).1
    rw [hs_len] at hql
    exact (hno q hql hq).elim

set_option maxRecDepth 100000 in
theorem place_any {B g : Nat} {most last : Int} {D : BD} {ov tv : Value} (h : Int) (w : World) (hR : RefB B w g most last D ov tv) :
    Calls Try.prog 23 #[.pointer (some ⟨g, 0, none⟩), .int .i64 h] w fun e w' => (∃ i : Int, e = .returned (.int .i64 i) ∧ PlaceIs D h i) ∧ w = w' := by
  have c1 := hR.c1
  have hlen := hR.pure.len
  have hl1 := hR.pure.l1
  obtain ⟨oa, oc, rfl⟩ := own_form hR.ho
  have HO := Lib.hid hR.ho
  clear hR
  generalize hdl : D.length = dl at *
  have HDL := Lib.hid hdl; clear hdl
  go_enter Try.func23, Try.ntmps23
  go_wp2_with fail
  go_loopw [5] (fun jv wr => ∃ j : Nat, j ≤ dl ∧ jv = .int .i64 j ∧ wr = w ∧ ∀ q : Nat, q < j → (hs D)[q]? ≠ some h) (fun jv _ => dl - (intOf jv).toNat)
  case atStart => exact ⟨0, Nat.zero_le _, rfl, rfl, fun q hq => by omega⟩
  case round =>
    obtain ⟨j, hj, rfl, rfl, hno⟩ := hrel
    have HNO := Lib.hid hno; clear hno
    by_cases hjl : j < dl
    · obtain ⟨ob, hoa, hob1, hob2, hob3, hob4, hobc⟩ := row_slot HO.out (by omega)
      subst hoa
      have hp : D[j]? = some (D[j]'(by rw [HDL.out]; exact hjl)) := List.getElem?_eq_getElem _
      generalize D[j]'(by rw [HDL.out]; exact hjl) = p at hp
      have hat : (hs D)[j]? = some p.1 := by unfold hs; rw [List.getElem?_map, hp]; rfl
      have f0 := hobc j p.1 hat
      have HP := Lib.hid hp; have HAT := Lib.hid hat
      clear hp hat hobc
      by_cases e : p.1 = h
      · have t1 : (p.1 == h) = true := by simpa using e
        have HE := Lib.hid e
        clear e
        go_wp2
        go_ret
        exact ⟨⟨j, rfl, .inr ⟨j, p, rfl, HP.out, HE.out⟩⟩, rfl⟩
      · have t1 : (p.1 == h) = false := by simpa using e
        have HE : Hid (¬ p.1 = h) := e
        clear e
        go_wp2
        go_roundw
        case rel =>
          refine ⟨j + 1, by omega, by go_num, by first | rfl | trivial, fun q hq => ?_⟩
          by_cases e2 : q = j
          · subst e2; rw [HAT.out]; intro e3; cases e3; exact HE.out rfl
          · exact HNO.out q (by omega)
        case measure => simp [intOf]; omega
    · have hnone : Hid (tm D h = none) := tm_none_of (fun q hq => HNO.out q (by rw [HDL.out] at hq; omega))
      go_wp2
      go_ret
      exact ⟨⟨-1, rfl, .inl ⟨rfl, hnone.out⟩⟩, rfl⟩

set_option maxRecDepth 100000 in
theorem rat_any {B g : Nat} {most last : Int} {D : BD} {ov tv : Value} (h : Int) (w : World) (hR : RefB B w g most last D ov tv) :
    Calls Try.prog 15 #[.pointer (some ⟨g, 0, none⟩), .int .i64 h] w fun e w' => e = .returned (match tm D h with | some t => .tuple #[.int .i64 t, .int .i64 0] | none => .tuple #[.int .i64 0, .int .i64 14]) ∧ w = w' := by
  have PL := Lib.hid (place_any h w hR)
  have c2 := hR.c2
  have hlen := hR.pure.len
  have hl1 := hR.pure.l1
  have HN := Lib.hid hR.pure.nodup
  obtain ⟨ta, tc, rfl⟩ := own_form hR.tmo
  have HO := Lib.hid hR.tmo
  clear hR
  cases ht : tm D h with
  | none =>
    have HT := Lib.hid ht
    clear ht
    simp only []
    go_enter Try.func15, Try.ntmps15
    go_wp2_with fail
    refine PL.out.mono ?_
    rintro e w1 ⟨⟨i, rfl, hi⟩, rfl⟩
    have hi2 : i = -1 := by
      rcases hi with ⟨h1, _⟩ | ⟨q, p, h1, hp, he⟩
      · exact h1
      · have := tm_at HN.out q p hp
        rw [he, HT.out] at this; cases this
    subst hi2
    clear hi
    go_wp2
    go_ret2
    exact ⟨rfl, rfl⟩
  | some t =>
    have HT := Lib.hid ht
    clear ht
    simp only []
    go_enter Try.func15, Try.ntmps15
    go_wp2_with fail
    refine PL.out.mono ?_
    rintro e w1 ⟨⟨i, rfl, hi⟩, rfl⟩
    rcases hi with ⟨_, hn⟩ | ⟨q, p, rfl, hp, he⟩
    · have := HT.out
      rw [hn] at this; cases this
    · have hql := (List.getElem?_eq_some_iff.1 hp).1
      have htm : t = p.2 := by
        have h1 := tm_at HN.out q p hp
        rw [he, HT.out] at h1; cases h1; rfl
      subst htm
      obtain ⟨tb, hta, htb1, htb2, htb3, htb4, htbc⟩ := row_slot HO.out (by omega)
      subst hta
      have f0 := htbc q p.2 (by unfold ts; rw [List.getElem?_map, hp]; rfl)
      clear htbc hp he
      go_wp2
      go_ret2
      exact ⟨rfl, rfl⟩

theorem low_take (D : BD) (now : Int) (j : Nat) (p : Int × Int) (h : D[j]? = some p) : low (D.take (j + 1)) now = min (low (D.take j) now) p.2 := by
  have e : D.take (j + 1) = D.take j ++ [p] := by rw [List.take_add_one, h]; rfl
  rw [e]
  unfold low
  rw [List.foldl_append]; rfl

set_option maxRecDepth 100000 in
theorem rlow_any {B g : Nat} {most last : Int} {D : BD} {ov tv : Value} (now : Int) (w : World) (hR : RefB B w g most last D ov tv) :
    Calls Try.prog 17 #[.pointer (some ⟨g, 0, none⟩), .int .i64 now] w fun e w' => e = .returned (.int .i64 (low D now)) ∧ w = w' := by
  have c2 := hR.c2
  have hlen := hR.pure.len
  have hl1 := hR.pure.l1
  obtain ⟨ta, tc, rfl⟩ := own_form hR.tmo
  have HO := Lib.hid hR.tmo
  clear hR
  generalize hdl : D.length = dl at *
  have HDL := Lib.hid hdl; clear hdl
  go_enter Try.func17, Try.ntmps17
  go_wp2_with fail
  go_loopw [1, 5] (fun nv jv wr => ∃ j : Nat, j ≤ dl ∧ jv = .int .i64 j ∧ nv = .int .i64 (low (D.take j) now) ∧ wr = w) (fun _ jv _ => dl - (intOf jv).toNat)
  case atStart => exact ⟨0, Nat.zero_le _, rfl, rfl, rfl⟩
  case round =>
    obtain ⟨j, hj, rfl, rfl, rfl⟩ := hrel
    by_cases hjl : j < dl
    · obtain ⟨tb, hta, htb1, htb2, htb3, htb4, htbc⟩ := row_slot HO.out (by omega)
      subst hta
      have hp : D[j]? = some (D[j]'(by rw [HDL.out]; exact hjl)) := List.getElem?_eq_getElem _
      generalize D[j]'(by rw [HDL.out]; exact hjl) = p at hp
      have f0 := htbc j p.2 (by unfold ts; rw [List.getElem?_map, hp]; rfl)
      have hlow := low_take D now j p hp
      clear htbc hp
      generalize low (D.take j) now = lj at *
      have HLW := Lib.hid hlow; clear hlow
      by_cases e : p.2 < lj
      · have he : Hid (low (D.take (j + 1)) now = p.2) := by show _ = _; rw [HLW.out]; omega
        go_wp2
        go_roundw
        case rel => exact ⟨j + 1, by omega, by go_num, by rw [he.out]; congr 1; first | rfl | omega | (split <;> omega), by first | rfl | trivial⟩
        case measure => simp [intOf]; omega
      · have he : Hid (low (D.take (j + 1)) now = lj) := by show _ = _; rw [HLW.out]; omega
        have e2 : lj ≤ p.2 := by omega
        clear e
        go_wp2
        go_roundw
        case rel => exact ⟨j + 1, by omega, by go_num, by rw [he.out]; congr 1; first | rfl | omega | (split <;> omega), by first | rfl | trivial⟩
        case measure => simp [intOf]; omega
    · have hd : Hid (low (D.take j) now = low D now) := by show _ = _; rw [List.take_of_length_le (by rw [HDL.out]; omega)]
      go_wp2
      go_ret
      exact ⟨by rw [hd.out]; rfl, rfl⟩
end Go.Proofs.Ytfmjkpobphjgkaa
