import Derived.Test.YtdgnhimiamchmaaOe
namespace Go.Proofs.Ytdgnhimiamchmaa
open Go.RowKit
open BigFrame Lib

theorem stab_snoc {α : Type} (key : α → Int) (l : List α) (x : α) : stab key (l ++ [x]) = insB key x (stab key l) := by
  unfold stab; rw [List.foldl_append]; rfl
/-- the place from the right -/
theorem insB_at {α : Type} (key : α → Int) (x : α) : ∀ (A B : List α), (∀ y ∈ A, key y ≤ key x) → (∀ y ∈ B, key x < key y) → insB key x (A ++ B) = A ++ x :: B
  | [], [], _, _ => rfl
  | [], y :: B, _, h => by
    show insB key x (y :: B) = _
    unfold insB
    rw [if_pos (h y (by simp))]; rfl
  | y :: A, B, h1, h2 => by
    show insB key x (y :: (A ++ B)) = _
    unfold insB
    have := h1 y (by simp)
    rw [if_neg (by omega), insB_at key x A B (fun z hz => h1 z (by simp [hz])) h2]; rfl
/-- the keys of a stable sort rise -/
theorem insB_le {α : Type} (key : α → Int) (x : α) : ∀ l : List α, l.Pairwise (fun a b => key a ≤ key b) → (insB key x l).Pairwise (fun a b => key a ≤ key b)
  | [], _ => List.pairwise_singleton _ _
  | y :: l, h => by
    rw [List.pairwise_cons] at h
    unfold insB
    by_cases c : key x < key y
    · rw [if_pos c, List.pairwise_cons, List.pairwise_cons]
      refine ⟨fun z hz => ?_, h⟩
      rcases List.mem_cons.1 hz with rfl | hz
      · omega
      · have := h.1 z hz; omega
    · rw [if_neg c, List.pairwise_cons]
      refine ⟨fun z hz => ?_, insB_le key x l h.2⟩
      rcases List.mem_cons.1 ((insB_perm key x l).mem_iff.1 hz) with rfl | hz
      · omega
      · exact h.1 z hz
theorem stab_le {α : Type} (key : α → Int) (l : List α) : (stab key l).Pairwise (fun a b => key a ≤ key b) := by
  have : ∀ (l s : List α), s.Pairwise (fun a b => key a ≤ key b) → (l.foldl (fun acc x => insB key x acc) s).Pairwise (fun a b => key a ≤ key b) := by
    intro l
    induction l with
    | nil => intro s h; exact h
    | cons x l ih => intro s h; exact ih _ (insB_le key x s h)
  exact this l [] .nil

/-- a row of numbers in a block of one's own -/
def RowC (w : World) (B g cap : Nat) (xs : List Nat) : Prop := B ≤ g ∧ ∃ rest : List Value, w.heap[g]? = some (.cells (xs.map i64n ++ rest).toArray 3 (0, 0)) ∧ xs.length + rest.length = cap ∧ cap ≤ maxLen
theorem RowC.own {w : World} {B g cap : Nat} {xs : List Nat} (h : RowC w B g cap xs) : w.ownsRow B 3 1 (.slice (some ⟨g, 0, none⟩) xs.length cap) xs.length (xs.map i64n) := by
  obtain ⟨h1, rest, h2, h3, h4⟩ := h
  exact ⟨by simp, .inr ⟨g, cap, _, rfl, h1, h2, by omega, h4, by simp; omega, by simp⟩⟩
theorem RowC.of_own {w : World} {B n : Nat} {v : Value} {xs : List Nat} (h : w.ownsRow B 3 1 v n (xs.map i64n)) (hn : 0 < n) : ∃ g cap, v = .slice (some ⟨g, 0, none⟩) xs.length cap ∧ n = xs.length ∧ RowC w B g cap xs := by
  have hl := h.1
  simp at hl
  rcases h.2 with ⟨_, h2⟩ | ⟨g, cap, cur, h1, h2, h3, h4, h5, h6, h7⟩
  · omega
  · refine ⟨g, cap, by rw [hl]; exact h1, hl.symm, h2, cur.toList.drop n, ?_, ?_, h5⟩
    · rw [h3]
      congr 2
      have : cur.toList = xs.map i64n ++ cur.toList.drop n := by
        rw [← h7]; simp
      rw [← this]
    · have h8 : cur.toList.length = cap := by simpa using h6
      rw [List.length_drop]
      omega
theorem RowC.lt {w : World} {B g cap : Nat} {xs : List Nat} (h : RowC w B g cap xs) : g < w.heap.size := by
  obtain ⟨h1, rest, h2, _⟩ := h; exact lt_heap h2
theorem RowC.get {w : World} {B g cap : Nat} {xs : List Nat} (h : RowC w B g cap xs) {i x : Nat} (hi : xs[i]? = some x) : w.cell? ⟨g, i, none⟩ = some (.int .i64 (x : Int)) := by
  obtain ⟨h1, rest, h2, _⟩ := h
  have hl := (List.getElem?_eq_some_iff.1 hi).1
  refine cell_heap h2 ?_
  rw [List.getElem?_append_left (by simpa using hl), List.getElem?_map, hi]; rfl
theorem RowC.free {w : World} {B g cap : Nat} {xs : List Nat} (h : RowC w B g cap xs) (i : Nat) : w.frozen? ⟨g, i, none⟩ = false := by
  obtain ⟨h1, rest, h2, _⟩ := h
  exact free_heap h2
theorem RowC.set {w : World} {B g cap : Nat} {xs : List Nat} (h : RowC w B g cap xs) {i : Nat} (hi : i < xs.length) (x : Nat) : RowC (w.setCell ⟨g, i, none⟩ (.int .i64 (x : Int))) B g cap (xs.set i x) := by
  obtain ⟨h1, rest, h2, h3, h4⟩ := h
  refine ⟨h1, rest, ?_, by simpa using h3, h4⟩
  rw [set_heap h2, List.set_append_left _ _ (by simpa using hi), List.map_set]; rfl
theorem RowC.of_eq {w w' : World} {B g cap : Nat} {xs : List Nat} (h : RowC w B g cap xs) (he : w'.heap[g]? = w.heap[g]?) : RowC w' B g cap xs := by
  obtain ⟨h1, rest, h2, h3⟩ := h
  exact ⟨h1, rest, he.trans h2, h3⟩

/-- the order of the first i -/
def ordN (l : List HistV) (i : Nat) : List Nat := stab (fun i => (hget l i).tm) (wroteN l i)
theorem ordN_len (l : List HistV) (i : Nat) : (ordN l i).length ≤ i := by
  unfold ordN; rw [(stab_perm _ _).length_eq]; exact wroteN_len l i
theorem ordN_lt (l : List HistV) (i : Nat) : ∀ x ∈ ordN l i, x < i := fun x hx => by
  have := (stab_perm _ _).mem_iff.1 hx
  simpa using (List.mem_filter.1 this).1
theorem set_two {A B : List Nat} {v b : Nat} (k : Nat) (hk : A.length + B.length = k) : (A ++ (B ++ [b]) ++ [v]).set (k + 1) b = A ++ B ++ [b] ++ [b] := by
  rw [List.set_append_right _ _ (by simp; omega)]
  simp
  rw [show k + 1 - (A.length + (B.length + 1)) = 0 by omega]; rfl

set_option maxRecDepth 100000 in
set_option maxHeartbeats 8000000 in
theorem rorder_any (a : Option Addr) (c : Nat) (l : List HistV) (w : World) (hl : l.length ≤ 100000) (hA : HRow w a l) :
    Calls Try.prog 63 #[.slice a l.length c] w fun e w' => ∃ a' c', e = .returned (.slice a' (ordL l).length c') ∧ Below w.heap.size w w' ∧ Rd i64n w' a' (ordL l) := by
  have HA := Lib.hid hA
  obtain ⟨i0, hi0, hz0, hz1, hz2⟩ := info_parts Try.info3
  have HI := Lib.hid hi0; have HZ0 := Lib.hid hz0; have HZ1 := Lib.hid hz1; have HZ2 := Lib.hid hz2
  clear hA hi0 hz0 hz1 hz2
  generalize hq : l.length = len at *
  have HL := Lib.hid hq
  clear hq
  go_enter Try.func63, Try.ntmps63
  go_wp2_with fail
  go_loopw [3, 4] (fun ov iv wr => ∃ i : Nat, i ≤ len ∧ iv = .int .i64 i ∧ Below w.heap.size w wr ∧ wr.ownsRow w.heap.size 3 1 ov (ordN l i).length ((ordN l i).map i64n)) (fun _ iv _ => len - (intOf iv).toNat)
  case atStart => exact ⟨0, Nat.zero_le _, rfl, Below.refl _ _, ⟨rfl, .inl ⟨rfl, rfl⟩⟩⟩
  case round =>
    obtain ⟨i, hi, rfl, hB, hO⟩ := hrel
    have hsz := hB.size
    obtain ⟨oa, oc, rfl⟩ := own_form hO
    have HO := Lib.hid hO
    have HBW := Lib.hid hB
    have hwl := ordN_len l i
    have HLT := Lib.hid (ordN_lt l i)
    clear hO hB
    by_cases hlt : i < len
    · have hx : l[i]? = some (l[i]'(by rw [HL.out]; exact hlt)) := List.getElem?_eq_getElem _
      generalize l[i]'(by rw [HL.out]; exact hlt) = x at hx
      obtain ⟨b, o, rfl, e1, k0, k1, k2, k3, k4, k5, k6⟩ := (HA.out.below HBW.out) i x hx
      have HWS : Hid (ordN l (i + 1) = if wroteH x = true then insB (fun i => (hget l i).tm) i (ordN l i) else ordN l i) := by
        show _ = _
        unfold ordN
        rw [wroteN_snoc, hget_of hx]
        by_cases hw : wroteH x = true
        · rw [if_pos hw, if_pos hw, stab_snoc]
        · rw [if_neg hw, if_neg hw, List.append_nil]
      have HGX := Lib.hid (hget_of hx)
      have HXR := Lib.hid hx
      have HWR := Lib.hid (fun W => wrote81_any x W)
      clear hx
      unfold aggH at HWR
      generalize x.pl.length = xpl at *
      generalize x.rl.length = xrl at *
      have HSORT := Lib.hid (stab_le (fun i => (hget l i).tm) (wroteN l i))
      change Hid ((ordN l i).Pairwise _) at HSORT
      generalize ordN l i = os at *
      generalize hwq : os.length = wl at *
      have HWQ := Lib.hid hwq
      clear hwq
      cases hw : wroteH x with
      | false =>
        have HF : Hid (ordN l (i + 1) = os) := by show _ = _; rw [HWS.out, hw]; simp
        have HW := Lib.hid hw; clear hw
        go_wp2_with (go_at_call 81; refine (HWR.out _).mono ?_; rintro e w3 ⟨rfl, hB3⟩; rw [HW.out])
        go_roundw
        case rel =>
          refine ⟨i + 1, by omega, by go_num, HBW.out.trans (hB3.mono hsz), ?_⟩
          rw [HF.out, HWQ.out]
          exact own_below HO.out hB3
        case measure => simp [intOf]; omega
      | true =>
        have HF : Hid (ordN l (i + 1) = insB (fun i => (hget l i).tm) i os) := by show _ = _; rw [HWS.out, hw]; simp
        have HW := Lib.hid hw; clear hw
        go_wp2_with (go_at_call 81; refine (HWR.out _).mono ?_; rintro e w3 ⟨rfl, hB3⟩; rw [HW.out])
        have HB3 := Lib.hid (HBW.out.trans (hB3.mono hsz))
        have HO3 := Lib.hid (own_below HO.out hB3)
        have hs3 := HB3.out.size
        have k2' := (hB3.cell (p := ⟨b, o + i * 7 + 2, none⟩) e1).trans k2
        have e1' : b < w3.heap.size := by have := hB3.size; omega
        have HR3 := Lib.hid (HA.out.below HB3.out)
        clear hB3 HO HBW HWR k0 k1 k2 k3 k4 k5 k6 HWS e1
        clear hsz
        generalize wr = wo at *
        go_loopw [5] (fun av wr => ∃ q : Nat, av = .int .i64 q ∧ q ≤ wl ∧ Below w3.heap.size w3 wr ∧ Aside (∀ y ∈ os.drop q, x.tm < (hget l y).tm)) (fun av _ => (intOf av).toNat)
        case atStart => exact ⟨wl, rfl, Nat.le_refl _, Below.refl _ _, fun y hy => by rw [List.drop_eq_nil_of_le (by rw [HWQ.out]; exact Nat.le_refl _)] at hy; simp at hy⟩
        case round =>
          obtain ⟨q, rfl, hq, hBq, HD⟩ := hrel
          have hsq := hBq.size
          have k2q := (hBq.cell (p := ⟨b, o + i * 7 + 2, none⟩) e1').trans k2'
          have HBQ := Lib.hid hBq
          have OUT : Aside ((q = 0 ∨ ∃ y, os[q - 1]? = some y ∧ (hget l y).tm ≤ x.tm) → ordN l (i + 1) = os.take q ++ i :: os.drop q) := fun hs => by
            rw [HF.out]
            conv => lhs; rw [← List.take_append_drop q os]
            refine insB_at _ i _ _ (fun y hy => ?_) (fun y hy => by rw [HGX.out]; exact HD.out y hy)
            rw [HGX.out]
            rcases hs with rfl | ⟨z, hz, hzt⟩
            · simp at hy
            · obtain ⟨k, hk, rfl⟩ := List.getElem_of_mem hy
              rw [List.length_take] at hk
              obtain ⟨hz1, rfl⟩ := List.getElem?_eq_some_iff.1 hz
              rw [List.getElem_take]
              rcases Nat.lt_or_ge k (q - 1) with h | h
              · have := List.pairwise_iff_getElem.1 HSORT.out k (q - 1) (by omega) hz1 h
                omega
              · obtain rfl : k = q - 1 := by omega
                exact hzt
          clear hBq
          by_cases hq0 : 0 < q
          · obtain ⟨p, hp⟩ : ∃ p, p + 1 = q := ⟨q - 1, by omega⟩
            have zp : (q : Int) = (p : Int) + 1 := by omega
            have hy : os[p]? = some (os[p]'(by rw [HWQ.out]; omega)) := List.getElem?_eq_getElem _
            generalize os[p]'(by rw [HWQ.out]; omega) = y at hy
            have hyi := HLT.out y (List.mem_of_getElem? hy)
            obtain ⟨gb, go, hoa, g1, g2⟩ := (Rd.of_own (own_below HO3.out HBQ.out)).2 p y hy
            have hgy : l[y]? = some (l[y]'(by rw [HL.out]; omega)) := List.getElem?_eq_getElem _
            generalize l[y]'(by rw [HL.out]; omega) = z at hgy
            obtain ⟨b', o', hbb, f1, _, _, f2, _⟩ := (HR3.out.below HBQ.out) y z hgy
            have HZ := Lib.hid (hget_of hgy)
            have HY := Lib.hid hy
            have HOA := Lib.hid hoa
            cases hbb
            have g2' : wr.cell? ⟨gb, go + p, none⟩ = some (.int .i64 (y : Int)) := g2
            have hpw : (p : Int) < (wl : Int) := by omega
            have hyl : (y : Int) < (len : Int) := by omega
            have t0 : decide ((p : Int) + 1 > 0) = true := decide_eq_true (by omega)
            subst hoa
            clear hy hgy g2
            by_cases hzt : x.tm < z.tm
            · have t1 : decide (z.tm > x.tm) = true := decide_eq_true hzt
              have HT := Lib.hid hzt
              clear hzt
              go_wp2_with fail
              go_quiet (fail)
              go_wp2
              go_roundw
              case rel =>
                refine ⟨p, by go_num, by omega, below_drewN HBQ.out _, fun u hu => ?_⟩
                rw [drop_cons HY.out] at hu
                rcases List.mem_cons.1 hu with rfl | hu
                · rw [HZ.out]; exact HT.out
                · exact HD.out u (by rw [hp] at hu; exact hu)
              case measure => simp [intOf]; omega
            · have t1 : decide (z.tm > x.tm) = false := decide_eq_false hzt
              have HT : Hid (ordN l (i + 1) = os.take q ++ i :: os.drop q) := OUT.out (.inr ⟨y, by rw [show q - 1 = p by omega]; exact HY.out, by rw [HZ.out]; omega⟩)
              clear hzt
              go_wp2_with fail
              go_quiet (fail)
              have HB4 : Hid (Below w3.heap.size w3 (wr.drewN nq)) := below_drewN HBQ.out _
              have HO4 : Hid ((wr.drewN nq).ownsRow w.heap.size 3 1 (.slice _ wl oc) wl (os.map i64n)) := own_below HO3.out HB4.out
              have hs4 : w3.heap.size ≤ (wr.drewN nq).heap.size := HB4.out.size
              clear HBQ OUT HD hsq k2q
              generalize wr.drewN nq = w4 at *
              clear nq
              go_wp2_with (at_builtin; refine wpList_append_own _ rfl _ _ 44 rfl w.heap.size 3 i0 _ 1 8 Try.underlying44 HI.out HZ0.out HZ1.out HZ2.out rfl (by decide) _ _ _ rfl ((HO4.out).alloc _) ⟨w4.heap.size, 0, none⟩ 1 1 [.int .i64 0] rfl rfl ?c0 ?c2 ?c3 ?c4 ?c5 ?_)
              case c0 => exact World.news_of_block (cs := #[.int .i64 0]) (t := 3) (fr := (0, 0)) (alloc_new rfl)
              case c2 => intro u hu; simp at hu; rcases hu with rfl; rfl
              case c3 => unfold maxLen; omega
              case c4 => omega
              case c5 => simp; omega
              intro v' w5 hown5 hgr _
              have hB5 : Below w.heap.size w w5 := ((HB3.out.trans (HB4.out.mono hs3)).alloc (by omega) _).grown hgr (by simp; omega) (fun kk hk => own_ge HO4.out kk hk)
              obtain ⟨g, cap, rfl, hln, hRC⟩ := RowC.of_own (xs := os ++ [0]) (by rw [List.map_append]; exact hown5) (by omega)
              have HRC := Lib.hid hRC
              have HB5 := Lib.hid hB5
              have hs5 := hB5.size
              have hgl := hRC.lt
              have HGB : Hid (w.heap.size ≤ g) := hRC.1
              have hlen1 : (os ++ [0]).length = wl + 1 := by simp [HWQ.out]
              rw [hlen1]
              clear hown5 hgr hln hRC hB5 hlen1 HO4
              generalize wr = wq at *
              go_wp2_with fail
              go_loopw [6] (fun kv wr => ∃ (k v : Nat), kv = .int .i64 k ∧ q ≤ k ∧ k ≤ wl ∧ Aside (RowC wr w.heap.size g cap (os.take k ++ v :: os.drop k)) ∧ Aside (Chg (· = g) w5 wr)) (fun kv _ => (intOf kv).toNat)
              case atStart => exact ⟨wl, 0, by go_num, by omega, Nat.le_refl _, by rw [List.take_of_length_le (by rw [HWQ.out]; exact Nat.le_refl _), List.drop_eq_nil_of_le (by rw [HWQ.out]; exact Nat.le_refl _)]; exact HRC.out, Chg.refl _ _⟩
              case round =>
                obtain ⟨k, v, rfl, hqk, hkw, HR, HC⟩ := hrel
                by_cases hlk : q < k
                · obtain ⟨pk, hpk⟩ : ∃ p, p + 1 = k := ⟨k - 1, by omega⟩
                  have zk : (k : Int) - 1 = (pk : Int) := by omega
                  have wk : IntKind.i64.wrap ((k : Int) - 1) = (pk : Int) := by rw [IntKind.wrap_i64]; omega
                  have hz : os[pk]? = some (os[pk]'(by rw [HWQ.out]; omega)) := List.getElem?_eq_getElem _
                  generalize os[pk]'(by rw [HWQ.out]; omega) = u at hz
                  have htk : os.take k = os.take pk ++ [u] := by rw [← hpk, List.take_add_one, hz]; rfl
                  have htl : (os.take pk).length = pk := by rw [List.length_take, HWQ.out]; omega
                  have hg1 : wr.cell? ⟨g, pk, none⟩ = some (.int .i64 (u : Int)) := HR.out.get (by rw [htk]; simp [htl])
                  have hg2 : wr.cell? ⟨g, k, none⟩ = some (.int .i64 (v : Int)) := HR.out.get (by rw [htk, ← hpk]; simp [htl])
                  have hf := HR.out.free k
                  have hset := HR.out.set (i := k) (by rw [htk]; simp [htl]; omega) u
                  have HSET : Aside (RowC (wr.setCell ⟨g, k, none⟩ (.int .i64 (u : Int))) w.heap.size g cap (os.take pk ++ u :: os.drop pk)) := by
                    have e : (os.take k ++ v :: os.drop k).set k u = os.take pk ++ u :: os.drop pk := by
                      rw [htk, drop_cons hz, hpk]
                      rw [List.set_append_right _ _ (by simp [htl]; omega)]
                      simp [htl, ← hpk]
                    rw [← e]; exact hset
                  have hkk : (k : Int) < (wl : Int) + 1 := by omega
                  have hkk2 : (pk : Int) < (wl : Int) + 1 := by omega
                  have t1 : decide ((k : Int) > (q : Int)) = true := decide_eq_true (by omega)
                  have HPK : Aside (pk + 1 = k) := hpk
                  clear hz htk htl hset HR
                  go_wp2
                  go_roundw
                  case rel => exact ⟨pk, u, by go_num, by omega, by omega, HSET, HC.out.setCell (.inl rfl) _⟩
                  case measure => simp [intOf]; omega
                · obtain rfl : k = q := by omega
                  have htl : (os.take k).length = k := by rw [List.length_take, HWQ.out]; omega
                  have hg2 : wr.cell? ⟨g, k, none⟩ = some (.int .i64 (v : Int)) := HR.out.get (by simp [htl])
                  have hf := HR.out.free k
                  have hset := HR.out.set (i := k) (by simp [htl]) i
                  have HSET : Aside (RowC (wr.setCell ⟨g, k, none⟩ (.int .i64 (i : Int))) w.heap.size g cap (ordN l (i + 1))) := by
                    rw [HT.out]
                    have e : (os.take k ++ v :: os.drop k).set k i = os.take k ++ i :: os.drop k := by
                      rw [List.set_append_right _ _ (by simp [htl])]
                      simp [htl]
                    rw [← e]; exact hset
                  have HLN : Hid ((ordN l (i + 1)).length = wl + 1) := by show _ = _; rw [HT.out]; simp [HWQ.out]; omega
                  have hkk : (k : Int) < (wl : Int) + 1 := by omega
                  have t1 : decide ((k : Int) > (k : Int)) = false := decide_eq_false (by omega)
                  clear hset HR htl
                  go_wp2
                  refine ⟨⟨i + 1, by omega, by go_num, ?_, ?_⟩, by simp [intOf]; omega⟩
                  · exact HB5.out.trans ((HC.out.setCell (.inl rfl) _).below hs5 (fun kk hk e => by have := HGB.out; omega))
                  · have := HSET.out.own
                    rw [HLN.out] at this ⊢
                    exact this
          · obtain rfl : q = 0 := by omega
            have HT : Hid (ordN l (i + 1) = os.take 0 ++ i :: os.drop 0) := OUT.out (.inl rfl)
            have t0 : decide ((0 : Int) > 0) = false := decide_eq_false (by omega)
            go_wp2_with fail
            go_quiet (fail)
            have HB4 : Hid (Below w3.heap.size w3 (wr.drewN nq)) := below_drewN HBQ.out _
            have HO4 : Hid ((wr.drewN nq).ownsRow w.heap.size 3 1 (.slice _ wl oc) wl (os.map i64n)) := own_below HO3.out HB4.out
            have hs4 : w3.heap.size ≤ (wr.drewN nq).heap.size := HB4.out.size
            clear HBQ OUT HD hsq k2q
            generalize wr.drewN nq = w4 at *
            clear nq
            go_wp2_with (at_builtin; refine wpList_append_own _ rfl _ _ 44 rfl w.heap.size 3 i0 _ 1 8 Try.underlying44 HI.out HZ0.out HZ1.out HZ2.out rfl (by decide) _ _ _ rfl ((HO4.out).alloc _) ⟨w4.heap.size, 0, none⟩ 1 1 [.int .i64 0] rfl rfl ?c0 ?c2 ?c3 ?c4 ?c5 ?_)
            case c0 => exact World.news_of_block (cs := #[.int .i64 0]) (t := 3) (fr := (0, 0)) (alloc_new rfl)
            case c2 => intro u hu; simp at hu; rcases hu with rfl; rfl
            case c3 => unfold maxLen; omega
            case c4 => omega
            case c5 => simp; omega
            intro v' w5 hown5 hgr _
            have hB5 : Below w.heap.size w w5 := ((HB3.out.trans (HB4.out.mono hs3)).alloc (by omega) _).grown hgr (by simp; omega) (fun kk hk => own_ge HO4.out kk hk)
            obtain ⟨g, cap, rfl, hln, hRC⟩ := RowC.of_own (xs := os ++ [0]) (by rw [List.map_append]; exact hown5) (by omega)
            have HRC := Lib.hid hRC
            have HB5 := Lib.hid hB5
            have hs5 := hB5.size
            have hgl := hRC.lt
            have HGB : Hid (w.heap.size ≤ g) := hRC.1
            have hlen1 : (os ++ [0]).length = wl + 1 := by simp [HWQ.out]
            rw [hlen1]
            clear hown5 hgr hln hRC hB5 hlen1 HO4
            generalize wr = wq at *
            go_wp2_with fail
            go_loopw [6] (fun kv wr => ∃ (k v : Nat), kv = .int .i64 k ∧ 0 ≤ k ∧ k ≤ wl ∧ Aside (RowC wr w.heap.size g cap (os.take k ++ v :: os.drop k)) ∧ Aside (Chg (· = g) w5 wr)) (fun kv _ => (intOf kv).toNat)
            case atStart => exact ⟨wl, 0, by go_num, by omega, Nat.le_refl _, by rw [List.take_of_length_le (by rw [HWQ.out]; exact Nat.le_refl _), List.drop_eq_nil_of_le (by rw [HWQ.out]; exact Nat.le_refl _)]; exact HRC.out, Chg.refl _ _⟩
            case round =>
              obtain ⟨k, v, rfl, hqk, hkw, HR, HC⟩ := hrel
              by_cases hlk : 0 < k
              · obtain ⟨pk, hpk⟩ : ∃ p, p + 1 = k := ⟨k - 1, by omega⟩
                have zk : (k : Int) - 1 = (pk : Int) := by omega
                have wk : IntKind.i64.wrap ((k : Int) - 1) = (pk : Int) := by rw [IntKind.wrap_i64]; omega
                have hz : os[pk]? = some (os[pk]'(by rw [HWQ.out]; omega)) := List.getElem?_eq_getElem _
                generalize os[pk]'(by rw [HWQ.out]; omega) = u at hz
                have htk : os.take k = os.take pk ++ [u] := by rw [← hpk, List.take_add_one, hz]; rfl
                have htl : (os.take pk).length = pk := by rw [List.length_take, HWQ.out]; omega
                have hg1 : wr.cell? ⟨g, pk, none⟩ = some (.int .i64 (u : Int)) := HR.out.get (by rw [htk]; simp [htl])
                have hg2 : wr.cell? ⟨g, k, none⟩ = some (.int .i64 (v : Int)) := HR.out.get (by rw [htk, ← hpk]; simp [htl])
                have hf := HR.out.free k
                have hset := HR.out.set (i := k) (by rw [htk]; simp [htl]; omega) u
                have HSET : Aside (RowC (wr.setCell ⟨g, k, none⟩ (.int .i64 (u : Int))) w.heap.size g cap (os.take pk ++ u :: os.drop pk)) := by
                  have e : (os.take k ++ v :: os.drop k).set k u = os.take pk ++ u :: os.drop pk := by
                    rw [htk, drop_cons hz, hpk]
                    rw [List.set_append_right _ _ (by simp [htl]; omega)]
                    simp [htl, ← hpk]
                  rw [← e]; exact hset
                have hkk : (k : Int) < (wl : Int) + 1 := by omega
                have hkk2 : (pk : Int) < (wl : Int) + 1 := by omega
                have t1 : decide ((k : Int) > 0) = true := decide_eq_true (by omega)
                have HPK : Aside (pk + 1 = k) := hpk
                clear hz htk htl hset HR
                go_wp2
                go_roundw
                case rel => exact ⟨pk, u, by go_num, by omega, by omega, HSET, HC.out.setCell (.inl rfl) _⟩
                case measure => simp [intOf]; omega
              · have hk0 : k = 0 := by omega
                subst hk0
                have htl : (os.take 0).length = 0 := by rw [List.length_take, HWQ.out]; omega
                have hg2 : wr.cell? ⟨g, 0, none⟩ = some (.int .i64 (v : Int)) := HR.out.get (by simp [htl])
                have hf := HR.out.free 0
                have hset := HR.out.set (i := 0) (by simp [htl]) i
                have HSET : Aside (RowC (wr.setCell ⟨g, 0, none⟩ (.int .i64 (i : Int))) w.heap.size g cap (ordN l (i + 1))) := by
                  rw [HT.out]
                  have e : (os.take 0 ++ v :: os.drop 0).set 0 i = os.take 0 ++ i :: os.drop 0 := by
                    rw [List.set_append_right _ _ (by simp [htl])]
                    simp [htl]
                  rw [← e]; exact hset
                have HLN : Hid ((ordN l (i + 1)).length = wl + 1) := by show _ = _; rw [HT.out]; simp [HWQ.out]
                have hkk : (0 : Int) < (wl : Int) + 1 := by omega
                have t1 : decide ((0 : Int) > 0) = false := decide_eq_false (by omega)
                clear hset HR htl
                go_wp2
                refine ⟨⟨i + 1, by omega, by go_num, ?_, ?_⟩, by simp [intOf]; omega⟩
                · exact HB5.out.trans ((HC.out.setCell (.inl rfl) _).below hs5 (fun kk hk e => by have := HGB.out; omega))
                · have := HSET.out.own
                  rw [HLN.out] at this ⊢
                  exact this
    · obtain rfl : i = len := by omega
      have ho : ordN l i = ordL l := by unfold ordN ordL; rw [← HL.out]; rfl
      have HO2 : Hid (wr.ownsRow w.heap.size 3 1 (.slice oa (ordN l i).length oc) (ordN l i).length ((ordL l).map i64n)) := by
        have := HO.out
        rw [← ho]; exact this
      have HOL := Lib.hid (congrArg List.length ho)
      clear ho HO
      generalize (ordN l i).length = wl at *
      go_wp2
      go_ret
      exact ⟨oa, oc, by rw [← HOL.out]; rfl, HBW.out, (Rd.of_own HO2.out).2⟩
end Go.Proofs.Ytdgnhimiamchmaa
