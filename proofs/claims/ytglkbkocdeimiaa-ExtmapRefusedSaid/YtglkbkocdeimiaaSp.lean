import Derived.Test.YtglkbkocdeimiaaDm
namespace Go.Proofs.Ytglkbkocdeimiaa
open Go.RowKit
open BigFrame Lib

theorem puts_of_row {w : World} {B : Nat} {a : Option Addr} {c : Nat} {ps : List PutV} (h : w.ownsRow B 38 2 (.slice a ps.length c) ps.length (ps.flatMap encP)) (hp : ∀ p ∈ ps, p.d.length = 40 ∧ PutOk w p) : PutsAt w a ps := by
  intro i x hi
  have hlt := (List.getElem?_eq_some_iff.1 hi).1
  obtain ⟨h40, hok⟩ := hp x (List.mem_of_getElem? hi)
  rcases h.2 with ⟨_, h2⟩ | ⟨g', cap, cur, h1, h2, h3, h4⟩
  · omega
  · simp at h1
    obtain ⟨rfl, rfl⟩ := h1
    have g0 := flat_get (enc := encP) (k := 2) (fun _ => rfl) ps i 0 (by omega)
    have g1 := flat_get (enc := encP) (k := 2) (fun _ => rfl) ps i 1 (by omega)
    rw [hi] at g0 g1
    simp only [Option.bind_some] at g0 g1
    have c0 := h.cellAt (i * 2 + 0) (by omega)
    have c1 := h.cellAt (i * 2 + 1) (by omega)
    refine ⟨g', 0, rfl, lt_heap h3, ?_, ?_, hok⟩
    · rw [Nat.zero_add]; exact c0.trans g0
    · rw [Nat.zero_add, h40]; exact c1.trans g1
theorem PutsOwn.at {B : Nat} {w : World} {a : Option Addr} {c : Nat} {ps : List PutV} (h : PutsOwn B w (.slice a ps.length c) ps) (hb : ∀ p ∈ ps, -9223372036854775808 ≤ p.lba ∧ p.lba ≤ 9223372036854775807) : PutsAt w a ps :=
  puts_of_row h.row (fun p hp => by
    have hd := h.data p hp
    have hl := (Rd.of_own hd).1
    exact ⟨hl.symm, (hb p hp).1, (hb p hp).2, by rw [← hl]; unfold maxLen; omega, own_cap hd, (Rd.of_own hd).2⟩)


theorem conv_any {w : World} {b o n c : Nat} {l : List Int} (hl : l.length = n) (h : Rd u8 w (some ⟨b, o, none⟩) l) : (convert 36 9 (.slice (some ⟨b, o, none⟩) n c)).run Try.prog w = .ok (.string (strOfNums l)) w :=
  run_convert_bytes_arg w 36 5 Try.underlying36 Try.underlying5 b o n c l hl (fun i hi => by
    have hx : l[i]? = some (l[i]'(by omega)) := List.getElem?_eq_getElem _
    obtain ⟨b', o', e1, _, h3⟩ := h i _ hx
    cases e1
    rw [h3, List.getD_eq_getElem?_getD, hx]; rfl) 9 (by kernel_rfl)

set_option maxRecDepth 100000 in
theorem samePuts_any (a1 a2 : Option Addr) (c1 c2 : Nat) (l1 l2 : List PutV) (w : World) (hn : l1.length ≤ 140737488351232) (h1 : PutsAt w a1 l1) (h2 : PutsAt w a2 l2) (he : l1.map lv = l2.map lv) (h40 : ∀ x ∈ l1, x.d.length = 40) :
    Calls Try.prog 22 #[.slice a1 l1.length c1, .slice a2 l2.length c2] w fun e w' => e = .returned (.bool true) ∧ Below w.heap.size w w' := by
  have hl : l2.length = l1.length := by have := congrArg List.length he; simpa using this.symm
  rw [hl]
  have H1 := Lib.hid h1; have H2 := Lib.hid h2; have HE := Lib.hid he; have H40 := Lib.hid h40; have HL := Lib.hid hl; clear h1 h2 he h40 hl
  have t1 : ((l1.length : Int) != (l1.length : Int)) = false := by simp
  generalize hm : l1.length = n at *
  have HM := Lib.hid hm; clear hm
  go_enter Try.func22, Try.ntmps22
  go_wp2_with fail
  go_loopw [5] (fun iv wr => ∃ i : Nat, i ≤ n ∧ iv = .int .i64 i ∧ Below w.heap.size w wr) (fun iv _ => n - (intOf iv).toNat)
  case atStart => exact ⟨0, Nat.zero_le _, rfl, Below.refl _ _⟩
  case round =>
    obtain ⟨i, hi, rfl, hB⟩ := hrel
    by_cases hlt : i < n
    · have hx : l1[i]? = some (l1[i]'(by rw [HM.out]; exact hlt)) := List.getElem?_eq_getElem _
      generalize l1[i]'(by rw [HM.out]; exact hlt) = x at hx
      have hy : l2[i]? = some (l2[i]'(by rw [HL.out]; exact hlt)) := List.getElem?_eq_getElem _
      generalize l2[i]'(by rw [HL.out]; exact hlt) = y at hy
      have hxy : lv x = lv y := by
        have h3 : (l1.map lv)[i]? = (l2.map lv)[i]? := by rw [HE.out]
        rw [List.getElem?_map, List.getElem?_map, hx, hy] at h3
        simpa using h3
      obtain ⟨b1, o1, rfl, e1, d1, d2, d3⟩ := H1.out.below hB i x hx
      obtain ⟨b2, o2, rfl, e2, f1, f2, f3⟩ := H2.out.below hB i y hy
      have hx40 := H40.out x (List.mem_of_getElem? hx)
      obtain ⟨xl, xa, xc, xd⟩ := x
      obtain ⟨yl, ya, yc, yd⟩ := y
      simp only [lv, Prod.mk.injEq] at hxy
      obtain ⟨rfl, rfl⟩ := hxy
      simp only at hx40 d1 d2 f1 f2
      rw [hx40] at d2 f2
      obtain ⟨b3, o3, rfl, _⟩ := d3.2.2.2.2.head (by show 0 < xd.length; omega)
      obtain ⟨b4, o4, rfl, _⟩ := f3.2.2.2.2.head (by show 0 < xd.length; omega)
      have cv1 : ∀ k, (convert 36 9 (.slice (some ⟨b3, o3, none⟩) 40 xc)).run Try.prog (wr.drewN k) = .ok (.string (strOfNums xd)) (wr.drewN k) := fun k => conv_any hx40 (d3.2.2.2.2.below (below_drewN (Below.refl _ _) k))
      have cv2 : ∀ k, (convert 36 9 (.slice (some ⟨b4, o4, none⟩) 40 yc)).run Try.prog (wr.drewN k) = .ok (.string (strOfNums xd)) (wr.drewN k) := fun k => conv_any hx40 (f3.2.2.2.2.below (below_drewN (Below.refl _ _) k))
      generalize strOfNums xd = s at *
      have t2 : (xl != xl) = false := by simp
      clear hx hy d3 f3 hx40
      go_wp2_with fail
      go_quiet (fail)
      go_wp2
      go_roundw
      case rel => exact ⟨i + 1, by omega, by go_num, below_drewN hB _⟩
      case measure => simp [intOf]; omega
    · go_wp2
      go_ret
      exact ⟨rfl, hB⟩

theorem PutsOwn.chg {B : Nat} {S : Nat → Prop} {w w' : World} {v : Value} {ps : List PutV} (h : PutsOwn B w v ps) (hC : Chg S w w') (h1 : ∀ k, S k → NoRow w 5 k) (h2 : ∀ k, S k → NoRow w 38 k) : PutsOwn B w' v ps :=
  ⟨own_chg h.row hC (fun b hb s => own_no h.row (h2 b s) hb), fun p hp => own_chg (h.data p hp) hC (fun b hb s => own_no (h.data p hp) (h1 b s) hb)⟩
theorem sumN_point (j : Int) (n : Nat) (h0 : 0 ≤ j) (h1 : j < n) : sumN (fun k => if k = j then 1 else 0) n = 1 := by
  induction n with
  | zero => omega
  | succ n ih =>
    have e : sumN (fun k => if k = j then 1 else 0) (n + 1) = sumN (fun k => if k = j then 1 else 0) n + (if (n : Int) = j then 1 else 0) := by
      unfold sumN ints; simp [List.range_succ]
    rw [e]
    by_cases e2 : (n : Int) = j
    · rw [if_pos e2]
      have : sumN (fun k => if k = j then 1 else 0) n = 0 := by
        have h := sumN_congr (fun k => if k = j then 1 else 0) (fun _ => 0) n (fun k _ h2 => by rw [if_neg (by omega)])
        rw [h, sumN_const]; omega
      omega
    · rw [if_neg e2, ih (by omega)]
theorem vers_add1 (t : Int) (A : Int → List AV) (p : PutV) (n : Nat) (h0 : 0 ≤ p.lba) (h1 : p.lba < n) : vers (add1 t A p) n = vers A n + 1 := by
  unfold vers
  rw [← sumN_point p.lba n h0 h1, ← sumN_add]
  refine sumN_congr _ _ n fun k _ _ => ?_
  unfold add1
  by_cases e : k = p.lba
  · rw [if_pos e, if_pos e]; simp
  · rw [if_neg e, if_neg e]; rfl
theorem vers_addA (t : Int) (n : Nat) : ∀ (l : List PutV) (A : Int → List AV), (∀ x ∈ l, 0 ≤ x.lba ∧ x.lba < n) → vers (addA t A l) n = vers A n + l.length
  | [], A, _ => rfl
  | p :: l, A, h => by
    show vers (addA t (add1 t A p) l) n = _
    rw [vers_addA t n l _ (fun x hx => h x (by simp [hx])), vers_add1 t A p n (h p (by simp)).1 (h p (by simp)).2, List.length_cons]
    omega
theorem range20 {B g r : Nat} {last : Int} {A : Int → List AV} (t : Int) (w : World) (hX : ExAt B w g r 20 last A) :
    Calls Try.prog 15 #[.pointer (some ⟨g, 0, none⟩), .agg #[.int .i64 0, .int .i64 20], .int .i64 t] w fun e w' => ∃ a c, e = .returned (.tuple #[.slice a 800 c, .int .i64 0]) ∧ Below w.heap.size w w' ∧
      w'.ownsRow w.heap.size 5 1 (.slice a 800 c) 800 ((rdFrom A 0 t 20).map u8) ∧ (rdFrom A 0 t 20).length = 800 :=
  range_any 0 20 t w hX (by omega) (by omega) (by omega) (by omega) (by omega)

/-- a transaction: its time, and its puts -/
structure TxV where
  time : Int
  a : Option Addr
  c : Nat
  l : List PutV
def TxOk (w : World) (x : TxV) : Prop := i64ok x.time ∧ x.l.length ≤ maxLen ∧ PutsAt w x.a x.l
end Go.Proofs.Ytglkbkocdeimiaa
