import Derived.Lib.SliceRun
import Derived.Test.YtglkbkocdeimiaaE9
namespace Go.Proofs.Ytglkbkocdeimiaa
open Go.RowKit
open BigFrame Lib
open Go.ChangeMaps (setBlock)

/-- how many versions nobody reads from a time on -/
def cut (l : List AV) (t : Int) : Nat := (l.filter fun x => decide (x.1 ≤ t)).length - 1
theorem isAt_filter {l : List AV} {t i : Int} (h : IsAt l t i) (hs : l.Pairwise fun x y => x.1 < y.1) : (l.filter fun x => decide (x.1 ≤ t)) = l.take (i + 1).toNat := by
  have e : l = l.take (i + 1).toNat ++ l.drop (i + 1).toNat := (List.take_append_drop _ _).symm
  conv => lhs; rw [e]
  rw [List.filter_append]
  have h1 : ((l.take (i + 1).toNat).filter fun x => decide (x.1 ≤ t)) = l.take (i + 1).toNat := by
    rw [List.filter_eq_self]
    intro x hx
    obtain ⟨j, hj⟩ := List.getElem?_of_mem hx
    rw [List.getElem?_take] at hj
    split at hj
    · rename_i hlt
      have hjl := (List.getElem?_eq_some_iff.1 hj).1
      by_cases e : (j : Int) = i
      · have := h.2.2.2 j e x hj; simpa using this
      · have hil : i.toNat < l.length := by have := h.2.1; omega
        have hx2 := h.2.2.2 i.toNat (by omega) _ (List.getElem?_eq_getElem hil)
        have hlt2 := List.pairwise_iff_getElem.1 hs j i.toNat hjl hil (by omega)
        have : x = l[j] := by rw [List.getElem?_eq_getElem hjl] at hj; cases hj; rfl
        rw [← this] at hlt2
        simp; omega
    · cases hj
  have h2 : ((l.drop (i + 1).toNat).filter fun x => decide (x.1 ≤ t)) = [] := by
    rw [List.filter_eq_nil_iff]
    intro x hx
    obtain ⟨j, hj⟩ := List.getElem?_of_mem hx
    rw [List.getElem?_drop] at hj
    have := h.2.2.1 ((i + 1).toNat + j) (by have := h.1; omega) x hj
    simp; omega
  rw [h1, h2, List.append_nil]
theorem cut_at {l : List AV} {t i : Int} (h : IsAt l t i) (hs : l.Pairwise fun x y => x.1 < y.1) : cut l t = i.toNat := by
  unfold cut
  rw [isAt_filter h hs, List.length_take]
  have := h.1; have := h.2.1
  omega
theorem cut_le (l : List AV) (t : Int) : cut l t ≤ l.length := by
  have := List.length_filter_le (fun x : AV => decide (x.1 ≤ t)) l
  unfold cut; omega

theorem ExPure.sub {n last : Int} {A A' : Int → List AV} (h : ExPure n last A) (hs : ∀ k, (A' k).Sublist (A k)) : ExPure n last A' :=
  ⟨h.lo, h.hi, h.l0, h.l1, fun k => (h.rise k).sublist (hs k), fun k x hx => h.top k x ((hs k).subset hx), fun k x hx => h.len k x ((hs k).subset hx), fun k hk => by
    have := hs k
    rw [h.out k hk] at this
    exact List.sublist_nil.1 this⟩

theorem ExMap.repl {B H r : Nat} {w : World} {m : IM} {E : Int → List Ver} {k : Int} {l' : List Ver} {o : Obj} {gg cap : Nat} (h : ExMap B w r m E)
    (hrow : w.ownsRow H 70 2 (.slice (some ⟨gg, 0, none⟩) l'.length cap) l'.length (l'.flatMap encV)) (hl : l' ≠ []) (hH : B ≤ H) (hnew : ∀ j u, mget m j = some u → u.ownBlock ≠ some gg)
    (hd : ∀ x ∈ l', w.ownsRow B 5 1 (.slice x.a 40 x.c) 40 (x.d.map u8)) (hm : MapIs (setBlock w r o) r (mput m k (.slice (some ⟨gg, 0, none⟩) l'.length cap))) :
    ExMap B (setBlock w r o) r (mput m k (.slice (some ⟨gg, 0, none⟩) l'.length cap)) (fun j => if j = k then l' else E j) := by
  have hC : Chg (· = r) w (setBlock w r o) := setBlock_chg o
  have n5 : ∀ j, j = r → NoRow w 5 j := by rintro j rfl; exact noRow_map h.map
  have n70 : ∀ j, j = r → NoRow w 70 j := by rintro j rfl; exact noRow_map h.map
  refine ⟨hm, fun j => ?_, fun j j' v v' hv hv' hjj => ?_⟩
  · rw [mget_put]
    by_cases e : j = k
    · rw [if_pos e, if_pos e]
      exact ⟨own_chg (own_base hrow hH) hC (fun b hb hr => own_no hrow (n70 b hr) hb), hl, fun x hx => own_chg (hd x hx) hC (fun b hb hr => own_no (hd x hx) (n5 b hr) hb)⟩
    · rw [if_neg e, if_neg e]
      have hj := h.ent j
      cases hg : mget m j with
      | none => rw [hg] at hj; exact hj
      | some u =>
        rw [hg] at hj
        have hj' : VRow B w u (E j) := hj
        exact VRow.chg hj' hC (fun b hb s => own_no hj'.1 (n70 b s) hb) n5
  · rw [mget_put] at hv hv'
    by_cases e : j = k
    · rw [if_pos e] at hv
      rw [if_neg (by rintro rfl; exact hjj e)] at hv'
      cases hv
      exact fun hb => hnew j' v' hv' hb.symm
    · rw [if_neg e] at hv
      by_cases e' : j' = k
      · rw [if_pos e'] at hv'
        cases hv'
        exact fun hb => hnew j v hv hb
      · rw [if_neg e'] at hv'
        exact h.apart j j' v v' hv hv' hjj

set_option maxRecDepth 100000 in
theorem cloneV (ad : Addr) (n c : Nat) (xs : List Value) (w : World) (hn : n ≤ 1099511627776) (hx : xs.length = n * 2) (hlt : ad.block < w.heap.size) (h1 : ∀ j u, xs[j]? = some u → w.cell? (ad.add j) = some u) (h2 : ∀ u ∈ xs, u.oneCell' = true) :
    Calls Try.prog 34 #[.slice (some ad) n c] w fun e w' => ∃ a' c', e = .returned (.slice a' n c') ∧ Below w.heap.size w w' ∧ w'.ownsRow w.heap.size 70 2 (.slice a' n c') n xs := by
  obtain ⟨i0, hi, hz0, hz1, hz2⟩ := info_parts Try.info70
  have hnews : ∀ (j : Nat) (u : Value), xs[j]? = some u → (w.alloc (.cells #[] 70)).cell? (ad.add j) = some u := by
    intro j u hu
    have hb : (ad.add j).block = ad.block := by unfold Addr.add; split <;> rfl
    exact (((Below.refl _ w).alloc (Nat.le_refl _) (.cells #[] 70)).cell (p := ad.add j) (by rw [hb]; exact hlt)).trans (h1 j u hu)
  have HN := Lib.hid hnews
  clear hnews h1
  have how : (w.alloc (.cells #[] 70)).ownsRow w.heap.size 70 2 (.slice (some ⟨w.heap.size, 0, none⟩) 0 0) 0 [] := World.ownsRow_lit _ _ 0 (Nat.le_refl _) (by unfold maxLen; omega) rfl
  have HOW := Lib.hid how; clear how
  have HX := Lib.hid hx; have H2 := Lib.hid h2; clear hx h2
  have E := Lib.hid (run_eql_slice_nil (P := Try.prog) w 67 70 (some ad) n c 0 0 Try.underlying67)
  go_enter Try.func34, Try.ntmps34
  go_wp2_with fail
  rw [E.out]
  go_wp2_with (at_builtin; refine wpList_append_own _ rfl _ _ 67 rfl w.heap.size 70 i0 _ 2 32 Try.underlying67 hi hz0 hz1 hz2 rfl (by decide) _ _ _ rfl HOW.out ad n c xs rfl ?c0 HN.out ?c2 ?c3 ?c4 ?c5 ?_)
  case c0 => exact HX.out
  case c2 => exact H2.out
  case c3 => unfold maxLen; omega
  case c4 => omega
  case c5 => simp
  intro v' w1 hown hgr _
  obtain ⟨a', c', rfl⟩ := own_form hown
  have hB : Below w.heap.size w w1 := ((Below.refl _ w).alloc (Nat.le_refl _) _).grown hgr (by simp) (fun k hk => by simp [Value.ownBlock] at hk; omega)
  have HW := Lib.hid hown
  clear hown hgr
  go_wp2
  go_ret
  exact ⟨a', c', by first | rfl | simp, hB, by have := HW.out; simpa using this⟩
end Go.Proofs.Ytglkbkocdeimiaa
