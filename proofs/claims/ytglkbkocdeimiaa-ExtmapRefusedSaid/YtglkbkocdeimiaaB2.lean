import Derived.Lib.SliceRun
import Derived.Test.YtglkbkocdeimiaaB
namespace Go.Proofs.Ytglkbkocdeimiaa
open Go.RowKit
open BigFrame Lib

set_option maxRecDepth 100000 in
theorem clone_nil (w : World) : Calls Try.prog 31 #[.slice none 0 0] w fun e w' => e = .returned (.slice none 0 0) ∧ w = w' := by
  have E := Lib.hid (run_eql_slice_nil (P := Try.prog) w 36 5 none 0 0 0 0 Try.underlying36)
  go_enter Try.func31, Try.ntmps31
  go_wp2_with fail
  rw [E.out]
  go_wp2_with fail
  go_ret
  exact ⟨rfl, rfl⟩

set_option maxRecDepth 100000 in
theorem clone_some (ad : Addr) (c : Nat) (l : List Int) (w : World) (hn : l.length ≤ 4096) (h1 : Rd u8 w (some ad) l) :
    Calls Try.prog 31 #[.slice (some ad) l.length c] w fun e w' => ∃ a' c', e = .returned (.slice a' l.length c') ∧ Below w.heap.size w w' ∧ w'.ownsRow w.heap.size 5 1 (.slice a' l.length c') l.length (l.map u8) := by
  obtain ⟨i0, hi, hz0, hz1, hz2⟩ := info_parts Try.info5
  have hnews : ∀ (j : Nat) (u : Value), (l.map u8)[j]? = some u → (w.alloc (.cells #[] 5)).cell? (ad.add j) = some u := by
    intro j u hu
    rw [List.getElem?_map] at hu
    cases hl : l[j]? with
    | none => rw [hl] at hu; cases hu
    | some x =>
      rw [hl] at hu
      cases hu
      obtain ⟨b, o, he, hb, hc⟩ := h1 j x hl
      cases he
      rw [show ((⟨b, o, none⟩ : Addr).add j) = ⟨b, o + j, none⟩ by unfold Addr.add; split; (rename_i h0; subst h0; rfl); rfl]
      rw [World.cell?_alloc_past _ _ _ hb]; exact hc
  have HN := Lib.hid hnews
  clear hnews h1
  have how : (w.alloc (.cells #[] 5)).ownsRow w.heap.size 5 1 (.slice (some ⟨w.heap.size, 0, none⟩) 0 0) 0 [] := World.ownsRow_lit _ _ 0 (Nat.le_refl _) (by unfold maxLen; omega) rfl
  have HOW := Lib.hid how; clear how
  generalize hm : l.length = n at *
  have HM := Lib.hid hm; clear hm
  have E := Lib.hid (run_eql_slice_nil (P := Try.prog) w 36 5 (some ad) n c 0 0 Try.underlying36)
  go_enter Try.func31, Try.ntmps31
  go_wp2_with fail
  rw [E.out]
  go_wp2_with (at_builtin; refine wpList_append_own _ rfl _ _ 36 rfl w.heap.size 5 i0 (.int .u8 0) 1 1 Try.underlying36 hi hz0 hz1 hz2 rfl (by decide) _ _ _ rfl HOW.out ad n c (l.map u8) rfl ?c0 HN.out ?c2 ?c3 ?c4 ?c5 ?_)
  case c0 => simp [HM.out]
  case c2 => intro u hu; obtain ⟨x, _, rfl⟩ := List.mem_map.1 hu; rfl
  case c3 => unfold maxLen; omega
  case c4 => omega
  case c5 => simp
  intro v' w1 hown hgr _
  obtain ⟨a', c', rfl⟩ := own_form hown
  have hB : Below w.heap.size w w1 := ((Below.refl _ w).alloc (Nat.le_refl _) _).grown hgr (by simp) (fun k hk => by simp [Value.ownBlock] at hk; omega)
  have HW := Lib.hid hown
  clear hown hgr
  go_wp2
  go_ret
  exact ⟨a', c', rfl, hB, HW.out⟩
theorem run_mkmap {P : Program} (t : TypeId) (w : World) : (Instr.makeMap t none).run P w = .ok (.map (some w.heap.size)) (w.alloc (.map #[] 0)) := rfl
def zeros : List Int := List.replicate 40 0
theorem Rd.head {α : Type} {f : α → Value} {w : World} {a : Option Addr} {l : List α} (h : Rd f w a l) (h0 : 0 < l.length) : ∃ b o, a = some ⟨b, o, none⟩ ∧ b < w.heap.size ∧ ∃ v, w.cell? ⟨b, o, none⟩ = some v := by
  obtain ⟨b, o, h1, h2, h3⟩ := h 0 _ (List.getElem?_eq_getElem h0)
  exact ⟨b, o, h1, h2, _, h3⟩
/-- a block that holds a map holds no row -/
theorem Rd.no_map {α : Type} {f : α → Value} {w : World} {a : Option Addr} {l : List α} (h : Rd f w a l) (h0 : 0 < l.length) {r : Nat} {m : IM} (hm : MapIs w r m) : ∀ b o, a = some ⟨b, o, none⟩ → b ≠ r := by
  obtain ⟨b, o, h1, _, v, h3⟩ := h.head h0
  rintro b' o' e rfl
  rw [h1] at e
  cases e
  obtain ⟨es, cl, hb, _⟩ := hm
  simp [World.cell?, hb] at h3
/-- a put: its block, where its data lie, and what they are -/
structure PutV where
  lba : Int
  a : Option Addr
  c : Nat
  d : List Int
instance : Inhabited PutV := ⟨⟨0, none, 0, []⟩⟩

def PutOk (w : World) (p : PutV) : Prop := -9223372036854775808 ≤ p.lba ∧ p.lba ≤ 9223372036854775807 ∧ p.d.length ≤ maxLen ∧ p.c ≤ maxLen ∧ Rd u8 w p.a p.d

/-- a row of puts -/
def PutsAt (w : World) (a : Option Addr) (l : List PutV) : Prop :=
  ∀ (i : Nat) (x : PutV), l[i]? = some x → ∃ b o, a = some ⟨b, o, none⟩ ∧ b < w.heap.size ∧ w.cell? ⟨b, o + i * 2, none⟩ = some (.int .i64 x.lba) ∧ w.cell? ⟨b, o + i * 2 + 1, none⟩ = some (.slice x.a x.d.length x.c) ∧ PutOk w x

theorem PutOk.below {w w' : World} {p : PutV} (h : PutOk w p) (hB : Below w.heap.size w w') : PutOk w' p := ⟨h.1, h.2.1, h.2.2.1, h.2.2.2.1, h.2.2.2.2.below hB⟩
theorem PutsAt.below {w w' : World} {a : Option Addr} {l : List PutV} (h : PutsAt w a l) (hB : Below w.heap.size w w') : PutsAt w' a l := fun i x hi => by
  obtain ⟨b, o, h1, h2, h3, h4, h5⟩ := h i x hi
  exact ⟨b, o, h1, Nat.lt_of_lt_of_le h2 hB.size, (hB.cell (p := ⟨b, o + i * 2, none⟩) h2).trans h3, (hB.cell (p := ⟨b, o + i * 2 + 1, none⟩) h2).trans h4, h5.below hB⟩
/-- maps that change are no row -/
theorem Rd.chg_map {α : Type} {f : α → Value} {S : Nat → Prop} {w w' : World} {a : Option Addr} {l : List α} (h : Rd f w a l) (hC : Chg S w w') (hS : ∀ k, S k → ∃ m, MapIs w k m) : Rd f w' a l := by
  by_cases h0 : 0 < l.length
  · refine h.chg hC (fun b o e s => ?_)
    obtain ⟨m, hm⟩ := hS b s
    exact h.no_map h0 hm b o e rfl
  · intro i x hi
    have : l = [] := by cases l with | nil => rfl | cons => simp at h0
    subst this
    simp at hi
theorem PutOk.chg {S : Nat → Prop} {w w' : World} {p : PutV} (h : PutOk w p) (hC : Chg S w w') (hS : ∀ k, S k → ∃ m, MapIs w k m) : PutOk w' p :=
  ⟨h.1, h.2.1, h.2.2.1, h.2.2.2.1, h.2.2.2.2.chg_map hC hS⟩
theorem PutsAt.chg {S : Nat → Prop} {w w' : World} {a : Option Addr} {l : List PutV} (h : PutsAt w a l) (hC : Chg S w w') (hS : ∀ k, S k → ∃ m, MapIs w k m) : PutsAt w' a l := fun i x hi => by
  obtain ⟨b, o, h1, h2, h3, h4, h5⟩ := h i x hi
  have hb : ¬ S b := by
    intro s
    obtain ⟨m, es, cl, hm, _⟩ := hS b s
    simp [World.cell?, hm] at h3
  exact ⟨b, o, h1, Nat.lt_of_lt_of_le h2 hC.size, (World.cell?_of_block (a := ⟨b, o + i * 2, none⟩) (hC.block b h2 hb)).trans h3, (World.cell?_of_block (a := ⟨b, o + i * 2 + 1, none⟩) (hC.block b h2 hb)).trans h4, h5.chg hC hS⟩

end Go.Proofs.Ytglkbkocdeimiaa
