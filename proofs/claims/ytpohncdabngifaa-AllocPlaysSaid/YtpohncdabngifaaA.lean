import Derived.Test.YtpohncdabngifaaProg
import Derived.Test.YtpohncdabngifaaPlain
namespace Go.Proofs.Ytpohncdabngifaa
open Go.RowKit

theorem Try.info3 : (Try.prog.info? 3).map (fun i => (i.zero, i.size, i.bytes)) = some (some (.int .i64 0), 1, 8) := by kernel_rfl
theorem Try.info55 : (Try.prog.info? 55).map (fun i => (i.zero, i.size, i.bytes)) = some (some (.agg #[.bool false, .int .i64 0]), 2, 16) := by kernel_rfl

theorem cellA {w : World} {k : Nat} {x : Value} {e : TypeId} (hk : k = w.heap.size) : ∀ (j : Nat) (u : Value), [x][j]? = some u → (w.alloc (.cells #[x] e)).cell? ((⟨k, 0, none⟩ : Addr).add j) = some u := by
  subst hk; exact cell_one_new _ _ _

theorem list_nil (w : World) : Calls Try.prog 22 #[.pointer none] w fun e w' => e = .returned (.slice none 0 0) ∧ w = w' := by
  go_enter Try.func22, Try.ntmps22
  go_wp2
  go_ret
  exact ⟨rfl, rfl⟩

set_option maxHeartbeats 400000 in
theorem list_any (g b : Nat) (zs : List Z) (sp : Int) (w : World) (hA : AllocAt w g b zs sp) :
    Calls Try.prog 22 #[.pointer (some ⟨g, 0, none⟩)] w fun e w' => ∃ v, e = .returned v ∧ Below w.heap.size w w' ∧ w'.ownsRow w.heap.size 3 1 v (frees zs zs.length).length (ints (frees zs zs.length)) := by
  obtain ⟨i0, hi, hz0, hz1, hz2⟩ := info_parts Try.info3
  have h0 : w.cell? ⟨g, 0, none⟩ = some (.slice (some ⟨b, 0, none⟩) zs.length zs.length) := cell_heap hA.hg rfl
  have hb := lt_heap hA.hb
  have hn := hA.hn
  have HA := Lib.hid hA; clear hA
  generalize hm : zs.length = n at *
  have HM := Lib.hid hm; clear hm
  go_enter Try.func22, Try.ntmps22
  go_wp2_with fail
  go_loopw [2, 12] (fun v i wr => ∃ k : Nat, k ≤ n ∧ i = .int .i64 k ∧ Below w.heap.size w wr ∧ wr.ownsRow w.heap.size 3 1 v (frees zs k).length (ints (frees zs k))) (fun _ i _ => n - (intOf i).toNat)
  case atStart => exact ⟨0, Nat.zero_le _, rfl, Below.refl _ _, by simpa [frees, ints] using World.ownsRow_nil w _ 3 1⟩
  case round =>
    obtain ⟨k, hk, rfl, hB, hown⟩ := hrel
    have hsz := hB.size
    by_cases hlt : k < n
    · have d0 := cell_heap ((hB.block b hb).trans HA.out.hb) (tk_get zs k (by rw [HM.out]; exact hlt))
      have d1 := cell_heap ((hB.block b hb).trans HA.out.hb) (wear_get zs k (by rw [HM.out]; exact hlt))
      have hl := frees_len zs k
      cases ht : tk zs k with
      | false =>
        rw [ht] at d0
        have HT := Lib.hid ht; clear ht
        go_wp2_with (at_builtin; refine wpList_append_own _ rfl _ _ 44 rfl w.heap.size 3 i0 (.int .i64 0) 1 8 Try.underlying44 hi hz0 hz1 hz2 rfl (by decide) _ _ _ rfl ((hown.alloc _).alloc _) ⟨wr.heap.size+1, 0, none⟩ 1 1 [.int .i64 (k:Int)] rfl rfl ?c1 ?c2 ?c3 ?c4 ?c5 ?_)
        case c1 => exact cellA (by simp)
        case c2 => intro u hu; simp at hu; subst hu; rfl
        case c3 => unfold maxLen; omega
        case c4 => omega
        case c5 => simp; omega
        intro v' w1 hown' hgr _
        have hB1 : Below w.heap.size w w1 := ((hB.alloc hsz _).alloc (by simp; omega) _).grown hgr (by simp; omega) (fun k hk => (hown.lt k hk).1)
        clear hB hown hgr d0 d1
        go_wp2
        go_roundw
        case rel => exact ⟨k + 1, by omega, by go_num, hB1, by rw [frees_succ_f _ _ HT.out, ints_snoc, List.length_append]; exact hown'⟩
        case measure => simp [intOf]; omega
      | true =>
        rw [ht] at d0
        have HT := Lib.hid ht; clear ht
        go_wp2
        go_roundw
        case rel => exact ⟨k + 1, by omega, by go_num, hB.alloc hsz _, by rw [frees_succ_t _ _ HT.out]; exact hown.alloc _⟩
        case measure => simp [intOf]; omega
    · have : k = n := by omega
      subst this
      go_wp2
      go_ret
      exact ⟨_, rfl, hB, hown⟩

/-- how many are free -/
def cnt (zs : List Z) : Nat := (frees zs zs.length).length

theorem count_nil (w : World) : Calls Try.prog 13 #[.pointer none] w fun e w' => e = .returned (.int .i64 0) ∧ w = w' := by
  go_enter Try.func13, Try.ntmps13
  go_wp2_with (go_at_call 22; refine (list_nil _).mono ?_; rintro e w' ⟨rfl, rfl⟩)
  go_ret
  exact ⟨rfl, rfl⟩

theorem own_form {w : World} {B : Nat} {e : TypeId} {size : Nat} {v : Value} {n : Nat} {xs : List Value} (h : w.ownsRow B e size v n xs) : ∃ a c, v = .slice a n c := by
  rcases h.2 with ⟨h1, h2⟩ | ⟨g, cap, cur, h1, _⟩
  · exact ⟨none, 0, by rw [h1, h2]⟩
  · exact ⟨_, _, h1⟩

theorem count_any (g b : Nat) (zs : List Z) (sp : Int) (w : World) (hA : AllocAt w g b zs sp) :
    Calls Try.prog 13 #[.pointer (some ⟨g, 0, none⟩)] w fun e w' => e = .returned (.int .i64 (cnt zs : Nat)) ∧ Below w.heap.size w w' := by
  go_enter Try.func13, Try.ntmps13
  go_wp2_with fail
  refine (list_any g b zs sp w hA).mono ?_
  rintro e w' ⟨v, rfl, hB, hown⟩
  obtain ⟨a, c, rfl⟩ := own_form hown
  have HC : Hid (cnt zs = (frees zs zs.length).length) := rfl
  go_wp2
  go_ret
  exact ⟨rfl, hB⟩

theorem at_nil (i : Int) (w : World) : Calls Try.prog 24 #[.pointer none, .int .i64 i] w fun e w' => e = .returned (.pointer none) ∧ w = w' := by
  go_enter Try.func24, Try.ntmps24
  go_wp2
  go_ret
  exact ⟨rfl, rfl⟩

theorem at_out (g b : Nat) (zs : List Z) (sp : Int) (i : Int) (w : World) (hA : AllocAt w g b zs sp) (h : i < 0 ∨ (zs.length : Int) ≤ i) :
    Calls Try.prog 24 #[.pointer (some ⟨g, 0, none⟩), .int .i64 i] w fun e w' => e = .returned (.pointer none) ∧ w = w' := by
  have h0 : w.cell? ⟨g, 0, none⟩ = some (.slice (some ⟨b, 0, none⟩) zs.length zs.length) := cell_heap hA.hg rfl
  have HA := Lib.hid hA; clear hA
  by_cases hi : i < 0
  · clear h
    go_enter Try.func24, Try.ntmps24
    go_wp2
    go_ret
    exact ⟨rfl, rfl⟩
  · have h1 : (zs.length : Int) ≤ i := by omega
    clear h
    go_enter Try.func24, Try.ntmps24
    go_wp2
    go_ret
    exact ⟨rfl, rfl⟩

theorem at_in (g b : Nat) (zs : List Z) (sp : Int) (i : Nat) (w : World) (hA : AllocAt w g b zs sp) (h : i < zs.length) :
    Calls Try.prog 24 #[.pointer (some ⟨g, 0, none⟩), .int .i64 i] w fun e w' => e = .returned (.pointer (some ⟨b, i * 2, none⟩)) ∧ w = w' := by
  have h0 : w.cell? ⟨g, 0, none⟩ = some (.slice (some ⟨b, 0, none⟩) zs.length zs.length) := cell_heap hA.hg rfl
  have HA := Lib.hid hA; clear hA
  go_enter Try.func24, Try.ntmps24
  go_wp2
  go_ret
  exact ⟨rfl, rfl⟩
end Go.Proofs.Ytpohncdabngifaa
