import Derived.Handy
import Derived.BigRegion
import Derived.Shelf.SlSortCmp.Kit1
import Derived.Sort.WalkA
import Derived.Sort.WalkB2
import Derived.Sort.WalkB12
import Derived.Deep.LoopGhost
import Derived.Test.YtdgnhimiamchmaaM5
import Derived.Test.YtdgnhimiamchmaaSo3
namespace Go.Proofs.Ytdgnhimiamchmaa
open Go.Shelf Go.RowKit Go.Lib Go.Sort
variable {α : Type} [Inhabited α]

/-- an element of a row of ints -/
def eI (val : α → Int) (x : α) : Value := .int .i64 (val x)
theorem eI_one {β : Type} (val : β → Int) : OneCell (eI val) := fun _ => rfl

set_option maxHeartbeats 4000000 in
set_option maxRecDepth 100000 in
theorem swapRange_i (val : α → Int) (blk off cap a b m : Nat) (d0 d : Array α) (w0 w : World) (f : Value) (R : Row1 (eI val) w0 blk off d0) (hs : d0.size = d.size) (S : SW (eI val) w0 blk off d w) (h1 : a + m ≤ b) (h2 : b + m ≤ d.size) (hsz : d.size ≤ 100000) :
    Calls Try.prog 109 #[.slice (some ⟨blk, off, none⟩) d.size cap, .int .i64 a, .int .i64 b, .int .i64 m, f] w fun e w' => e = .returned (.tuple #[]) ∧ SW (eI val) w0 blk off (swps d a b m) w' := by
  have mixed : Try.prog.follows .mixedOrders = true := by kernel_rfl
  have S0 : Aside (SW (eI val) w0 blk off d w) := S
  clear S
  go_enter Try.func109, Try.ntmps109
  go_wp2
  go_loopg [10] m (fun g iv wr => ∃ i : Nat, iv = .int .i64 i ∧ i ≤ m ∧ m - i ≤ g ∧ Aside (SW (eI val) w0 blk off (swps d a b i) wr))
  case atStart => exact ⟨0, rfl, Nat.zero_le _, by omega, S0⟩
  case round =>
    clear S0
    obtain ⟨i, rfl, hi, hg, SJ⟩ := hrel
    by_cases hlt : i < m
    · obtain ⟨iN, hiN⟩ : ∃ q, q = a + i := ⟨_, rfl⟩
      obtain ⟨jN, hjN⟩ : ∃ q, q = b + i := ⟨_, rfl⟩
      have zs : (swps d a b i).size = d.size := by simp
      have za : (a : Int) + (i : Int) = (iN : Int) := by omega
      have zb : (b : Int) + (i : Int) = (jN : Int) := by omega
      have wa : IntKind.i64.wrap ((a : Int) + (i : Int)) = (iN : Int) := by rw [IntKind.wrap_i64]; omega
      have wb : IntKind.i64.wrap ((b : Int) + (i : Int)) = (jN : Int) := by rw [IntKind.wrap_i64]; omega
      have pa : (0 : Int) ≤ (iN : Int) := by omega
      have pc : (0 : Int) ≤ (jN : Int) := by omega
      have ba : (iN : Int) < (d.size : Int) := by omega
      have bc : (jN : Int) < (d.size : Int) := by omega
      have na : iN < (swps d a b i).size := by omega
      have nc : jN < (swps d a b i).size := by omega
      obtain ⟨x, hx⟩ : ∃ x, x = val (swps d a b i)[iN]! := ⟨_, rfl⟩
      obtain ⟨y, hy⟩ : ∃ x, x = val (swps d a b i)[jN]! := ⟨_, rfl⟩
      have S3 : Aside (SW (eI val) w0 blk off (swps d a b (i + 1)) ((wr.setCell ⟨blk, off + iN, none⟩ (.int .i64 y)).setCell ⟨blk, off + jN, none⟩ (.int .i64 x)).drew) := by
        rw [hx, hy, swps, ← hiN, ← hjN]; exact SJ.out.swapped R iN jN na nc
      have ca : wr.cell? ⟨blk, off + iN, none⟩ = some (.int .i64 x) := by rw [hx]; exact SJ.out.c1 R (by omega) iN na
      have cb : wr.cell? ⟨blk, off + jN, none⟩ = some (.int .i64 y) := by rw [hy]; exact SJ.out.c1 R (by omega) jN nc
      have fa := SJ.out.f1 R (by omega) iN na
      have fb := SJ.out.f1 R (by omega) jN nc
      obtain ⟨u, cc⟩ := SJ.out.c2 R (by omega) iN jN na nc (.int .i64 y)
      clear SJ hx hy na nc zs hiN hjN
      go_wp2_with fail
      go_big_region_o
      clear ca cb cc fa fb
      generalize ((wr.setCell ⟨blk, off + iN, none⟩ (.int .i64 y)).setCell ⟨blk, off + jN, none⟩ (.int .i64 x)).drew = w3 at S3 ⊢
      go_wp2
      go_roundg (m - (i + 1))
      case measure => omega
      case rel => exact ⟨i + 1, by go_num, by omega, by omega, S3⟩
    · obtain rfl : i = m := by omega
      go_wp2
      go_end0
      exact ⟨rfl, SJ.out⟩

set_option maxHeartbeats 4000000 in
set_option maxRecDepth 100000 in
theorem rotate_i (val : α → Int) (blk off cap a m b : Nat) (d0 d : Array α) (w0 w : World) (f : Value) (R : Row1 (eI val) w0 blk off d0) (hs : d0.size = d.size) (S : SW (eI val) w0 blk off d w) (h1 : a < m) (h2 : m < b) (h3 : b ≤ d.size) (hsz : d.size ≤ 100000) :
    Calls Try.prog 95 #[.slice (some ⟨blk, off, none⟩) d.size cap, .int .i64 a, .int .i64 m, .int .i64 b, f] w fun e w' => e = .returned (.tuple #[]) ∧ ∃ d', Rot a m b d d' ∧ SW (eI val) w0 blk off d' w' := by
  have mixed : Try.prog.follows .mixedOrders = true := by kernel_rfl
  have SWP : Aside (∀ (x y k : Nat) (dk : Array α) (W : World), dk.size = d.size → SW (eI val) w0 blk off dk W → x + k ≤ y → y + k ≤ d.size →
      Calls Try.prog 109 #[.slice (some ⟨blk, off, none⟩) d.size cap, .int .i64 x, .int .i64 y, .int .i64 k, f] W fun e w' => e = .returned (.tuple #[]) ∧ SW (eI val) w0 blk off (swps dk x y k) w') := fun x y k dk W hk S' g1 g2 => by
    rw [← hk]; exact swapRange_i val blk off cap x y k d0 dk w0 W f R (by omega) S' g1 (by omega) (by omega)
  have S0 : Aside (SW (eI val) w0 blk off d w) := S
  have I0 : Aside (RotInv a m b (m - a) (b - m) d d) := RotInv.start (by omega) (by omega) h3
  obtain ⟨i0, hi0⟩ : ∃ q, q = m - a := ⟨_, rfl⟩
  obtain ⟨j0, hj0⟩ : ∃ q, q = b - m := ⟨_, rfl⟩
  rw [← hi0, ← hj0] at I0
  have wi : IntKind.i64.wrap ((m : Int) - (a : Int)) = (i0 : Int) := by rw [IntKind.wrap_i64]; omega
  have wj : IntKind.i64.wrap ((b : Int) - (m : Int)) = (j0 : Int) := by rw [IntKind.wrap_i64]; omega
  have zi : (m : Int) - (a : Int) = (i0 : Int) := by omega
  have zj : (b : Int) - (m : Int) = (j0 : Int) := by omega
  have pi : 0 < i0 := by omega
  have pj : 0 < j0 := by omega
  clear S hi0 hj0
  go_enter Try.func95, Try.ntmps95
  go_wp2
  go_loopg [10, 11] (i0 + j0) (fun g iv jv wr => ∃ (i j : Nat) (dk : Array α), iv = .int .i64 i ∧ jv = .int .i64 j ∧ 0 < i ∧ 0 < j ∧ i + j ≤ g ∧ Aside (RotInv a m b i j d dk) ∧ Aside (SW (eI val) w0 blk off dk wr))
  case atStart => exact ⟨i0, j0, d, rfl, rfl, pi, pj, Nat.le_refl _, I0, S0⟩
  case round =>
    clear S0 I0 wi wj zi zj pi pj
    obtain ⟨i, j, dk, rfl, rfl, hi, hj, hg, IJ, SJ⟩ := hrel
    have hb := IJ.out.bound
    have hks := IJ.out.size
    obtain ⟨x, hx⟩ : ∃ q, q = m - i := ⟨_, rfl⟩
    have wx : IntKind.i64.wrap ((m : Int) - (i : Int)) = (x : Int) := by rw [IntKind.wrap_i64]; omega
    have zx : (m : Int) - (i : Int) = (x : Int) := by omega
    rcases Nat.lt_trichotomy i j with hij | hij | hij
    · obtain ⟨y, hy⟩ : ∃ q, q = m + j - i := ⟨_, rfl⟩
      obtain ⟨k, hk⟩ : ∃ q, q = j - i := ⟨_, rfl⟩
      have wy0 : IntKind.i64.wrap ((m : Int) + (j : Int)) = (m : Int) + (j : Int) := by rw [IntKind.wrap_i64]; omega
      have wy : IntKind.i64.wrap ((m : Int) + (j : Int) - (i : Int)) = (y : Int) := by rw [IntKind.wrap_i64]; omega
      have zy : (m : Int) + (j : Int) - (i : Int) = (y : Int) := by omega
      have wk : IntKind.i64.wrap ((j : Int) - (i : Int)) = (k : Int) := by rw [IntKind.wrap_i64]; omega
      have zk : (j : Int) - (i : Int) = (k : Int) := by omega
      have t1 : decide ((i : Int) > (j : Int)) = false := decide_eq_false (by omega)
      have t2 : ((i : Int) != (j : Int)) = true := by simp; omega
      have hc := SWP.out x y i dk wr hks SJ.out (by omega) (by omega)
      have IJ2 : Aside (RotInv a m b i k d (swps dk x y i)) := by rw [hx, hy, hk]; exact IJ.out.lt hij
      clear hx hy
      go_wp2_with (go_at_call 109; refine hc.mono ?_; rintro e w1 ⟨rfl, hS1⟩)
      have S1 : Aside _ := hS1
      clear hS1
      go_wp2
      go_roundg (i + k)
      case measure => omega
      case rel => exact ⟨i, k, _, rfl, by go_num, hi, by omega, Nat.le_refl _, IJ2, S1⟩
    · subst hij
      have hc := SWP.out x m i dk wr hks SJ.out (by omega) (by omega)
      have IJ2 : Aside (Rot a m b d (swps dk x m i)) := by rw [hx]; exact IJ.out.done rfl
      have t2 : ((i : Int) != (i : Int)) = false := by simp
      clear hx
      go_wp2_with (go_at_call 109; refine hc.mono ?_; rintro e w1 ⟨rfl, hS1⟩)
      have S1 : Aside _ := hS1
      clear hS1
      go_end0
      exact ⟨rfl, _, IJ2.out, S1.out⟩
    · obtain ⟨k, hk⟩ : ∃ q, q = i - j := ⟨_, rfl⟩
      have wk : IntKind.i64.wrap ((i : Int) - (j : Int)) = (k : Int) := by rw [IntKind.wrap_i64]; omega
      have zk : (i : Int) - (j : Int) = (k : Int) := by omega
      have t1 : decide ((i : Int) > (j : Int)) = true := decide_eq_true (by omega)
      have t2 : ((i : Int) != (j : Int)) = true := by simp; omega
      have hc := SWP.out x m j dk wr hks SJ.out (by omega) (by omega)
      have IJ2 : Aside (RotInv a m b k j d (swps dk x m j)) := by rw [hx, hk]; exact IJ.out.gt hij
      clear hx
      go_wp2_with (go_at_call 109; refine hc.mono ?_; rintro e w1 ⟨rfl, hS1⟩)
      have S1 : Aside _ := hS1
      clear hS1
      go_wp2
      go_roundg (k + j)
      case measure => omega
      case rel => exact ⟨k, j, _, by go_num, rfl, by omega, hj, Nat.le_refl _, IJ2, S1⟩
end Go.Proofs.Ytdgnhimiamchmaa
