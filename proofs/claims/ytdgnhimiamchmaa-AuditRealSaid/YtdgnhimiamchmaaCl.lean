import Derived.Test.YtdgnhimiamchmaaFx
namespace Go.Proofs.Ytdgnhimiamchmaa
open Go.RowKit
open BigFrame Lib

/-- one read a block that was not its own, or put it -/
def touchH (h : HistV) (lba : Int) : Bool := h.rl.any (fun r => !r.own && decide (r.lba = lba)) || h.pl.any (fun q => decide (q.lba = lba))
def clashH (h x : HistV) : Bool := x.pl.any fun p => touchH h p.lba

theorem cl88_any (r : ReadV) (pb : Nat) (lba : Int) (w : World) (hb : w.cell? ⟨pb, 0, none⟩ = some (.int .i64 lba)) :
    Calls Try.prog 88 (#[.agg #[.int .i64 r.lba, .slice r.a r.d.length r.c, .bool r.own]] ++ #[.pointer (some ⟨pb, 0, none⟩)]) w fun e w' => e = .returned (.bool (!r.own && decide (r.lba = lba))) ∧ Below w.heap.size w w' := by
  show Calls Try.prog 88 #[.agg #[.int .i64 r.lba, .slice r.a r.d.length r.c, .bool r.own], .pointer (some ⟨pb, 0, none⟩)] w _
  have hlt := World.block_lt_of_cell? w _ hb
  generalize r.d.length = dl
  cases ho : r.own with
  | true =>
    clear ho
    go_enter Try.func88, Try.ntmps88
    go_wp2
    go_ret
    exact ⟨rfl, (Below.refl _ w).alloc (Nat.le_refl _) _⟩
  | false =>
    clear ho
    by_cases he : r.lba = lba
    · have t1 : (r.lba == lba) = true := by simpa using he
      have HD : Hid (decide (r.lba = lba) = true) := decide_eq_true he
      clear he
      go_enter Try.func88, Try.ntmps88
      go_wp2
      go_ret
      exact ⟨by rw [HD.out]; rfl, (Below.refl _ w).alloc (Nat.le_refl _) _⟩
    · have t1 : (r.lba == lba) = false := by simpa using he
      have HD : Hid (decide (r.lba = lba) = false) := decide_eq_false he
      clear he
      go_enter Try.func88, Try.ntmps88
      go_wp2
      go_ret
      exact ⟨by rw [HD.out]; rfl, (Below.refl _ w).alloc (Nat.le_refl _) _⟩
theorem cl89_any (r : PutV) (pb : Nat) (lba : Int) (w : World) (hb : w.cell? ⟨pb, 0, none⟩ = some (.int .i64 lba)) :
    Calls Try.prog 89 (#[.agg #[.int .i64 r.lba, .slice r.a r.d.length r.c]] ++ #[.pointer (some ⟨pb, 0, none⟩)]) w fun e w' => e = .returned (.bool (decide (r.lba = lba))) ∧ Below w.heap.size w w' := by
  show Calls Try.prog 89 #[.agg #[.int .i64 r.lba, .slice r.a r.d.length r.c], .pointer (some ⟨pb, 0, none⟩)] w _
  have hlt := World.block_lt_of_cell? w _ hb
  generalize r.d.length = dl
  by_cases he : r.lba = lba
  · have t1 : (r.lba == lba) = true := by simpa using he
    have HD : Hid (decide (r.lba = lba) = true) := decide_eq_true he
    clear he
    go_enter Try.func89, Try.ntmps89
    go_wp2
    go_ret
    exact ⟨by rw [HD.out]; rfl, (Below.refl _ w).alloc (Nat.le_refl _) _⟩
  · have t1 : (r.lba == lba) = false := by simpa using he
    have HD : Hid (decide (r.lba = lba) = false) := decide_eq_false he
    clear he
    go_enter Try.func89, Try.ntmps89
    go_wp2
    go_ret
    exact ⟨by rw [HD.out]; rfl, (Below.refl _ w).alloc (Nat.le_refl _) _⟩

set_option maxRecDepth 100000 in
theorem cl86_any (h : HistV) (p : PutV) (hb : Nat) (w : World) (c5 : w.cell? ⟨hb, 5, none⟩ = some (.slice h.ra h.rl.length h.rc)) (c6 : w.cell? ⟨hb, 6, none⟩ = some (.slice h.pa h.pl.length h.pc)) (hk : HistOk w h) :
    Calls Try.prog 86 (#[.agg #[.int .i64 p.lba, .slice p.a p.d.length p.c]] ++ #[.pointer (some ⟨hb, 0, none⟩)]) w fun e w' => e = .returned (.bool (touchH h p.lba)) ∧ Below w.heap.size w w' := by
  show Calls Try.prog 86 #[.agg #[.int .i64 p.lba, .slice p.a p.d.length p.c], .pointer (some ⟨hb, 0, none⟩)] w _
  have hlt := World.block_lt_of_cell? w _ c5
  have hrn := hk.rn
  have hpn := hk.pn
  unfold maxLen at hrn hpn
  have hB1 : Below w.heap.size w (w.alloc (.cells #[.int .i64 p.lba, .slice p.a p.d.length p.c] 39)) := (Below.refl _ w).alloc (Nat.le_refl _) _
  have hbp : (w.alloc (.cells #[.int .i64 p.lba, .slice p.a p.d.length p.c] 39)).cell? ⟨w.heap.size, 0, none⟩ = some (.int .i64 p.lba) := cell_heap (c := [.int .i64 p.lba, .slice p.a p.d.length p.c]) (alloc_new rfl) rfl
  have hs1 : (w.alloc (.cells #[.int .i64 p.lba, .slice p.a p.d.length p.c] 39)).heap.size = w.heap.size + 1 := by simp
  have HR := Lib.hid (contR_gen 88 #[.pointer (some ⟨w.heap.size, 0, none⟩)] (fun r => !r.own && decide (r.lba = p.lba)) h.ra h.rc h.rl _ (by omega) (hk.reads.below hB1) (enters_of Try.func88 (by kernel_rfl) rfl)
    (fun W hW r _ => cl88_any r w.heap.size p.lba W ((hW.cell (p := ⟨w.heap.size, 0, none⟩) (by show w.heap.size < _; omega)).trans hbp)))
  have HP := Lib.hid (fun W (hW : Below (w.alloc (.cells #[.int .i64 p.lba, .slice p.a p.d.length p.c] 39)).heap.size (w.alloc (.cells #[.int .i64 p.lba, .slice p.a p.d.length p.c] 39)) W) => contP_gen 89 #[.pointer (some ⟨w.heap.size, 0, none⟩)] (fun q => decide (q.lba = p.lba)) h.pa h.pc h.pl W (by omega) ((hk.puts.below hB1).below hW) (enters_of Try.func89 (by kernel_rfl) rfl)
    (fun W' hW' q _ => cl89_any q w.heap.size p.lba W' (((hW.trans (hW'.mono hW.size)).cell (p := ⟨w.heap.size, 0, none⟩) (by show w.heap.size < _; omega)).trans hbp)))
  have HT : Hid (touchH h p.lba = (h.rl.any (fun r => !r.own && decide (r.lba = p.lba)) || h.pl.any (fun q => decide (q.lba = p.lba)))) := rfl
  clear hk
  generalize h.rl.any (fun r => !r.own && decide (r.lba = p.lba)) = br at *
  generalize h.pl.any (fun q => decide (q.lba = p.lba)) = bp at *
  generalize p.d.length = dl at *
  generalize h.rl.length = rn at *
  generalize h.pl.length = pn at *
  cases br with
  | true =>
    have HV : Hid (touchH h p.lba = true) := by show _ = _; rw [HT.out]; rfl
    go_enter Try.func86, Try.ntmps86
    go_wp2_with (go_at_call 87; refine HR.out.mono ?_; rintro e w2 ⟨rfl, hB2⟩)
    go_ret
    exact ⟨by rw [HV.out]; rfl, hB1.trans (hB2.mono hB1.size)⟩
  | false =>
    have HV : Hid (touchH h p.lba = bp) := by show _ = _; rw [HT.out]; rfl
    go_enter Try.func86, Try.ntmps86
    go_wp2_with (first
      | (go_at_call 87; refine HR.out.mono ?_; rintro e w2 ⟨rfl, hB2⟩
         have k6 := (hB2.cell (p := ⟨hb, 6, none⟩) (by show hb < _; have : hb < w.heap.size := hlt; omega)).trans ((hB1.cell (p := ⟨hb, 6, none⟩) hlt).trans c6))
      | (go_at_call 41; refine (HP.out _ hB2).mono ?_; rintro e w3 ⟨rfl, hB3⟩))
    go_ret
    exact ⟨by rw [HV.out]; rfl, (hB1.trans (hB2.mono hB1.size)).trans (hB3.mono (hB1.trans (hB2.mono hB1.size)).size)⟩

set_option maxRecDepth 100000 in
theorem clash_any (h x : HistV) (w : World) (hk : HistOk w h) (hx : HistOk w x) :
    Calls Try.prog 76 #[aggH h, aggH x] w fun e w' => e = .returned (.bool (clashH h x)) ∧ Below w.heap.size w w' := by
  have hpn := hx.pn
  unfold maxLen at hpn
  let o1 : Obj := .cells #[.int .i64 h.st, .int .i64 h.bg, .int .i64 h.tm, .int .i64 h.fr, .int .i64 h.to, .slice h.ra h.rl.length h.rc, .slice h.pa h.pl.length h.pc] 53
  let o2 : Obj := .cells #[.int .i64 x.st, .int .i64 x.bg, .int .i64 x.tm, .int .i64 x.fr, .int .i64 x.to, .slice x.ra x.rl.length x.rc, .slice x.pa x.pl.length x.pc] 53
  have hB1 : Below w.heap.size w ((w.alloc o1).alloc o2) := ((Below.refl _ w).alloc (Nat.le_refl _) _).alloc (by simp) _
  have hbh : ((w.alloc o1).alloc o2).heap[w.heap.size]? = some (.cells ([.int .i64 h.st, .int .i64 h.bg, .int .i64 h.tm, .int .i64 h.fr, .int .i64 h.to, .slice h.ra h.rl.length h.rc, .slice h.pa h.pl.length h.pc] : List Value).toArray 53 (0, 0)) := (alloc_heap (by simp)).trans (alloc_new rfl)
  have hs1 : ((w.alloc o1).alloc o2).heap.size = w.heap.size + 2 := by simp
  have HC := Lib.hid (contP_gen 86 #[.pointer (some ⟨w.heap.size, 0, none⟩)] (fun p => touchH h p.lba) x.pa x.pc x.pl _ (by omega) (hx.puts.below hB1) (enters_of Try.func86 (by kernel_rfl) rfl)
    (fun W hW p _ => cl86_any h p w.heap.size W ((hW.cell (p := ⟨w.heap.size, 5, none⟩) (by show w.heap.size < _; omega)).trans (cell_heap hbh rfl)) ((hW.cell (p := ⟨w.heap.size, 6, none⟩) (by show w.heap.size < _; omega)).trans (cell_heap hbh rfl)) ((hk.below hB1).below hW)))
  have HV : Hid (clashH h x = x.pl.any (fun p => touchH h p.lba)) := rfl
  clear hk hx
  generalize x.pl.any (fun p => touchH h p.lba) = bb at *
  unfold aggH
  go_enter Try.func76, Try.ntmps76
  go_wp2_with (go_at_call 41; refine HC.out.mono ?_; rintro e w3 ⟨rfl, hB3⟩)
  go_ret
  exact ⟨by rw [HV.out]; rfl, hB1.trans (hB3.mono hB1.size)⟩
end Go.Proofs.Ytdgnhimiamchmaa
