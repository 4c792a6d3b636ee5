import Derived.Test.YtglkbkocdeimiaaE7
namespace Go.Proofs.Ytglkbkocdeimiaa
open Go.RowKit
open BigFrame Lib
open Go.ChangeMaps (setBlock)

theorem mget_mem {m : IM} (hn : (m.map (·.1)).Nodup) {p : Int × Value} (hp : p ∈ m) : mget m p.1 = some p.2 := by
  induction m with
  | nil => simp at hp
  | cons q m ih =>
    simp only [List.map_cons, List.nodup_cons] at hn
    rcases List.mem_cons.1 hp with rfl | hp
    · simp [mget]
    · have e : (q.1 == p.1) = false := by
        simp; intro e; exact hn.1 (e ▸ List.mem_map.2 ⟨p, hp, rfl⟩)
      have := ih hn.2 hp
      simp only [mget, List.find?_cons, e] at this ⊢
      exact this
/-- an entry of an ext map: a row, not empty, of a block that is there -/
theorem ExMap.entry {B r : Nat} {w : World} {m : IM} {E : Int → List Ver} (h : ExMap B w r m E) {p : Int × Value} (hp : p ∈ m) :
    ∃ b cap, p.2 = .slice (some ⟨b, 0, none⟩) (E p.1).length cap ∧ w.ownsRow B 70 2 (.slice (some ⟨b, 0, none⟩) (E p.1).length cap) (E p.1).length ((E p.1).flatMap encV) ∧ 0 < (E p.1).length ∧ b < w.heap.size := by
  have h1 := h.ent p.1
  rw [mget_mem h.map.nodup hp] at h1
  have hv : VRow B w p.2 (E p.1) := h1
  have hlen : 0 < (E p.1).length := List.length_pos_iff.2 hv.2.1
  rcases hv.1.2 with ⟨_, h2⟩ | ⟨g', cap, cur, h1, h2, h3, h4⟩
  · omega
  · rw [h1]
    exact ⟨g', cap, rfl, h1 ▸ hv.1, hlen, lt_heap h3⟩
theorem ExMap.key_mem {B r : Nat} {w : World} {m : IM} {E : Int → List Ver} (h : ExMap B w r m E) {k : Int} (hk : E k ≠ []) : ∃ p ∈ m, p.1 = k := by
  have h1 := h.ent k
  cases hg : mget m k with
  | none => rw [hg] at h1; exact (hk h1).elim
  | some v =>
    unfold mget at hg
    simp only [Option.map_eq_some_iff] at hg
    obtain ⟨p, hp, _⟩ := hg
    exact ⟨p, List.mem_of_find?_eq_some hp, by simpa using List.find?_some hp⟩

/-- was a block of these written behind a time? -/
def wrt (A : Int → List AV) (F L t : Int) : Prop := ∃ k, F ≤ k ∧ k < F + L ∧ ∃ x, (A k).getLast? = some x ∧ t < x.1

set_option maxRecDepth 100000 in
set_option maxHeartbeats 1000000 in
theorem written_any {B g r : Nat} {n last : Int} {A : Int → List AV} (F L t : Int) (w : World) (hX : ExAt B w g r n last A) (h0 : 0 ≤ F) (h1 : F ≤ 1048576) (h2 : 1 ≤ L) (h3 : L ≤ 1048577 - F) (h4 : L ≤ 1048576) :
    Calls Try.prog 16 #[.pointer (some ⟨g, 0, none⟩), .agg #[.int .i64 F, .int .i64 L], .int .i64 t] w fun e w' => (∃ b : Bool, e = .returned (.bool b) ∧ (b = true ↔ wrt A F L t)) ∧ Below w.heap.size w w' := by
  have hB0 : Below w.heap.size w (w.alloc (.cells #[.int .i64 F, .int .i64 L] 45)) := (Below.refl _ w).alloc (Nat.le_refl _) _
  have GO := Lib.hid (gone_any (w.alloc (.cells #[.int .i64 F, .int .i64 L] 45)) (hX.below hB0))
  have HOUT : Hid (∀ k, A k ≠ [] → 0 ≤ k ∧ k < n) := fun k hk => Classical.byContradiction (fun h => hk (hX.pure.out k h))
  have hn1 := hX.pure.hi
  have hg := lt_heap hX.cell
  obtain ⟨m, E, hE, hA⟩ := hX.ex
  have HE := Lib.hid hE
  have HA := Lib.hid hA
  have hrl := hE.map.lt
  obtain ⟨o, ho, hR⟩ := map_range (P := Try.prog) (hE.map.of_eq (w' := w.alloc (.cells #[.int .i64 F, .int .i64 L] 45)) (alloc_heap hE.map.lt)) Try.underlying60
  have c1 : (w.alloc (.cells #[.int .i64 F, .int .i64 L] 45)).cell? ⟨g, 1, none⟩ = some (.map (some r)) := cell_heap ((alloc_heap hg).trans hX.cell) rfl
  have hbx : Hid ((w.alloc (.cells #[.int .i64 F, .int .i64 L] 45)).heap[w.heap.size]? = some (.cells #[.int .i64 F, .int .i64 L] 45 (0, 0))) := alloc_new rfl
  have hsz : (w.alloc (.cells #[.int .i64 F, .int .i64 L] 45)).heap.size = w.heap.size + 1 := by simp
  have t1 : decide (F < 0) = false := by simp; omega
  have t2 : decide (1048576 < F) = false := by simp; omega
  have t3 : decide (L < 1) = false := by simp; omega
  have t4 : decide (1048577 - F < L) = false := by simp; omega
  have t5 : decide (1048576 < L) = false := by simp; omega
  have HSH : Hid (∀ k, (E k).length ≤ 1099511627776) := fun k => by
    have := hX.pure.short k
    rw [hA k] at this
    simpa [absV] using this
  rw [hsz] at ho hR
  clear hX hE hA
  go_enter Try.func16, Try.ntmps16
  go_wp2_with fail
  refine GO.out.mono ?_
  rintro e w' ⟨rfl, rfl⟩
  go_wp2_with fail
  generalize w.alloc (.cells #[.int .i64 F, .int .i64 L] 45) = w1 at *
  have hB1 : Below (w.heap.size + 1) w1 (w1.alloc o) := (Below.refl _ w1).alloc (by omega) _
  have hs2 : (w1.alloc o).heap.size = w.heap.size + 2 := by simp; omega
  have hsz1 : w1.heap.size ≤ w.heap.size + 1 := by omega
  have hsz2 : w.heap.size + 1 ≤ w1.heap.size := by omega
  have hitl : w.heap.size < w.heap.size + 1 := by omega
  clear hsz
  generalize w.heap.size + 1 = it at *
  generalize w1.alloc o = w2 at *
  clear ho
  go_loopg [] m.length (fun k wr => Below it w1 wr ∧ ∃ left : IM, k = left.length ∧ RangeIs wr it r m left ∧ ∀ p ∈ m, p ∈ left ∨ ¬ (F ≤ p.1 ∧ p.1 < F + L ∧ ∃ x, (A p.1).getLast? = some x ∧ t < x.1))
  case atStart => exact ⟨hB1, m, rfl, hR, fun p hp => .inl hp⟩
  case round =>
    obtain ⟨hB, left, hk, hR1, hall⟩ := hrel
    have HK := Lib.hid hk; have HALL := Lib.hid hall; clear hk hall
    have hBw : Below w.heap.size w wr := hB0.trans (hB.mono (by omega))
    rcases range_next (P := Try.prog) hR1 0 with ⟨hl0, hn0⟩ | ⟨p, left', w', hp1, hp2, hp3, hp4, hp5, hn1', hn2, hR2, hC2, hs2'⟩
    · have hd : Hid (¬ wrt A F L t) := by
        subst hl0
        rintro ⟨k, k1, k2, x, k3, k4⟩
        have hEk : E k ≠ [] := by
          intro e
          have := HA.out k
          rw [e] at this
          rw [this] at k3; simp [absV] at k3
        obtain ⟨p, hp, rfl⟩ := HE.out.key_mem hEk
        rcases HALL.out p hp with h | h
        · simp at h
        · exact h ⟨k1, k2, x, k3, k4⟩
      go_wp2
      go_ret
      exact ⟨⟨false, rfl, by simp [hd.out]⟩, hBw⟩
    · have hit' : it < wr.heap.size := hR1.lt
      have hBn : Below it w1 w' := hB.trans (hC2.below (by omega) (fun k hk e => by omega))
      have hBs : Below w.heap.size w w' := hB0.trans (hBn.mono (by omega))
      obtain ⟨b5, cap5, hpv, hown, hlen, hb5⟩ := HE.out.entry hp2
      obtain ⟨pk, pv⟩ := p
      simp only at hpv hown hlen hn1' hn2
      subst hpv
      have hAk := HA.out pk
      have hgl : (A pk).getLast? = ((E pk)[(E pk).length - 1]?).map (fun x => (x.time, x.d)) := by
        rw [hAk]; unfold absV; rw [List.getLast?_map, List.getLast?_eq_getElem?]
      have hx : (E pk)[(E pk).length - 1]? = some ((E pk)[(E pk).length - 1]'(by omega)) := List.getElem?_eq_getElem _
      generalize (E pk)[(E pk).length - 1]'(by omega) = x at hx
      rw [hx] at hgl
      obtain ⟨d0, _⟩ := ver_cells (own_below hown hBs) _ x hx
      have hkb := HOUT.out pk (by intro e; rw [e] at hgl; simp at hgl)
      have hk0 := hkb.1
      have hk1 := hkb.2
      have hlm := HSH.out pk
      have HGL := Lib.hid hgl
      have hbx2 : w'.heap[w.heap.size]? = some (.cells #[.int .i64 F, .int .i64 L] 45 (0, 0)) := (hBn.block _ (by omega)).trans hbx.out
      have x0 : w'.cell? ⟨w.heap.size, 0, none⟩ = some (.int .i64 F) := cell_heap (c := [.int .i64 F, .int .i64 L]) hbx2 rfl
      have x1 : w'.cell? ⟨w.heap.size, 1, none⟩ = some (.int .i64 L) := cell_heap (c := [.int .i64 F, .int .i64 L]) hbx2 rfl
      have P3 := Lib.hid hp3; have P5 := Lib.hid hp5
      generalize hq : (E pk).length = len at *
      have s1 : (len : Int) - 1 = ((len - 1 : Nat) : Int) := by omega
      clear hgl hx hown hAk hkb hbx2 hp1 hp2 hp3 hp4 hp5 hq
      have rest : Hid (¬ (F ≤ pk ∧ pk < F + L ∧ ∃ y, (A pk).getLast? = some y ∧ t < y.1) → ∀ p ∈ m, p ∈ left' ∨ ¬ (F ≤ p.1 ∧ p.1 < F + L ∧ ∃ x, (A p.1).getLast? = some x ∧ t < x.1)) := by
        intro hno q hq
        rcases HALL.out q hq with h | h
        · rcases P3.out q h with rfl | h
          · exact .inr hno
          · exact .inl h
        · exact .inr h
      by_cases c1 : F ≤ pk
      · have e1 : decide (F ≤ pk) = true := by simpa using c1
        by_cases c2 : pk - F < L
        · have e2 : decide (pk - F < L) = true := by simpa using c2
          by_cases c3 : t < x.time
          · have e3 : decide (t < x.time) = true := by simpa using c3
            have hd : Hid (wrt A F L t) := ⟨pk, c1, by omega, _, HGL.out, c3⟩
            go_wp2
            go_ret
            exact ⟨⟨true, rfl, by simp [hd.out]⟩, hBs⟩
          · have e3 : decide (t < x.time) = false := by simpa using c3
            have hno : Hid (¬ (F ≤ pk ∧ pk < F + L ∧ ∃ y, (A pk).getLast? = some y ∧ t < y.1)) := by
              rintro ⟨_, _, y, h5, h6⟩
              rw [HGL.out] at h5
              simp at h5; subst h5; exact c3 h6
            clear c3
            go_wp2
            go_roundg left'.length
            case measure => rw [HK.out]; exact P5.out
            case rel => exact ⟨hBn, left', rfl, hR2, rest.out hno.out⟩
        · have e2 : decide (pk - F < L) = false := by simpa using c2
          have hno : Hid (¬ (F ≤ pk ∧ pk < F + L ∧ ∃ y, (A pk).getLast? = some y ∧ t < y.1)) := by
            rintro ⟨_, h5, _⟩; omega
          clear c2
          go_wp2
          go_roundg left'.length
          case measure => rw [HK.out]; exact P5.out
          case rel => exact ⟨hBn, left', rfl, hR2, rest.out hno.out⟩
      · have e1 : decide (F ≤ pk) = false := by simpa using c1
        have hno : Hid (¬ (F ≤ pk ∧ pk < F + L ∧ ∃ y, (A pk).getLast? = some y ∧ t < y.1)) := by
          rintro ⟨h5, _⟩; omega
        clear c1
        go_wp2
        go_roundg left'.length
        case measure => rw [HK.out]; exact P5.out
        case rel => exact ⟨hBn, left', rfl, hR2, rest.out hno.out⟩
end Go.Proofs.Ytglkbkocdeimiaa
