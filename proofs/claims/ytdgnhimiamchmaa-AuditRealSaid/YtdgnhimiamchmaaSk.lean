import Derived.Shelf.SlIterI.Nil
import Derived.Shelf.SortM.Plain
import Derived.Shelf.SortM.SortNone
import Derived.Test.YtdgnhimiamchmaaProg
import Derived.Test.YtdgnhimiamchmaaMap
namespace Go.Proofs.Ytdgnhimiamchmaa
open Go.RowKit Go.Maps Go.Sort Go.Shelf
open Go.WideElems (rd rg rd_mk)

/-! slices.Sorted(maps.Keys(m)) at a map with int keys -/
def keysOf (m : IM) : List Int := m.map (·.1)
def sortI (l : List Int) : List Int := l.mergeSort fun x y => decide (x ≤ y)
def RU (_ : Value) : Option (DataW Unit × List MemPlace) := some (.nil, [])

theorem keyOf_int {P : Program} {k : TypeId} (hk : P.underlying k = some (.int .i64)) {x : Int} (h0 : -9223372036854775808 ≤ x) (h1 : x ≤ 9223372036854775807) : keyOf P k (.int .i64 x) = some (.int .i64 x) := by
  have hw : (Lit.int .i64 x).wf = true := by simp [Lit.wf, IntKind.min, IntKind.max, IntKind.bits, IntKind.signed]; omega
  simp [keyOf, hk, mapKey, hw]

theorem own_of_map {P : Program} {k : TypeId} (hk : P.underlying k = some (.int .i64)) {w : World} {r : Nat} {m : IM} (h : MapIs w r m) (hb : ∀ x ∈ keysOf m, -9223372036854775808 ≤ x ∧ x ≤ 9223372036854775807) (hs : m.length ≤ maxLen) :
    ∃ D0 : DataW Unit, w.ownsMap P k RU r m.length D0 ∧ (intKeys D0).Perm (keysOf m) ∧ Maps.size D0 = m.length := by
  obtain ⟨es, clock, hr, hm, hn, hbn, hbc⟩ := h
  have hl : es.size = m.length := by have := congrArg List.length hm; simpa using this
  have hkey : ∀ x ∈ es.toList, ∃ n : Int, n ∈ keysOf m ∧ x.key = .int .i64 n := by
    intro x hx
    have : kv x ∈ m.map pv := hm ▸ List.mem_map.2 ⟨x, hx, rfl⟩
    obtain ⟨p, hp, hpx⟩ := List.mem_map.1 this
    exact ⟨p.1, List.mem_map.2 ⟨p, hp, rfl⟩, (congrArg Prod.fst hpx).symm⟩
  have hrd : ∀ x ∈ es.toList, ∀ n : Int, x.key = .int .i64 n → n ∈ keysOf m → rd P k RU x = some (.int .i64 n, .nil) := by
    intro x hx n hxn hnm
    obtain ⟨xk, xv, xb⟩ := x
    simp only at hxn
    subst hxn
    exact rd_mk (yv := ((DataW.nil : DataW Unit), [])) (keyOf_int hk (hb n hnm).1 (hb n hnm).2) rfl
  have hkeys : es.toList.map (·.key) = (keysOf m).map (Value.int .i64) := by
    have := congrArg (List.map Prod.fst) hm
    simpa [keysOf, kv, pv, Function.comp_def] using this
  have hnk : (es.toList.map (·.key)).Nodup := by
    rw [hkeys]
    exact List.Pairwise.map _ (fun a b hne e => hne (by injection e)) hn
  have F : WideElems.Fit P k RU es clock := ⟨by omega, ⟨hbc, hbn, hnk⟩, fun x hx => by
    obtain ⟨n, h1, h2⟩ := hkey x hx
    exact ⟨_, hrd x hx n h2 h1⟩⟩
  refine ⟨_, ⟨es, clock, hr, F, by omega, rfl⟩, ?_, ?_⟩
  · show (((es.toList.map (rg P k RU)).foldr DataW.insert []).map fun p => Go.intOf p.1).Perm _
    refine ((WideShapes.sorted_perm _).map _).trans ?_
    have e : (es.toList.map (rg P k RU)).map (fun p => Go.intOf p.1) = keysOf m := by
      have e2 : ∀ x ∈ es.toList, ∃ n : Int, x.key = .int .i64 n ∧ Go.intOf (rg P k RU x).1 = n := by
        intro x hx
        obtain ⟨n, h1, h2⟩ := hkey x hx
        refine ⟨n, h2, ?_⟩
        rw [WideElems.rg_of (hrd x hx n h2 h1)]; rfl
      have e3 : ((es.toList.map (rg P k RU)).map (fun p => Go.intOf p.1)).map (Value.int .i64) = (keysOf m).map (Value.int .i64) := by
        rw [← hkeys, List.map_map, List.map_map]
        apply List.map_congr_left
        intro x hx
        obtain ⟨n, h1, h2⟩ := e2 x hx
        simp only [Function.comp]
        rw [h2, h1]
      exact (List.map_inj_right (fun a b h => by injection h)).1 e3
    rw [e]
  · show (((es.toList.map (rg P k RU)).foldr DataW.insert [])).length = _
    rw [length_sorted]; simp; exact hl

def Try.keysA_ren : Go.Shelf.Ren := ⟨fun | 7 => 62 | 10 => 80 | n => n, fun | 23 => 80 | 26 => 3 | 3 => 35 | 28 => 103 | 0 => 0 | 27 => 102 | 33 => 74 | 4 => 4 | n => n, fun | n => n⟩
theorem Try.keysA : Go.Proofs.SlLaysZI.n7 Try.prog Try.keysA_ren :=
  { mixed := by kernel_rfl,
    f7 := ⟨Try.f62.name, by decide, Try.func62.trans (congrArg some (by kernel_rfl))⟩,
    f10 := ⟨Try.f80.name, by decide, Try.func80.trans (congrArg some (by kernel_rfl))⟩,
    t0 := Try.underlying0,
    a0 := Try.isAgg0,
    z0 := Try.sizeOf0,
    v0 := Try.zeroValue0,
    t4 := Try.underlying4,
    a4 := Try.isAgg4,
    z4 := Try.sizeOf4,
    v4 := Try.zeroValue4,
    t23 := Try.underlying80,
    a23 := Try.isAgg80,
    z23 := Try.sizeOf80,
    v23 := Try.zeroValue80,
    t26 := Try.underlying3,
    a26 := Try.isAgg3,
    z26 := Try.sizeOf3,
    v26 := Try.zeroValue3,
    t27 := Try.underlying102,
    a27 := Try.isAgg102,
    z27 := Try.sizeOf102,
    v27 := Try.zeroValue102,
    t28 := Try.underlying103,
    a28 := Try.isAgg103,
    z28 := Try.sizeOf103,
    v28 := Try.zeroValue103,
    t33 := Try.underlying74,
    a33 := Try.isAgg74,
    z33 := Try.sizeOf74,
    v33 := Try.zeroValue74 }
def Try.sortedA_ren : Go.Shelf.Ren := ⟨fun | 6 => 61 | 8 => 78 | 9 => 79 | 11 => 92 | 13 => 94 | 12 => 93 | 23 => 107 | 24 => 108 | 14 => 98 | 15 => 99 | 16 => 100 | 17 => 101 | 18 => 102 | 19 => 103 | 20 => 104 | 21 => 105 | 22 => 106 | 25 => 111 | 26 => 112 | 27 => 113 | 28 => 114 | 29 => 115 | 30 => 68 | 31 => 116 | n => n, fun | 26 => 3 | 28 => 103 | 24 => 44 | 0 => 0 | 3 => 3 | 37 => 128 | 48 => 137 | 50 => 139 | 4 => 4 | 40 => 132 | 39 => 131 | 45 => 54 | 5 => 5 | 9 => 9 | 51 => 140 | 55 => 144 | 57 => 146 | 58 => 147 | 33 => 74 | n => n, fun | n => n⟩
theorem Try.sortedA : Go.Proofs.SlLaysZI.n6 Try.prog Try.sortedA_ren :=
  { mixed := by kernel_rfl,
    f6 := ⟨Try.f61.name, by decide, Try.func61.trans (congrArg some (by kernel_rfl))⟩,
    f8 := ⟨Try.f78.name, by decide, Try.func78.trans (congrArg some (by kernel_rfl))⟩,
    f11 := ⟨Try.f92.name, by decide, Try.func92.trans (congrArg some (by kernel_rfl))⟩,
    t0 := Try.underlying0,
    a0 := Try.isAgg0,
    z0 := Try.sizeOf0,
    v0 := Try.zeroValue0,
    t24 := Try.underlying44,
    a24 := Try.isAgg44,
    z24 := Try.sizeOf44,
    v24 := Try.zeroValue44,
    t26 := Try.underlying3,
    a26 := Try.isAgg3,
    z26 := Try.sizeOf3,
    v26 := Try.zeroValue3,
    t28 := Try.underlying103,
    a28 := Try.isAgg103,
    z28 := Try.sizeOf103,
    v28 := Try.zeroValue103,
    i26 := by kernel_rfl }
def Try.sortA_ren : Go.Shelf.Ren := ⟨fun | 5 => 79 | 8 => 94 | 7 => 93 | 19 => 107 | 20 => 108 | 10 => 98 | 11 => 99 | 12 => 100 | 13 => 101 | 14 => 102 | 15 => 103 | 16 => 104 | 17 => 105 | 18 => 106 | 30 => 111 | 31 => 112 | 32 => 113 | 33 => 114 | 34 => 115 | 35 => 68 | 40 => 116 | n => n, fun | 23 => 44 | 25 => 3 | 3 => 3 | 32 => 128 | 22 => 44 | 0 => 0 | 44 => 137 | 46 => 139 | 4 => 4 | 36 => 132 | 35 => 131 | 41 => 54 | 5 => 5 | 9 => 9 | 53 => 140 | 57 => 144 | 63 => 146 | 64 => 147 | n => n, fun | n => n⟩
theorem Try.sortA : Go.Proofs.SlLaysM.n5 Try.prog Try.sortA_ren :=
  { mixed := by kernel_rfl,
    f5 := ⟨Try.f79.name, by decide, Try.func79.trans (congrArg some (by kernel_rfl))⟩,
    f7 := ⟨Try.f93.name, by decide, Try.func93.trans (congrArg some (by kernel_rfl))⟩,
    f8 := Try.func94.trans (congrArg some (by kernel_rfl)),
    f10 := ⟨Try.f98.name, by decide, Try.func98.trans (congrArg some (by kernel_rfl))⟩,
    f11 := ⟨Try.f99.name, by decide, Try.func99.trans (congrArg some (by kernel_rfl))⟩,
    f12 := ⟨Try.f100.name, by decide, Try.func100.trans (congrArg some (by kernel_rfl))⟩,
    f13 := ⟨Try.f101.name, by decide, Try.func101.trans (congrArg some (by kernel_rfl))⟩,
    f14 := ⟨Try.f102.name, by decide, Try.func102.trans (congrArg some (by kernel_rfl))⟩,
    f15 := ⟨Try.f103.name, by decide, Try.func103.trans (congrArg some (by kernel_rfl))⟩,
    f16 := ⟨Try.f104.name, by decide, Try.func104.trans (congrArg some (by kernel_rfl))⟩,
    f17 := ⟨Try.f105.name, by decide, Try.func105.trans (congrArg some (by kernel_rfl))⟩,
    f18 := ⟨Try.f106.name, by decide, Try.func106.trans (congrArg some (by kernel_rfl))⟩,
    f19 := Try.func107.trans (congrArg some (by kernel_rfl)),
    f20 := Try.func108.trans (congrArg some (by kernel_rfl)),
    f30 := ⟨Try.f111.name, by decide, Try.func111.trans (congrArg some (by kernel_rfl))⟩,
    f31 := Try.func112.trans (congrArg some (by kernel_rfl)),
    f32 := Try.func113.trans (congrArg some (by kernel_rfl)),
    f33 := ⟨Try.f114.name, by decide, Try.func114.trans (congrArg some (by kernel_rfl))⟩,
    f34 := ⟨Try.f115.name, by decide, Try.func115.trans (congrArg some (by kernel_rfl))⟩,
    f35 := ⟨Try.f68.name, by decide, Try.func68.trans (congrArg some (by kernel_rfl))⟩,
    f40 := ⟨Try.f116.name, by decide, Try.func116.trans (congrArg some (by kernel_rfl))⟩,
    t0 := Try.underlying0,
    a0 := Try.isAgg0,
    z0 := Try.sizeOf0,
    v0 := Try.zeroValue0,
    t3 := Try.underlying3,
    a3 := Try.isAgg3,
    z3 := Try.sizeOf3,
    v3 := Try.zeroValue3,
    t4 := Try.underlying4,
    a4 := Try.isAgg4,
    z4 := Try.sizeOf4,
    v4 := Try.zeroValue4,
    t5 := Try.underlying5,
    a5 := Try.isAgg5,
    z5 := Try.sizeOf5,
    v5 := Try.zeroValue5,
    t9 := Try.underlying9,
    a9 := Try.isAgg9,
    z9 := Try.sizeOf9,
    v9 := Try.zeroValue9,
    t22 := Try.underlying44,
    a22 := Try.isAgg44,
    z22 := Try.sizeOf44,
    v22 := Try.zeroValue44,
    t23 := Try.underlying44,
    a23 := Try.isAgg44,
    z23 := Try.sizeOf44,
    v23 := Try.zeroValue44,
    t25 := Try.underlying3,
    a25 := Try.isAgg3,
    z25 := Try.sizeOf3,
    v25 := Try.zeroValue3,
    t32 := Try.underlying128,
    a32 := Try.isAgg128,
    z32 := Try.sizeOf128,
    v32 := Try.zeroValue128,
    t35 := Try.underlying131,
    a35 := Try.isAgg131,
    z35 := Try.sizeOf131,
    v35 := Try.zeroValue131,
    t36 := Try.underlying132,
    a36 := Try.isAgg132,
    z36 := Try.sizeOf132,
    v36 := Try.zeroValue132,
    t41 := Try.underlying54,
    a41 := Try.isAgg54,
    z41 := Try.sizeOf54,
    v41 := Try.zeroValue54,
    t44 := Try.underlying137,
    a44 := Try.isAgg137,
    z44 := Try.sizeOf137,
    v44 := Try.zeroValue137,
    t46 := Try.underlying139,
    a46 := Try.isAgg139,
    z46 := Try.sizeOf139,
    v46 := Try.zeroValue139,
    t53 := Try.underlying140,
    a53 := Try.isAgg140,
    z53 := Try.sizeOf140,
    v53 := Try.zeroValue140,
    t57 := Try.underlying144,
    a57 := Try.isAgg144,
    z57 := Try.sizeOf144,
    v57 := Try.zeroValue144,
    t63 := Try.underlying146,
    a63 := Try.isAgg146,
    z63 := Try.sizeOf146,
    v63 := Try.zeroValue146,
    t64 := Try.underlying147,
    a64 := Try.isAgg147,
    z64 := Try.sizeOf147,
    v64 := Try.zeroValue147 }

theorem sortsA (n : Nat) : AnyZI.SortsIn Try.prog Try.sortedA_ren Fence.wide n :=
  ⟨fun blk off cap ss W hH hblk hsz => callsIn_wide.2 (AnyM.slices_Sort_int Try.sortA blk off cap ss W hH hblk hsz),
   fun p cap W => callsIn_wide.2 (AnyM.slices_Sort_int_none Try.sortA p cap W)⟩

theorem keys_any (r : Nat) (w : World) : Calls Try.prog 62 #[.map (some r)] w fun e w' => e = .returned (.func (.func 80) #[] #[.pointer (some ⟨w.heap.size, 0, none⟩)]) ∧ w' = w.alloc (.cells #[.map (some r)] 80) :=
  (callsIn_wide (n := 5)).1 (AnyZI.keys_in Try.keysA Fence.wide 5 trivial rfl (some r) w)

theorem sorted_any (r bm : Nat) (m : IM) (w : World) (hm : MapIs w r m) (hc : w.cell? ⟨bm, 0, none⟩ = some (.map (some r))) (hb : ∀ x ∈ keysOf m, -9223372036854775808 ≤ x ∧ x ≤ 9223372036854775807) (hs : m.length ≤ 1048576) :
    Calls Try.prog 61 #[.func (.func 80) #[] #[.pointer (some ⟨bm, 0, none⟩)]] w fun e w' => ∃ a c, e = .returned (.slice a m.length c) ∧ Below w.heap.size w w' ∧ w'.ownsRow w.heap.size 3 1 (.slice a m.length c) m.length ((sortI (keysOf m)).map (Value.int .i64)) := by
  obtain ⟨D0, hown, hperm, hsz⟩ := own_of_map (P := Try.prog) (k := 3) Try.underlying3 hm hb (by unfold maxLen; omega)
  have hseq : SeqGives Fence.wide 2 Try.prog 80 #[.pointer (some ⟨bm, 0, none⟩)] encZ (fun ss => ss.Perm (intKeys D0)) (Maps.size D0) w :=
    AnyZI.keys_gives (ρ := Try.keysA_ren) { Try.keysA with } Fence.wide _ trivial rfl (by omega) bm r _ D0 w (World.block_lt_of_cell? w _ hc) hc hown
  have cS := AnyZI.sorted_in Try.sortedA Fence.wide 5 trivial trivial trivial trivial rfl (by omega) (sortsA _) (enters_of Try.func79 (by kernel_rfl) rfl) 80 #[.pointer (some ⟨bm, 0, none⟩)] trivial (enters_of Try.func80 (by kernel_rfl) rfl) _ _ (by rw [hsz]; unfold maxLen; omega) (by rw [hsz]; omega) w hseq
  change CallsIn _ _ Try.prog 61 _ _ _ at cS
  refine ((callsIn_wide (n := 5)).1 cS).mono ?_
  rintro e w' ⟨v, ss, rfl, hS, hrow, hnil, hB⟩
  have hp : ss.Perm (keysOf m) := hS.trans hperm
  have hl : ss.length = m.length := by rw [hp.length_eq]; simp [keysOf]
  rw [show ss.mergeSort (fun x y => decide (x ≤ y)) = sortI (keysOf m) from mergeSort_of_perm_i hp, hl] at hrow
  rcases hrow.2 with ⟨h1, h2⟩ | ⟨g, cap, cur, h1, h2⟩
  · have e : v = .slice none m.length 0 := by rw [h1, h2]
    subst e
    exact ⟨none, 0, rfl, hB, hrow⟩
  · rw [h1] at hrow ⊢
    exact ⟨_, _, rfl, hB, hrow⟩
end Go.Proofs.Ytdgnhimiamchmaa
