import Derived.Shelf.SlIterI.Nil
import Derived.Shelf.SortM.Plain
import Derived.Shelf.SortM.SortNone
import Derived.Test.YtfmjkpobphjgkaaProg
import Derived.Test.YtfmjkpobphjgkaaMap
namespace Go.Proofs.Ytfmjkpobphjgkaa
open Go.RowKit Go.Maps Go.Sort Go.Shelf
open Go.WideElems (rd rg rd_mk)

/-! slices.Sorted(maps.Keys(m)) at a map with int keys -/
def keysOf (m : IM) : List Int := m.map (·.1)
def sortI (l : List Int) : List Int := l.mergeSort fun x y => decide (x ≤ y)
def RU (_ : Value) : Option (DataW Unit × List MemPlace) := some (.nil, [])

theorem keyOf_int {P : Program} {k : TypeId} (hk : P.underlying k = some (.int .i64)) {x : Int} (h0 : -9223372036854775808 ≤ x) (h1 : x ≤ 9223372036854775807) : keyOf P k (.int .i64 x) = some (.int .i64 x) := by
  have hw : (Lit.int .i64 x).wf = true := by simp [Lit.wf, IntKind.min, IntKind.max, IntKind.bits, IntKind.signed]; omega
  simp [keyOf, hk, mapKey, hw]

theorem own_of_map {P : Program} {k : TypeId} (hk : P.underlying k = some (.int .i64)) {w : World} {r : Nat} {m : IM} (h : MapIs w r m) (hb : ∀ x ∈ keysOf m, -9223372036854775808 ≤ x ∧ x ≤ 9223372036854775807) (hs : m.length ≤ maxLen) :
    ∃ D0 : DataW Unit, w.ownsMap P k RU r m.length D0 ∧ (intKeys D0).Perm (keysOf m) ∧ Maps.size D0 = m.length := by
  obtain ⟨es, clock, hr, hm, hn, hbn, hbc⟩ := h
  have hl : es.size = m.length := by have := congrArg List.length hm; simpa using this
  have hkey : ∀ x ∈ es.toList, ∃ n : Int, n ∈ keysOf m ∧ x.key = .int .i64 n := by
    intro x hx
    have : kv x ∈ m.map pv := hm ▸ List.mem_map.2 ⟨x, hx, rfl⟩
    obtain ⟨p, hp, hpx⟩ := List.mem_map.1 this
    exact ⟨p.1, List.mem_map.2 ⟨p, hp, rfl⟩, (congrArg Prod.fst hpx).symm⟩
  have hrd : ∀ x ∈ es.toList, ∀ n : Int, x.key = .int .i64 n → n ∈ keysOf m → rd P k RU x = some (.int .i64 n, .nil) := by
    intro x hx n hxn hnm
    obtain ⟨xk, xv, xb⟩ := x
    simp only at hxn
    subst hxn
    exact rd_mk (yv := ((DataW.nil : DataW Unit), [])) (keyOf_int hk (hb n hnm).1 (hb n hnm).2) rfl
  have hkeys : es.toList.map (·.key) = (keysOf m).map (Value.int .i64) := by
    have := congrArg (List.map Prod.fst) hm
    simpa [keysOf, kv, pv, Function.comp_def] using this
  have hnk : (es.toList.map (·.key)).Nodup := by
    rw [hkeys]
    exact List.Pairwise.map _ (fun a b hne e => hne (by injection e)) hn
  have F : WideElems.Fit P k RU es clock := ⟨by omega, ⟨hbc, hbn, hnk⟩, fun x hx => by
    obtain ⟨n, h1, h2⟩ := hkey x hx
    exact ⟨_, hrd x hx n h2 h1⟩⟩
  refine ⟨_, ⟨es, clock, hr, F, by omega, rfl⟩, ?_, ?_⟩
  · show (((es.toList.map (rg P k RU)).foldr DataW.insert []).map fun p => Go.intOf p.1).Perm _
    refine ((WideShapes.sorted_perm _).map _).trans ?_
    have e : (es.toList.map (rg P k RU)).map (fun p => Go.intOf p.1) = keysOf m := by
      have e2 : ∀ x ∈ es.toList, ∃ n : Int, x.key = .int .i64 n ∧ Go.intOf (rg P k RU x).1 = n := by
        intro x hx
        obtain ⟨n, h1, h2⟩ := hkey x hx
        refine ⟨n, h2, ?_⟩
        rw [WideElems.rg_of (hrd x hx n h2 h1)]; rfl
      have e3 : ((es.toList.map (rg P k RU)).map (fun p => Go.intOf p.1)).map (Value.int .i64) = (keysOf m).map (Value.int .i64) := by
        rw [← hkeys, List.map_map, List.map_map]
        apply List.map_congr_left
        intro x hx
        obtain ⟨n, h1, h2⟩ := e2 x hx
        simp only [Function.comp]
        rw [h2, h1]
      exact (List.map_inj_right (fun a b h => by injection h)).1 e3
    rw [e]
  · show (((es.toList.map (rg P k RU)).foldr DataW.insert [])).length = _
    rw [length_sorted]; simp; exact hl

def Try.keysA_ren : Go.Shelf.Ren := ⟨fun | 7 => 25 | 10 => 28 | n => n, fun | 23 => 48 | 26 => 3 | 3 => 3 | 28 => 54 | 0 => 0 | 27 => 53 | 33 => 57 | 4 => 4 | n => n, fun | n => n⟩
theorem Try.keysA : Go.Proofs.SlLaysZI.n7 Try.prog Try.keysA_ren :=
  { mixed := by kernel_rfl,
    f7 := ⟨Try.f25.name, by decide, Try.func25.trans (congrArg some (by kernel_rfl))⟩,
    f10 := ⟨Try.f28.name, by decide, Try.func28.trans (congrArg some (by kernel_rfl))⟩,
    t0 := Try.underlying0,
    a0 := Try.isAgg0,
    z0 := Try.sizeOf0,
    v0 := Try.zeroValue0,
    t4 := Try.underlying4,
    a4 := Try.isAgg4,
    z4 := Try.sizeOf4,
    v4 := Try.zeroValue4,
    t23 := Try.underlying48,
    a23 := Try.isAgg48,
    z23 := Try.sizeOf48,
    v23 := Try.zeroValue48,
    t26 := Try.underlying3,
    a26 := Try.isAgg3,
    z26 := Try.sizeOf3,
    v26 := Try.zeroValue3,
    t27 := Try.underlying53,
    a27 := Try.isAgg53,
    z27 := Try.sizeOf53,
    v27 := Try.zeroValue53,
    t28 := Try.underlying54,
    a28 := Try.isAgg54,
    z28 := Try.sizeOf54,
    v28 := Try.zeroValue54,
    t33 := Try.underlying57,
    a33 := Try.isAgg57,
    z33 := Try.sizeOf57,
    v33 := Try.zeroValue57 }
def Try.sortedA_ren : Go.Shelf.Ren := ⟨fun | 6 => 24 | 8 => 26 | 9 => 27 | 11 => 29 | 13 => 31 | 12 => 30 | 23 => 41 | 24 => 42 | 14 => 32 | 15 => 33 | 16 => 34 | 17 => 35 | 18 => 36 | 19 => 37 | 20 => 38 | 21 => 39 | 22 => 40 | 25 => 43 | 26 => 44 | 27 => 45 | 28 => 46 | 29 => 47 | 30 => 48 | 31 => 49 | n => n, fun | 26 => 3 | 28 => 54 | 24 => 27 | 0 => 0 | 3 => 3 | 37 => 61 | 48 => 70 | 50 => 72 | 4 => 4 | 40 => 64 | 39 => 63 | 45 => 51 | 5 => 5 | 9 => 9 | 51 => 73 | 55 => 77 | 57 => 79 | 58 => 35 | 33 => 57 | n => n, fun | n => n⟩
theorem Try.sortedA : Go.Proofs.SlLaysZI.n6 Try.prog Try.sortedA_ren :=
  { mixed := by kernel_rfl,
    f6 := ⟨Try.f24.name, by decide, Try.func24.trans (congrArg some (by kernel_rfl))⟩,
    f8 := ⟨Try.f26.name, by decide, Try.func26.trans (congrArg some (by kernel_rfl))⟩,
    f11 := ⟨Try.f29.name, by decide, Try.func29.trans (congrArg some (by kernel_rfl))⟩,
    t0 := Try.underlying0,
    a0 := Try.isAgg0,
    z0 := Try.sizeOf0,
    v0 := Try.zeroValue0,
    t24 := Try.underlying27,
    a24 := Try.isAgg27,
    z24 := Try.sizeOf27,
    v24 := Try.zeroValue27,
    t26 := Try.underlying3,
    a26 := Try.isAgg3,
    z26 := Try.sizeOf3,
    v26 := Try.zeroValue3,
    t28 := Try.underlying54,
    a28 := Try.isAgg54,
    z28 := Try.sizeOf54,
    v28 := Try.zeroValue54,
    i26 := by kernel_rfl }
def Try.sortA_ren : Go.Shelf.Ren := ⟨fun | 5 => 27 | 8 => 31 | 7 => 30 | 19 => 41 | 20 => 42 | 10 => 32 | 11 => 33 | 12 => 34 | 13 => 35 | 14 => 36 | 15 => 37 | 16 => 38 | 17 => 39 | 18 => 40 | 30 => 43 | 31 => 44 | 32 => 45 | 33 => 46 | 34 => 47 | 35 => 48 | 40 => 49 | n => n, fun | 23 => 27 | 25 => 3 | 3 => 3 | 32 => 61 | 22 => 27 | 0 => 0 | 44 => 70 | 46 => 72 | 4 => 4 | 36 => 64 | 35 => 63 | 41 => 51 | 5 => 5 | 9 => 9 | 53 => 73 | 57 => 77 | 63 => 79 | 64 => 35 | n => n, fun | n => n⟩
theorem Try.sortA : Go.Proofs.SlLaysM.n5 Try.prog Try.sortA_ren :=
  { mixed := by kernel_rfl,
    f5 := ⟨Try.f27.name, by decide, Try.func27.trans (congrArg some (by kernel_rfl))⟩,
    f7 := ⟨Try.f30.name, by decide, Try.func30.trans (congrArg some (by kernel_rfl))⟩,
    f8 := Try.func31.trans (congrArg some (by kernel_rfl)),
    f10 := ⟨Try.f32.name, by decide, Try.func32.trans (congrArg some (by kernel_rfl))⟩,
    f11 := ⟨Try.f33.name, by decide, Try.func33.trans (congrArg some (by kernel_rfl))⟩,
    f12 := ⟨Try.f34.name, by decide, Try.func34.trans (congrArg some (by kernel_rfl))⟩,
    f13 := ⟨Try.f35.name, by decide, Try.func35.trans (congrArg some (by kernel_rfl))⟩,
    f14 := ⟨Try.f36.name, by decide, Try.func36.trans (congrArg some (by kernel_rfl))⟩,
    f15 := ⟨Try.f37.name, by decide, Try.func37.trans (congrArg some (by kernel_rfl))⟩,
    f16 := ⟨Try.f38.name, by decide, Try.func38.trans (congrArg some (by kernel_rfl))⟩,
    f17 := ⟨Try.f39.name, by decide, Try.func39.trans (congrArg some (by kernel_rfl))⟩,
    f18 := ⟨Try.f40.name, by decide, Try.func40.trans (congrArg some (by kernel_rfl))⟩,
    f19 := Try.func41.trans (congrArg some (by kernel_rfl)),
    f20 := Try.func42.trans (congrArg some (by kernel_rfl)),
    f30 := ⟨Try.f43.name, by decide, Try.func43.trans (congrArg some (by kernel_rfl))⟩,
    f31 := Try.func44.trans (congrArg some (by kernel_rfl)),
    f32 := Try.func45.trans (congrArg some (by kernel_rfl)),
    f33 := ⟨Try.f46.name, by decide, Try.func46.trans (congrArg some (by kernel_rfl))⟩,
    f34 := ⟨Try.f47.name, by decide, Try.func47.trans (congrArg some (by kernel_rfl))⟩,
    f35 := ⟨Try.f48.name, by decide, Try.func48.trans (congrArg some (by kernel_rfl))⟩,
    f40 := ⟨Try.f49.name, by decide, Try.func49.trans (congrArg some (by kernel_rfl))⟩,
    t0 := Try.underlying0,
    a0 := Try.isAgg0,
    z0 := Try.sizeOf0,
    v0 := Try.zeroValue0,
    t3 := Try.underlying3,
    a3 := Try.isAgg3,
    z3 := Try.sizeOf3,
    v3 := Try.zeroValue3,
    t4 := Try.underlying4,
    a4 := Try.isAgg4,
    z4 := Try.sizeOf4,
    v4 := Try.zeroValue4,
    t5 := Try.underlying5,
    a5 := Try.isAgg5,
    z5 := Try.sizeOf5,
    v5 := Try.zeroValue5,
    t9 := Try.underlying9,
    a9 := Try.isAgg9,
    z9 := Try.sizeOf9,
    v9 := Try.zeroValue9,
    t22 := Try.underlying27,
    a22 := Try.isAgg27,
    z22 := Try.sizeOf27,
    v22 := Try.zeroValue27,
    t23 := Try.underlying27,
    a23 := Try.isAgg27,
    z23 := Try.sizeOf27,
    v23 := Try.zeroValue27,
    t25 := Try.underlying3,
    a25 := Try.isAgg3,
    z25 := Try.sizeOf3,
    v25 := Try.zeroValue3,
    t32 := Try.underlying61,
    a32 := Try.isAgg61,
    z32 := Try.sizeOf61,
    v32 := Try.zeroValue61,
    t35 := Try.underlying63,
    a35 := Try.isAgg63,
    z35 := Try.sizeOf63,
    v35 := Try.zeroValue63,
    t36 := Try.underlying64,
    a36 := Try.isAgg64,
    z36 := Try.sizeOf64,
    v36 := Try.zeroValue64,
    t41 := Try.underlying51,
    a41 := Try.isAgg51,
    z41 := Try.sizeOf51,
    v41 := Try.zeroValue51,
    t44 := Try.underlying70,
    a44 := Try.isAgg70,
    z44 := Try.sizeOf70,
    v44 := Try.zeroValue70,
    t46 := Try.underlying72,
    a46 := Try.isAgg72,
    z46 := Try.sizeOf72,
    v46 := Try.zeroValue72,
    t53 := Try.underlying73,
    a53 := Try.isAgg73,
    z53 := Try.sizeOf73,
    v53 := Try.zeroValue73,
    t57 := Try.underlying77,
    a57 := Try.isAgg77,
    z57 := Try.sizeOf77,
    v57 := Try.zeroValue77,
    t63 := Try.underlying79,
    a63 := Try.isAgg79,
    z63 := Try.sizeOf79,
    v63 := Try.zeroValue79,
    t64 := Try.underlying35,
    a64 := Try.isAgg35,
    z64 := Try.sizeOf35,
    v64 := Try.zeroValue35 }

theorem sortsA (n : Nat) : AnyZI.SortsIn Try.prog Try.sortedA_ren Fence.wide n :=
  ⟨fun blk off cap ss W hH hblk hsz => callsIn_wide.2 (AnyM.slices_Sort_int Try.sortA blk off cap ss W hH hblk hsz),
   fun p cap W => callsIn_wide.2 (AnyM.slices_Sort_int_none Try.sortA p cap W)⟩

theorem keys_any (r : Nat) (w : World) : Calls Try.prog 25 #[.map (some r)] w fun e w' => e = .returned (.func (.func 28) #[] #[.pointer (some ⟨w.heap.size, 0, none⟩)]) ∧ w' = w.alloc (.cells #[.map (some r)] 48) :=
  (callsIn_wide (n := 5)).1 (AnyZI.keys_in Try.keysA Fence.wide 5 trivial rfl (some r) w)

theorem sorted_any (r bm : Nat) (m : IM) (w : World) (hm : MapIs w r m) (hc : w.cell? ⟨bm, 0, none⟩ = some (.map (some r))) (hb : ∀ x ∈ keysOf m, -9223372036854775808 ≤ x ∧ x ≤ 9223372036854775807) (hs : m.length ≤ 1000000) :
    Calls Try.prog 24 #[.func (.func 28) #[] #[.pointer (some ⟨bm, 0, none⟩)]] w fun e w' => ∃ a c, e = .returned (.slice a m.length c) ∧ Below w.heap.size w w' ∧ w'.ownsRow w.heap.size 3 1 (.slice a m.length c) m.length ((sortI (keysOf m)).map (Value.int .i64)) := by
  obtain ⟨D0, hown, hperm, hsz⟩ := own_of_map (P := Try.prog) (k := 3) Try.underlying3 hm hb (by unfold maxLen; omega)
  have hseq : SeqGives Fence.wide 2 Try.prog 28 #[.pointer (some ⟨bm, 0, none⟩)] encZ (fun ss => ss.Perm (intKeys D0)) (Maps.size D0) w :=
    AnyZI.keys_gives (ρ := Try.keysA_ren) { Try.keysA with } Fence.wide _ trivial rfl (by omega) bm r _ D0 w (World.block_lt_of_cell? w _ hc) hc hown
  have cS := AnyZI.sorted_in Try.sortedA Fence.wide 5 trivial trivial trivial trivial rfl (by omega) (sortsA _) (enters_of Try.func27 (by kernel_rfl) rfl) 28 #[.pointer (some ⟨bm, 0, none⟩)] trivial (enters_of Try.func28 (by kernel_rfl) rfl) _ _ (by rw [hsz]; unfold maxLen; omega) (by rw [hsz]; omega) w hseq
  change CallsIn _ _ Try.prog 24 _ _ _ at cS
  refine ((callsIn_wide (n := 5)).1 cS).mono ?_
  rintro e w' ⟨v, ss, rfl, hS, hrow, hnil, hB⟩
  have hp : ss.Perm (keysOf m) := hS.trans hperm
  have hl : ss.length = m.length := by rw [hp.length_eq]; simp [keysOf]
  rw [show ss.mergeSort (fun x y => decide (x ≤ y)) = sortI (keysOf m) from mergeSort_of_perm_i hp, hl] at hrow
  rcases hrow.2 with ⟨h1, h2⟩ | ⟨g, cap, cur, h1, h2⟩
  · have e : v = .slice none m.length 0 := by rw [h1, h2]
    subst e
    exact ⟨none, 0, rfl, hB, hrow⟩
  · rw [h1] at hrow ⊢
    exact ⟨_, _, rfl, hB, hrow⟩
end Go.Proofs.Ytfmjkpobphjgkaa
