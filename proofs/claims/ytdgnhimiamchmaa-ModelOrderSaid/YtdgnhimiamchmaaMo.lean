import Derived.Test.YtdgnhimiamchmaaAx
import Derived.Test.YtdgnhimiamchmaaHm
import Derived.Test.YtdgnhimiamchmaaRo
namespace Go.Proofs.Ytdgnhimiamchmaa
open Go.RowKit
open BigFrame Lib

/-- where no two keys are one, the order in which they come does not matter -/
theorem stab_perm_eq {α : Type} (key : α → Int) {l1 l2 : List α} (hp : l1.Perm l2) (hd : l1.Pairwise (fun x y => key x ≠ key y)) : stab key l1 = stab key l2 := by
  have hs : ∀ l : List α, l.Perm l1 → (stab key l).Pairwise (fun x y => key x < key y) := fun l hl => by
    have h1 := stab_le key l
    have h2 : (stab key l).Pairwise (fun x y => key x ≠ key y) :=
      (List.Perm.pairwise_iff (fun {x y} h e => h e.symm) ((stab_perm key l).trans hl)).2 hd
    exact (h1.and h2).imp (fun {x y} ⟨a, b⟩ => by omega)
  exact sorted_unique (R := fun x y => key x < key y) (fun a b h1 h2 => by omega) _ _ ((stab_perm key l1).trans (hp.trans (stab_perm key l2).symm)) (hs l1 (.refl _)) (hs l2 hp.symm)
theorem replay_perm (n : Int) {l1 l2 : List HistV} (hp : l1.Perm l2) (hd : l1.Pairwise (fun x y => x.tm ≠ y.tm)) : replay n l1 = replay n l2 := by
  unfold replay wroteL
  rw [stab_perm_eq HistV.tm (hp.filter wroteH) (hd.filter wroteH)]
theorem rot_perm {α : Type} (l : List α) (k : Nat) : (l.drop k ++ l.take k).Perm l := by
  refine List.perm_append_comm.trans ?_
  rw [List.take_append_drop]
/-- the times up to i: no two are one -/
def Apart (l : List HistV) (i : Nat) : Prop := (l.take i).Pairwise (fun x y => x.tm ≠ y.tm)
theorem Apart.snoc {l : List HistV} {i : Nat} {x : HistV} (h : Apart l i) (hx : l[i]? = some x) (hn : ∀ y ∈ l.take i, y.tm ≠ x.tm) : Apart l (i + 1) := by
  unfold Apart at *
  rw [List.take_add_one, hx]
  exact List.pairwise_append.2 ⟨h, List.pairwise_singleton _ _, fun y hy z hz => by simp at hz; subst hz; exact hn y hy⟩
end Go.Proofs.Ytdgnhimiamchmaa
