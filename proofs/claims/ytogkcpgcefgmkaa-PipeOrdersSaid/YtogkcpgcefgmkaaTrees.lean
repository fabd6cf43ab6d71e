/- The two trees of orders, reckoned by the kernel: how many there are; the sorted one is ascending; each is good and whole; and sorting the one gives the other. -/
import Derived.Test.YtogkcpgcefgmkaaPure
import Derived.Sort.KeysCollected
namespace Go.Proofs.Ytogkcpgcefgmkaa.PO

set_option maxRecDepth 100000 in
theorem count_lets : (tree lets 7 []).length = 240 := by decide +kernel
def asc : List (List UInt8) → Bool
  | a :: b :: r => decide (a < b) && asc (b :: r)
  | _ => true
set_option maxRecDepth 100000 in
theorem asc_sorts : asc (tree sorts 7 []) = true := by decide +kernel
set_option maxRecDepth 100000 in
theorem all_sorts : (tree sorts 7 []).all (fun s => gd s && wh s) = true := by decide +kernel

theorem perm_ls : lets.Perm sorts := by decide
theorem perm_flat {α β : Type} {f g : α → List β} (h : ∀ a, (f a).Perm (g a)) : ∀ l : List α, (l.flatMap f).Perm (l.flatMap g)
  | [] => List.Perm.refl _
  | a :: l => by
    rw [List.flatMap_cons, List.flatMap_cons]
    exact (h a).append (perm_flat h l)
theorem perm_trees (n : Nat) : ∀ l : List UInt8, (tree lets n l).Perm (tree sorts n l) := by
  induction n with
  | zero => exact fun l => List.Perm.refl _
  | succ n ih =>
    intro l
    unfold tree
    split
    · exact List.Perm.refl _
    · split
      · exact List.Perm.refl _
      · refine (perm_ls.flatMap_right _).trans (perm_flat (fun c => ?_) _)
        split
        · exact List.Perm.refl _
        · exact ih _
#print axioms perm_trees
theorem asc_pair : ∀ {l : List (List UInt8)}, asc l = true → l.Pairwise (· < ·)
  | [], _ => List.Pairwise.nil
  | [a], _ => by simp
  | a :: b :: r, h => by
    have h' : (decide (a < b) && asc (b :: r)) = true := h
    rw [Bool.and_eq_true, decide_eq_true_eq] at h'
    have ih := asc_pair h'.2
    refine List.Pairwise.cons ?_ ih
    intro x hx
    rcases List.mem_cons.1 hx with rfl | hx
    · exact h'.1
    · exact List.lt_trans h'.1 ((List.pairwise_cons.1 ih).1 x hx)
theorem sorted_lets : ((tree lets 7 []).mergeSort fun x y => decide (x ≤ y)) = tree sorts 7 [] := by
  rw [show ((tree lets 7 []).mergeSort fun x y => decide (x ≤ y)) = (tree sorts 7 []).mergeSort fun x y => decide (x ≤ y) from mergeSort_of_perm (perm_trees 7 [])]
  refine List.mergeSort_of_pairwise ?_
  refine (asc_pair asc_sorts).imp ?_
  intro a b h
  exact decide_eq_true (List.le_of_lt h)
#print axioms sorted_lets
end Go.Proofs.Ytogkcpgcefgmkaa.PO
