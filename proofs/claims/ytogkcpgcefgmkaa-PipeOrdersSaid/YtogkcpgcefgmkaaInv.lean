/- What the closure of pipe.Orders keeps: the cell of 'out' holds a slice of the call's own with what has been gathered, the cell of 'grow' holds the closure; and what each step does to that. -/
import Derived.Test.YtogkcpgcefgmkaaHasRune
import Derived.OneCell
import Derived.Lib.OthersKept
import Derived.Sort.EncStr
namespace Go.Proofs.Ytogkcpgcefgmkaa.PO
open Go.RowKit Go.Lib

def growV (B : Nat) : Value := .func (.func 14) #[] #[.pointer (some ⟨B, 0, none⟩), .pointer (some ⟨B + 1, 0, none⟩)]

def Inv (B : Nat) (acc : List (List UInt8)) (w : World) : Prop :=
  B + 2 ≤ w.heap.size ∧ w.heap[B + 1]? = some (.cells #[growV B] 37 (0, 0)) ∧
    ∃ v, w.heap[B]? = some (.cells #[v] 25 (0, 0)) ∧ w.ownsRow (B + 2) 9 1 v acc.length (acc.map encStr)

/-- Of w's blocks only B and rows of strings may have turned. -/
def Only (B : Nat) (w w' : World) : Prop := Below B w w' ∧ OthersKept 9 (some B) w w'

theorem Only.refl (B : Nat) (w : World) : Only B w w := ⟨Below.refl _ _, OthersKept.refl _ _ _⟩
theorem Only.trans {B : Nat} {a b c : World} (h : Only B a b) (k : Only B b c) : Only B a c := ⟨h.1.trans k.1, h.2.trans k.2⟩
theorem Only.of_below {B : Nat} {w w' : World} (hB : B ≤ w.heap.size) (h : Below w.heap.size w w') : Only B w w' :=
  ⟨h.mono hB, fun _ _ hk _ _ => (h.block _ (lt_of_block hk)).trans hk⟩
theorem Only.iter {B k : Nat} {w w' : World} {s : ByteArray} {p : Nat} (h : Only B w w') (hk : w.heap[k]? = some (.stringIter s p)) (hB : k ≠ B) : w'.heap[k]? = some (.stringIter s p) :=
  h.2 k _ hk (fun e => hB (Option.some.inj e)) (by intro c fz e; cases e)

theorem Inv.below {B : Nat} {acc : List (List UInt8)} {w w' : World} (h : Inv B acc w) (hb : Below w.heap.size w w') : Inv B acc w' := by
  obtain ⟨h1, h2, v, h3, h4⟩ := h
  refine ⟨Nat.le_trans h1 hb.size, (hb.block _ (by omega)).trans h2, v, (hb.block _ (by omega)).trans h3, h4.1, ?_⟩
  rcases h4.2 with hn | ⟨g, cap, cur, rfl, hg, hh, rest⟩
  · exact .inl hn
  · exact .inr ⟨g, cap, cur, rfl, hg, (hb.block g (lt_of_block hh)).trans hh, rest⟩

theorem Inv.iterAt {B k : Nat} {acc : List (List UInt8)} {w : World} {s : ByteArray} {p : Nat} (h : Inv B acc w) (hk : w.heap[k]? = some (.stringIter s p)) (p' : Nat) : Inv B acc (w.iterAt k s p') := by
  obtain ⟨h1, h2, v, h3, h4⟩ := h
  have e1 : B ≠ k := fun e => by rw [← e, h3] at hk; cases hk
  have e2 : B + 1 ≠ k := fun e => by rw [← e, h2] at hk; cases hk
  refine ⟨by rw [iterAt_size]; exact h1, (iterAt_other _ _ _ _ _ e2).trans h2, v, (iterAt_other _ _ _ _ _ e1).trans h3, h4.1, ?_⟩
  rcases h4.2 with hn | ⟨g, cap, cur, rfl, hg, hh, rest⟩
  · exact .inl hn
  · have e3 : g ≠ k := fun e => by rw [← e, hh] at hk; cases hk
    exact .inr ⟨g, cap, cur, rfl, hg, (iterAt_other _ _ _ _ _ e3).trans hh, rest⟩

/-- One more is gathered: behind append's law and the store. -/
theorem Inv.push {B : Nat} {acc : List (List UInt8)} {w w1 : World} {v v' : Value} {l : List UInt8} {o : Obj} (h1 : B + 2 ≤ w.heap.size) (h2 : w.heap[B + 1]? = some (.cells #[growV B] 37 (0, 0)))
    (h3 : w.heap[B]? = some (.cells #[v] 25 (0, 0))) (h4 : w.ownsRow (B + 2) 9 1 v acc.length (acc.map encStr))
    (hown : w1.ownsRow (B + 2) 9 1 v' (acc.length + 1) (acc.map encStr ++ [encStr l])) (hg : (w.alloc o).grownBy w1 v.ownBlock) :
    w1.heap[B]? = some (.cells #[v] 25 (0, 0)) ∧ Inv B (acc ++ [l]) (w1.setCell ⟨B, 0, none⟩ v') ∧ Only B w (w1.setCell ⟨B, 0, none⟩ v') := by
  have hne : ∀ j, j < B + 2 → some j ≠ v.ownBlock := fun j hj h => by have := h4.lt j h.symm; omega
  have hb1 : w1.heap[B]? = some (.cells #[v] 25 (0, 0)) := (hg.block B (by simp; omega) (hne B (by omega))).trans ((Below.heap_alloc w o B (by omega)).trans h3)
  have hs1 : w1.heap[B + 1]? = some (.cells #[growV B] 37 (0, 0)) := (hg.block (B + 1) (by simp; omega) (hne (B + 1) (by omega))).trans ((Below.heap_alloc w o (B + 1) (by omega)).trans h2)
  have hsz : w.heap.size + 1 ≤ w1.heap.size := by have := hg.size; simpa using this
  refine ⟨hb1, ⟨by simp [World.setCell]; omega, (Below.heap_setCell _ _ _ _ (by show B + 1 ≠ B; omega)).trans hs1, v', one_setCell hb1, ?_⟩, ?_, ?_⟩
  · have := ownsRow_setCell_below hown (a := ⟨B, 0, none⟩) (by show B < B + 2; omega) v'
    simpa using this
  · exact (((Below.refl B w).alloc (by omega) o).grown hg (by simp; omega) (fun j hj => by have := (h4.lt j hj).1; omega)).setCell (by show B ≤ B; omega) _
  · refine ((((OthersKept.refl 9 (some B) w).alloc o).grown hg ?_).setCell _ rfl _)
    intro g hgv
    rcases (h4.alloc o).2 with ⟨rfl, _⟩ | ⟨g', cap, cur, rfl, _, hh, _⟩
    · simp [Value.ownBlock] at hgv
    · simp [Value.ownBlock] at hgv
      subst hgv
      exact ⟨cur, _, hh⟩
theorem Inv.cells {B : Nat} {acc : List (List UInt8)} {w : World} (h : Inv B acc w) :
    ∃ v, w.cell? ⟨B, 0, none⟩ = some v ∧ w.frozen? ⟨B, 0, none⟩ = false ∧ w.heap[B]? = some (.cells #[v] 25 (0, 0)) ∧ w.ownsRow (B + 2) 9 1 v acc.length (acc.map encStr) := by
  obtain ⟨_, _, v, h3, h4⟩ := h
  exact ⟨v, cell_of_one h3, free_of_one h3, h3, h4⟩
theorem Inv.self {B : Nat} {acc : List (List UInt8)} {w : World} (h : Inv B acc w) : w.cell? ⟨B + 1, 0, none⟩ = some (growV B) := cell_of_one h.2.1
#print axioms Inv.push
end Go.Proofs.Ytogkcpgcefgmkaa.PO
