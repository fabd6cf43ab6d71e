/-
  Plain definitions: what an order is (on lists of bytes), which are good and whole, and the tree of all good whole orders; no program is spoken of here.
-/
import Derived.Below
import Derived.Lib.Bytealg
import Derived.Lib.IndexAny
import Derived.Lib.IndexLaws
namespace Go.Proofs.Ytogkcpgcefgmkaa.PO
open Go.RowKit

def lets : List UInt8 := [114, 99, 103, 112, 116, 101]
def sorts : List UInt8 := [99, 101, 103, 112, 114, 116]
/-- b is a letter that does not stand in l. -/
def fresh (l : List UInt8) (b : UInt8) : Bool := lets.contains b && !l.contains b
/-- The first i bytes are an order. -/
def okTo (l : List UInt8) : Nat → Bool
  | 0 => true
  | i + 1 => okTo l i && fresh (l.take i) (l.getD i 0)
def ordOk (l : List UInt8) : Bool := okTo l l.length
/-- What stands behind the first p. -/
def behind (l : List UInt8) : List UInt8 := (l.dropWhile (· != 112)).drop 1
def bad (l : List UInt8) : Bool := (behind l).any (fun c => c == 99 || c == 103)
def gd (l : List UInt8) : Bool := ordOk l && !bad l
def wh (l : List UInt8) : Bool := ordOk l && l.length == 6
def er (l : List UInt8) : Int := if ordOk l then 0 else 1
/-- All good whole orders that begin with s, the letters taken in the order of ls. -/
def tree (ls : List UInt8) : Nat → List UInt8 → List (List UInt8)
  | 0, _ => []
  | n + 1, s => if gd s = false then [] else if wh s then [s] else ls.flatMap fun c => if s.contains c then [] else tree ls n (s ++ [c])

theorem okTo_step {l : List UInt8} {i : Nat} {b : UInt8} (h : okTo l i = true) (hb : l[i]? = some b) : okTo l (i + 1) = fresh (l.take i) b := by
  simp [okTo, h, hb]
theorem okTo_false {l : List UInt8} {i : Nat} (h : okTo l i = false) : ∀ n, okTo l (i + n) = false
  | 0 => h
  | n + 1 => by
    show (okTo l (i + n) && _) = false
    rw [okTo_false h n]; rfl
theorem ordOk_false {l : List UInt8} {i : Nat} (hi : i ≤ l.length) (h : okTo l i = false) : ordOk l = false := by
  have := okTo_false h (l.length - i)
  rwa [Nat.add_sub_cancel' hi] at this
theorem okTo_append (l r : List UInt8) : ∀ i, i ≤ l.length → okTo (l ++ r) i = okTo l i
  | 0, _ => rfl
  | i + 1, h => by
    show (okTo (l ++ r) i && fresh ((l ++ r).take i) ((l ++ r).getD i 0)) = (okTo l i && fresh (l.take i) (l.getD i 0))
    rw [okTo_append l r i (by omega), List.take_append_of_le_length (by omega)]
    simp only [List.getD_eq_getElem?_getD]
    rw [List.getElem?_append_left (by omega)]
/-- One letter more. -/
theorem ordOk_snoc (l : List UInt8) (c : UInt8) : ordOk (l ++ [c]) = (ordOk l && fresh l c) := by
  unfold ordOk
  rw [List.length_append, List.length_singleton]
  show (okTo (l ++ [c]) l.length && fresh ((l ++ [c]).take l.length) ((l ++ [c]).getD l.length 0)) = _
  rw [okTo_append l [c] l.length (Nat.le_refl _)]
  simp
theorem fresh_not_letter {l : List UInt8} {b : UInt8} (h : Lib.indexByte lets b < 0) : fresh l b = false := by
  unfold fresh
  rw [Lib.contains_iff_indexByte, decide_eq_false (by omega)]; rfl
theorem fresh_twice {l : List UInt8} {b : UInt8} (h : l.contains b = true) : fresh l b = false := by
  unfold fresh
  rw [h]; simp
theorem fresh_yes {l : List UInt8} {b : UInt8} (h : 0 ≤ Lib.indexByte lets b) (h2 : l.contains b = false) : fresh l b = true := by
  unfold fresh
  rw [Lib.contains_iff_indexByte, decide_eq_true h, h2]; rfl

/-! ### an order is made of letters, has at most six, and is known by its parts -/
theorem mem_of_okTo {l : List UInt8} : ∀ i, i ≤ l.length → okTo l i = true → (l.take i).Nodup ∧ ∀ x ∈ l.take i, x ∈ lets
  | 0, _, _ => by simp
  | i + 1, hi, h => by
    have h' : (okTo l i && fresh (l.take i) (l.getD i 0)) = true := h
    rw [Bool.and_eq_true] at h'
    obtain ⟨h1, h2⟩ := h'
    obtain ⟨hn, hm⟩ := mem_of_okTo i (by omega) h1
    have hlt : i < l.length := by omega
    have hg : l.getD i 0 = l[i] := by simp [hlt]
    rw [hg] at h2
    unfold fresh at h2
    rw [Bool.and_eq_true, Bool.not_eq_true'] at h2
    obtain ⟨hl, hc⟩ := h2
    rw [List.take_succ_eq_append_getElem hlt]
    refine ⟨?_, ?_⟩
    · rw [List.nodup_append]
      refine ⟨hn, by simp, ?_⟩
      intro a ha b hb e
      simp only [List.mem_singleton] at hb
      have e2 : a = l[i] := e.trans hb
      have : (l.take i).contains l[i] = true := by rw [← e2]; simpa using ha
      rw [this] at hc
      exact absurd hc (by simp)
    · intro x hx
      rw [List.mem_append] at hx
      rcases hx with hx | hx
      · exact hm x hx
      · simp only [List.mem_singleton] at hx
        subst hx
        simpa using hl
theorem ordOk_mem {l : List UInt8} (h : ordOk l = true) : l.Nodup ∧ ∀ x ∈ l, x ∈ lets := by
  have := mem_of_okTo l.length (Nat.le_refl _) h
  rwa [List.take_length] at this
theorem short_of_mem : ∀ (ls l : List UInt8), l.Nodup → (∀ x ∈ l, x ∈ ls) → l.length ≤ ls.length
  | [], l, _, h => by
    cases l with
    | nil => exact Nat.le_refl _
    | cons a r => exact absurd (h a List.mem_cons_self) (by simp)
  | a :: ls, l, hn, h => by
    have ih := short_of_mem ls (l.erase a) (hn.erase a) (fun x hx => by
      rw [hn.mem_erase_iff] at hx
      rcases List.mem_cons.1 (h x hx.2) with e | e
      · exact absurd e hx.1
      · exact e)
    have := List.le_length_erase (l := l) (a := a)
    rw [List.length_cons]
    omega
theorem ordOk_length {l : List UInt8} (h : ordOk l = true) : l.length ≤ 6 := by
  obtain ⟨hn, hm⟩ := ordOk_mem h
  exact short_of_mem lets l hn hm
theorem lets_ascii : ∀ x ∈ lets, x.toNat < 128 := by decide

/-! ### what stands behind the first p; c and g behind it -/
theorem behind_none : ∀ {l : List UInt8}, Lib.indexByte l 112 < 0 → behind l = []
  | [], _ => rfl
  | b :: l, h => by
    unfold Lib.indexByte at h
    by_cases e : (b == 112) = true
    · rw [if_pos e] at h; omega
    · rw [if_neg e] at h
      have hn : Lib.indexByte l 112 < 0 := by
        have := Lib.indexByte_ge l 112
        split at h
        · rename_i h2; rw [beq_iff_eq] at h2; omega
        · omega
      have ih := behind_none hn
      unfold behind at ih ⊢
      rw [List.dropWhile_cons, if_pos (by simpa using e)]
      exact ih
theorem behind_some : ∀ {l : List UInt8} {k : Nat}, Lib.indexByte l 112 = (k : Int) → behind l = l.drop (k + 1)
  | [], k, h => by
    have h' : (-1 : Int) = (k : Int) := h
    omega
  | b :: l, k, h => by
    unfold Lib.indexByte at h
    by_cases e : (b == 112) = true
    · rw [if_pos e] at h
      obtain rfl : k = 0 := by omega
      unfold behind
      rw [List.dropWhile_cons, if_neg (by simpa using e)]
    · rw [if_neg e] at h
      have := Lib.indexByte_ge l 112
      by_cases e2 : (Lib.indexByte l 112 == -1) = true
      · rw [if_pos e2] at h; omega
      · rw [if_neg e2] at h
        obtain ⟨j, rfl⟩ : ∃ j, k = j + 1 := ⟨k - 1, by have : ¬ Lib.indexByte l 112 = -1 := fun x => e2 (by rw [x]; rfl); omega⟩
        have ih := behind_some (l := l) (k := j) (by omega)
        unfold behind at ih ⊢
        rw [List.dropWhile_cons, if_pos (by simpa using e)]
        exact ih
theorem cg_contains (b : UInt8) : ([99, 103] : List UInt8).contains b = (b == 99 || b == 103) := by rw [Bool.eq_iff_iff]; simp
theorem any_cg : ∀ l : List UInt8, decide (0 ≤ Lib.indexAny l [99, 103]) = l.any (fun c => c == 99 || c == 103)
  | [] => rfl
  | b :: l => by
    have ih := any_cg l
    by_cases hb : ([99, 103] : List UInt8).contains b = true
    · have h0 : Lib.indexAny (b :: l) [99, 103] = (0 : Nat) := Lib.indexAny_hit (i := 0) (x := b) (fun j _ hj _ => absurd hj (by omega)) rfl hb
      rw [h0]
      have : (b == 99 || b == 103) = true := by rw [← cg_contains]; exact hb
      rw [List.any_cons, this]; rfl
    · have hb' : (b == 99 || b == 103) = false := by rw [Bool.not_eq_true] at hb; rw [← cg_contains]; exact hb
      rw [List.any_cons, hb', Bool.false_or, ← ih]
      have hs : (0 ≤ Lib.indexAny (b :: l) [99, 103]) ↔ (0 ≤ Lib.indexAny l [99, 103]) := by
        have hge := Lib.indexAny_ge [99, 103] l
        rw [Bool.not_eq_true] at hb
        have e : Lib.indexAny (b :: l) [99, 103] = if ([99, 103] : List UInt8).contains b then 0 else if Lib.indexAny l [99, 103] == -1 then -1 else Lib.indexAny l [99, 103] + 1 := rfl
        rw [e, hb]
        simp only [Bool.false_eq_true, if_false]
        split
        · rename_i h2; rw [beq_iff_eq] at h2; omega
        · rename_i h2; rw [beq_iff_eq] at h2; omega
      exact decide_eq_decide.2 hs
theorem behind_mem {l : List UInt8} : ∀ x ∈ behind l, x ∈ l := fun x h => by
  unfold behind at h
  exact (List.dropWhile_sublist _).subset (List.mem_of_mem_drop h)
theorem behind_length (l : List UInt8) : (behind l).length ≤ l.length := by
  unfold behind
  rw [List.length_drop]
  have := (List.dropWhile_sublist (fun x : UInt8 => x != 112) (l := l)).length_le
  omega
#print axioms ordOk_length
#print axioms any_cg
end Go.Proofs.Ytogkcpgcefgmkaa.PO
