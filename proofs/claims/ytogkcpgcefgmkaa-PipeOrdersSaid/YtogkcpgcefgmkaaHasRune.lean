/- hasRune, at a text of ASCII letters. -/
import Derived.Test.YtogkcpgcefgmkaaOrder
import Derived.Deep.LoopGhost
namespace Go.Proofs.Ytogkcpgcefgmkaa.PO
open Go.RowKit

def Miss (l : List UInt8) (c : UInt8) (i : Nat) : Prop := ∀ j, j < i → l[j]? ≠ some c
theorem Miss.succ {l : List UInt8} {c b : UInt8} {i : Nat} (h : Miss l c i) (hb : l[i]? = some b) (hne : ¬ b = c) : Miss l c (i + 1) := by
  intro j hj
  by_cases e : j = i
  · subst e; rw [hb]; exact fun e => hne (Option.some.inj e)
  · exact h j (by omega)
theorem Miss.all {l : List UInt8} {c : UInt8} (h : Miss l c l.length) : l.contains c = false := by
  rw [Bool.eq_false_iff]
  intro hc
  rw [List.contains_iff_mem] at hc
  obtain ⟨t, ht, e⟩ := List.mem_iff_getElem.1 hc
  exact h t ht (by rw [List.getElem?_eq_getElem ht, e])

def HasPost (l : List UInt8) (c : UInt8) (w : World) (e : Ending) (w' : World) : Prop := e = .returned (.bool (l.contains c)) ∧ Below w.heap.size w w'

set_option maxHeartbeats 2000000 in
theorem hasRune15 (s : ByteArray) (c : UInt8) (w : World) (ha : ∀ (j : Nat) b, s.data.toList[j]? = some b → b.toNat < 128) :
    Calls Try.prog 15 #[.string s, .int .i32 (c.toNat : Int)] w (HasPost s.data.toList c w) := by
  have HA := Lib.hid ha
  clear ha
  go_enter Try.func15, Try.ntmps15
  go_wp2
  go_loopg [6] s.size (fun g _ wx => ∃ i : Nat, i + g = s.size ∧ wx = w.iter s i ∧ Hid (Miss s.data.toList c i))
  case atStart => exact ⟨0, by omega, rfl, fun j hj => absurd hj (by omega)⟩
  case round =>
    obtain ⟨i, hig, rfl, hno⟩ := hrel
    cases gk with
    | zero =>
      obtain rfl : i = s.size := by omega
      have hnx := run_next_end (P := Try.prog) w s s.size
      go_wp2
      go_ret
      exact ⟨ret_bool (Miss.all (by have := hno.out; rwa [show s.size = s.data.toList.length by simp] at this)).symm, (Below.refl _ _).alloc (Nat.le_refl _) _⟩
    | succ g =>
      have hi : i < s.size := by omega
      have hx128 : (s[i]'hi).toNat < 128 := HA.out i _ (data_get s i hi)
      have hnx := fun ty => run_next_ascii (P := Try.prog) w s i ty hi hx128
      have Hx : Hid (s.data.toList[i]? = some s[i]) := data_get s i hi
      by_cases he : s[i] = c
      · have he1 : (((s[i].toNat : Nat) : Int) == ((c.toNat : Nat) : Int)) = true := by rw [he]; simp
        have HE := Lib.hid he
        clear he
        go_wp2
        go_ret
        exact ⟨ret_bool (by have := Hx.out; rw [HE.out] at this; exact (List.contains_iff_mem.2 (List.mem_of_getElem? this)).symm), (Below.refl _ _).alloc (Nat.le_refl _) _⟩
      · have he1 : (((s[i].toNat : Nat) : Int) == ((c.toNat : Nat) : Int)) = false := beq_eq_false_iff_ne.2 fun e => he (UInt8.toNat_inj.1 (by omega))
        have HE := Lib.hid he
        clear he
        go_wp2
        go_roundg g
        case measure => omega
        case rel => exact ⟨i + 1, by omega, rfl, hno.out.succ Hx.out HE.out⟩
#print axioms hasRune15
end Go.Proofs.Ytogkcpgcefgmkaa.PO
