/- The reference's Order: what it answers. -/
import Derived.Test.YtogkcpgcefgmkaaOrder
namespace Go.Proofs.Ytogkcpgcefgmkaa.PO
open Go.RowKit

def pTo (l : List UInt8) (k : Nat) : Bool := (l.take k).contains 112
def gTo (l : List UInt8) (k : Nat) : Bool := !bad (l.take k)

theorem behind_yes : ∀ {l : List UInt8} {b : UInt8}, l.contains 112 = true → behind (l ++ [b]) = behind l ++ [b]
  | [], _, h => absurd h (by simp)
  | a :: l, b, h => by
    unfold behind
    rw [List.cons_append, List.dropWhile_cons, List.dropWhile_cons]
    by_cases e : (a != 112) = true
    · rw [if_pos e, if_pos e]
      have h' : l.contains 112 = true := by
        rw [List.contains_cons] at h
        have : (112 == a) = false := by rw [bne_iff_ne] at e; exact beq_eq_false_iff_ne.2 (Ne.symm e)
        rw [this, Bool.false_or] at h
        exact h
      exact behind_yes (l := l) (b := b) h'
    · rw [if_neg e, if_neg e]; rfl
theorem behind_not : ∀ {l : List UInt8} {b : UInt8}, l.contains 112 = false → behind (l ++ [b]) = []
  | [], b, _ => by
    unfold behind
    rw [List.nil_append, List.dropWhile_cons]
    split <;> rfl
  | a :: l, b, h => by
    rw [List.contains_cons, Bool.or_eq_false_iff] at h
    obtain ⟨h1, h2⟩ := h
    have e : (a != 112) = true := by rw [bne_iff_ne]; rw [beq_eq_false_iff_ne] at h1; exact Ne.symm h1
    unfold behind
    rw [List.cons_append, List.dropWhile_cons, if_pos e]
    exact behind_not (l := l) (b := b) h2
theorem behind_free : ∀ {l : List UInt8}, l.contains 112 = false → behind l = []
  | [], _ => rfl
  | a :: l, h => by
    rw [List.contains_cons, Bool.or_eq_false_iff] at h
    obtain ⟨h1, h2⟩ := h
    have e : (a != 112) = true := by rw [bne_iff_ne]; rw [beq_eq_false_iff_ne] at h1; exact Ne.symm h1
    unfold behind
    rw [List.dropWhile_cons, if_pos e]
    exact behind_free (l := l) h2
theorem p_step {l : List UInt8} {k : Nat} {b : UInt8} (h : l[k]? = some b) : pTo l (k + 1) = (pTo l k || b == 112) := by
  obtain ⟨hk, rfl⟩ := List.getElem?_eq_some_iff.1 h
  unfold pTo
  rw [List.take_succ_eq_append_getElem hk, Bool.eq_iff_iff]
  simp only [List.contains_iff_mem, List.mem_append, List.mem_singleton, Bool.or_eq_true, beq_iff_eq]
  exact or_congr_right eq_comm
theorem g_step {l : List UInt8} {k : Nat} {b : UInt8} (h : l[k]? = some b) : gTo l (k + 1) = (gTo l k && !(pTo l k && (b == 99 || b == 103))) := by
  obtain ⟨hk, rfl⟩ := List.getElem?_eq_some_iff.1 h
  unfold gTo pTo
  rw [List.take_succ_eq_append_getElem hk]
  unfold bad
  cases hc : (l.take k).contains 112
  · rw [behind_not hc, behind_free hc]; rfl
  · rw [behind_yes hc, List.any_append]
    simp
theorem gd_of {l : List UInt8} (h : ordOk l = true) : gTo l l.length = gd l := by
  unfold gTo gd
  rw [List.take_length, h]; rfl

theorem four (b : UInt8) : (b = 112 ∧ (((b.toNat : Nat) : Int) == 112) = true ∧ (((b.toNat : Nat) : Int) == 99) = false ∧ (((b.toNat : Nat) : Int) == 103) = false) ∨
    (b = 99 ∧ (((b.toNat : Nat) : Int) == 112) = false ∧ (((b.toNat : Nat) : Int) == 99) = true ∧ (((b.toNat : Nat) : Int) == 103) = false) ∨
    (b = 103 ∧ (((b.toNat : Nat) : Int) == 112) = false ∧ (((b.toNat : Nat) : Int) == 99) = false ∧ (((b.toNat : Nat) : Int) == 103) = true) ∨
    ((b ≠ 112 ∧ b ≠ 99 ∧ b ≠ 103) ∧ (((b.toNat : Nat) : Int) == 112) = false ∧ (((b.toNat : Nat) : Int) == 99) = false ∧ (((b.toNat : Nat) : Int) == 103) = false) := by
  by_cases h0 : b = 112
  · subst h0; exact .inl (by decide)
  by_cases h1 : b = 99
  · subst h1; exact .inr (.inl (by decide))
  by_cases h2 : b = 103
  · subst h2; exact .inr (.inr (.inl (by decide)))
  have key : ∀ c : UInt8, b ≠ c → (((b.toNat : Nat) : Int) == ((c.toNat : Nat) : Int)) = false := fun c h => beq_eq_false_iff_ne.2 fun e => h (UInt8.toNat_inj.1 (by omega))
  exact .inr (.inr (.inr ⟨⟨h0, h1, h2⟩, key 112 h0, key 99 h1, key 103 h2⟩))

def PG (l : List UInt8) (k : Nat) (p g : Bool) : Prop := pTo l k = p ∧ gTo l k = g
theorem PG.next {l : List UInt8} {k : Nat} {b : UInt8} {p g p' g' : Bool} (h : PG l k p g) (hb : l[k]? = some b) (hp : (p || b == 112) = p') (hg : (g && !(p && (b == 99 || b == 103))) = g') : PG l (k + 1) p' g' :=
  ⟨by rw [p_step hb, h.1, hp], by rw [g_step hb, h.2, h.1, hg]⟩

set_option maxHeartbeats 4000000 in
theorem refOrder6 (s : ByteArray) (w : World) (hs : s.size ≤ 1000) : Calls Try.prog 6 #[.string s] w (OrdPost s.data.toList w) := by
  have hc := isOrder_any s w hs
  cases ho : ordOk s.data.toList with
  | false =>
    rw [ho] at hc
    have HC := Lib.hid hc
    have HO := Lib.hid ho
    clear hc ho
    go_enter Try.func6, Try.ntmps6
    go_wp2_with (go_at_call 13; refine HC.out.mono ?_; rintro e w' ⟨rfl, hb⟩)
    go_ret3
    have hno := ord_no HO.out
    exact ⟨ret_ord hno.1.symm hno.2.1.symm hno.2.2.symm, hb⟩
  | true =>
    rw [ho] at hc
    have HC := Lib.hid hc
    have HO := Lib.hid ho
    clear hc ho
    go_enter Try.func6, Try.ntmps6
    go_wp2_with (go_at_call 13; refine HC.out.mono ?_; rintro e w1 ⟨rfl, hb⟩)
    go_loopw [5, 6, 7] (fun g p i wr => ∃ (k : Nat) (pb gb : Bool), k ≤ s.size ∧ i = .int .i64 k ∧ p = .bool pb ∧ g = .bool gb ∧ Hid (PG s.data.toList k pb gb) ∧ Below w.heap.size w wr) (fun _ _ i _ => s.size - (intOf i).toNat)
    case atStart => exact ⟨0, false, true, Nat.zero_le _, rfl, rfl, rfl, ⟨rfl, rfl⟩, hb⟩
    case round =>
      obtain ⟨k, pb, gb, hk, rfl, rfl, rfl, hpg, hbr⟩ := hrel
      clear hb
      by_cases hlt : k < s.size
      · have Hg : Hid (s.data.toList[k]? = some s[k]) := data_get s k hlt
        have hks : (k : Int) < (s.size : Int) := by omega
        rcases four s[k] with ⟨e0, e1, e2, e3⟩ | ⟨e0, e1, e2, e3⟩ | ⟨e0, e1, e2, e3⟩ | ⟨e0, e1, e2, e3⟩
        all_goals
          have E0 := Lib.hid e0
          clear e0
          cases pb <;> cases gb
          all_goals
            go_wp2
            go_roundw
            case rel => exact ⟨k + 1, _, _, by omega, by go_num, rfl, rfl, hpg.out.next Hg.out (by have := E0.out; simp [this]) (by have := E0.out; simp [this]), hbr⟩
            case measure => simp [intOf]; omega
      · obtain rfl : k = s.size := by omega
        have hgg : gb = gd s.data.toList := by
          have := hpg.out.2
          rw [show s.size = s.data.toList.length by simp, gd_of HO.out] at this
          exact this.symm
        have hok := HO.out
        have HG := Lib.hid hgg
        clear hgg hok
        go_wp2
        go_ret3
        have hok := HO.out
        exact ⟨ret_ord HG.out (by rw [Bool.eq_iff_iff]; simp [wh, hok]; omega) (by simp [er, hok]), hbr⟩
#print axioms refOrder6
end Go.Proofs.Ytogkcpgcefgmkaa.PO
