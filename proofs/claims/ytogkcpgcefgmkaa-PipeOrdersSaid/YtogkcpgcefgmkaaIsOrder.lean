/- The reference's isOrder: true just where ordOk holds. Condition: at most 1000 bytes. -/
import Derived.Test.YtogkcpgcefgmkaaAt
namespace Go.Proofs.Ytogkcpgcefgmkaa.PO
open Go.RowKit

theorem ret_bool {a b : Bool} (h : a = b) : Ending.returned (.bool a) = .returned (.bool b) := by rw [h]
theorem data_get (s : ByteArray) (i : Nat) (h : i < s.size) : s.data.toList[i]? = some s[i] := by
  rw [List.getElem?_eq_getElem (by simpa using h)]; simp; rfl

def NoEq (s : ByteArray) (k j : Nat) : Prop := ∀ t, t < j → s.data.toList[t]? ≠ s.data.toList[k]?

theorem NoEq.succ {s : ByteArray} {k j : Nat} (h : NoEq s k j) (hk : k < s.size) (hj : j < k) (he : ¬ s[j] = s[k]) : NoEq s k (j + 1) := by
  intro t ht
  by_cases e : t = j
  · subst e
    rw [data_get s t (by omega), data_get s k hk]
    exact fun e => he (Option.some.inj e)
  · exact h t (by omega)
theorem NoEq.once {s : ByteArray} {k : Nat} (h : NoEq s k k) (hk : k < s.size) : (s.data.toList.take k).contains s[k] = false := by
  rw [Bool.eq_false_iff]
  intro hc
  rw [List.contains_iff_mem] at hc
  obtain ⟨t, ht, e⟩ := List.mem_iff_getElem.1 hc
  rw [List.length_take] at ht
  refine h t (by omega) ?_
  rw [data_get s k hk, ← e, List.getElem_take, List.getElem?_eq_getElem]
theorem twice_of {s : ByteArray} {k j : Nat} (hk : k < s.size) (hj : j < k) (he : s[j] = s[k]) : (s.data.toList.take k).contains s[k] = true := by
  rw [List.contains_iff_mem, ← he]
  have : (s.data.toList.take k)[j]? = some s[j] := by rw [List.getElem?_take_of_lt hj, data_get s j (by omega)]
  exact List.mem_of_getElem? this

set_option maxHeartbeats 1000000 in
theorem isOrder_any (s : ByteArray) (w : World) (hs : s.size ≤ 1000) :
    Calls Try.prog 13 #[.string s] w fun e w' => e = .returned (.bool (ordOk s.data.toList)) ∧ Below w.heap.size w w' := by
  go_enter Try.func13, Try.ntmps13
  go_wp2
  go_loopw [3] (fun i wr => ∃ k : Nat, k ≤ s.size ∧ i = .int .i64 k ∧ Hid (okTo s.data.toList k = true) ∧ Below w.heap.size w wr) (fun i _ => s.size - (intOf i).toNat)
  case atStart => exact ⟨0, Nat.zero_le _, rfl, rfl, Below.refl _ _⟩
  case round =>
    obtain ⟨k, hk, rfl, ho, hb⟩ := hrel
    by_cases hlt : k < s.size
    · have hg := data_get s k hlt
      have Hg : Hid (s.data.toList[k]? = some s[k]) := hg
      clear hg
      by_cases hin : Lib.indexByte lets s[k] < 0
      · go_wp2_with (go_at_call 21; refine (at_any _ _).mono ?_; rintro e w' ⟨rfl, rfl⟩)
        go_ret
        exact ⟨ret_bool (ordOk_false (i := k + 1) (by simp; omega) ((okTo_step ho.out Hg.out).trans (fresh_not_letter hin))).symm, hb⟩
      · go_wp2_with (go_at_call 21; refine (at_any _ _).mono ?_; rintro e w' ⟨rfl, rfl⟩)
        obtain ⟨wo, rfl⟩ : ∃ wo : World, wo = wr := ⟨_, rfl⟩
        go_loopw [4] (fun i wr => ∃ j : Nat, j ≤ k ∧ i = .int .i64 j ∧ Hid (NoEq s k j) ∧ Below w.heap.size w wr) (fun i _ => k - (intOf i).toNat)
        case atStart => exact ⟨0, Nat.zero_le _, rfl, (fun t ht => absurd ht (by omega)), hb⟩
        case round =>
          obtain ⟨j, hj, rfl, hno, hbj⟩ := hrel
          clear hb
          by_cases hjk : j < k
          · have hjs : (j : Int) < (s.size : Int) := by omega
            have hks : (k : Int) < (s.size : Int) := by omega
            by_cases he : s[j] = s[k]
            · have he1 : (((s[j].toNat : Nat) : Int) == ((s[k].toNat : Nat) : Int)) = true := by rw [he]; simp
              have HE : Hid (s[j] = s[k]) := he
              clear he
              go_wp2
              go_quiet (fail)
              go_wp2
              go_ret
              exact ⟨ret_bool (ordOk_false (i := k + 1) (by simp; omega) ((okTo_step ho.out Hg.out).trans (fresh_twice (twice_of hlt hjk HE.out)))).symm, below_drewN hbj _⟩
            · have he1 : (((s[j].toNat : Nat) : Int) == ((s[k].toNat : Nat) : Int)) = false := beq_eq_false_iff_ne.2 fun e => he (UInt8.toNat_inj.1 (by omega))
              have HE : Hid (¬ s[j] = s[k]) := he
              clear he
              go_wp2
              go_quiet (fail)
              go_wp2
              go_roundw
              case rel => exact ⟨j + 1, by omega, by go_num, hno.out.succ hlt hjk HE.out, below_drewN hbj _⟩
              case measure => simp [intOf]; omega
          · obtain rfl : j = k := by omega
            go_wp2
            go_roundw
            case rel => exact ⟨j + 1, by omega, by go_num, (okTo_step ho.out Hg.out).trans (fresh_yes (by omega) (hno.out.once hlt)), hbj⟩
            case measure => simp [intOf]; omega
    · obtain rfl : k = s.size := by omega
      go_wp2
      go_ret
      exact ⟨ret_bool (by have := ho.out; rw [show s.size = s.data.toList.length by simp] at this; exact this.symm), hb⟩
#print axioms isOrder_any
end Go.Proofs.Ytogkcpgcefgmkaa.PO
