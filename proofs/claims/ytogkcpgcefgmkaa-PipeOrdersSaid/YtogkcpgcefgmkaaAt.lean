/- The reference's at: the place of a letter among the six, -1 for any other byte. No condition. -/
import Derived.Test.YtogkcpgcefgmkaaProg
import Derived.Test.YtogkcpgcefgmkaaPure
import Derived.WalkKit
import Derived.WalkSpells
import Derived.WalkSmall
import Derived.BigQuiet
import Derived.Deep.QuietTactic
import Derived.Lib.Hide
import Derived.Lib.Bytealg
import Derived.Lib.IndexAny
namespace Go.Proofs.Ytogkcpgcefgmkaa.PO
open Go.RowKit

abbrev letB : ByteArray := ⟨#[114, 99, 103, 112, 116, 101]⟩
theorem seven (b : UInt8) : b = 114 ∨ b = 99 ∨ b = 103 ∨ b = 112 ∨ b = 116 ∨ b = 101 ∨
    (((((letB[0]'(by decide)).toNat : Nat) : Int) == (b.toNat : Int)) = false ∧ ((((letB[1]'(by decide)).toNat : Nat) : Int) == (b.toNat : Int)) = false ∧ ((((letB[2]'(by decide)).toNat : Nat) : Int) == (b.toNat : Int)) = false ∧ ((((letB[3]'(by decide)).toNat : Nat) : Int) == (b.toNat : Int)) = false ∧ ((((letB[4]'(by decide)).toNat : Nat) : Int) == (b.toNat : Int)) = false ∧ ((((letB[5]'(by decide)).toNat : Nat) : Int) == (b.toNat : Int)) = false ∧ Hid (Lib.indexByte lets b = -1)) := by
  by_cases h0 : b = 114
  · exact .inl h0
  by_cases h1 : b = 99
  · exact .inr (.inl h1)
  by_cases h2 : b = 103
  · exact .inr (.inr (.inl h2))
  by_cases h3 : b = 112
  · exact .inr (.inr (.inr (.inl h3)))
  by_cases h4 : b = 116
  · exact .inr (.inr (.inr (.inr (.inl h4))))
  by_cases h5 : b = 101
  · exact .inr (.inr (.inr (.inr (.inr (.inl h5)))))
  have key : ∀ c : UInt8, b ≠ c → ((c.toNat : Int) == (b.toNat : Int)) = false := fun c h => beq_eq_false_iff_ne.2 fun e => h (UInt8.toNat_inj.1 (by omega))
  refine .inr (.inr (.inr (.inr (.inr (.inr ⟨key 114 h0, key 99 h1, key 103 h2, key 112 h3, key 116 h4, key 101 h5, ?_⟩)))))
  have e : ∀ c : UInt8, b ≠ c → (c == b) = false := fun c h => beq_eq_false_iff_ne.2 (Ne.symm h)
  show Lib.indexByte lets b = -1
  simp [lets, Lib.indexByte, e 114 h0, e 99 h1, e 103 h2, e 112 h3, e 116 h4, e 101 h5]

set_option maxHeartbeats 1000000 in
theorem at_any (b : UInt8) (w : World) :
    Calls Try.prog 21 #[.int .u8 (b.toNat : Int)] w fun e w' => e = .returned (.int .i64 (Lib.indexByte lets b)) ∧ w = w' := by
  rcases seven b with rfl | rfl | rfl | rfl | rfl | rfl | ⟨h0, h1, h2, h3, h4, h5, h6⟩
  all_goals
    go_enter Try.func21, Try.ntmps21
    go_wp2
    refine wp_loop_rounds 7 ?_
    iterate 7 (try (rw [rounds_succ]; go_wp2))
    go_ret
    first | exact ⟨rfl, rfl⟩ | exact ⟨by rw [h6.out]; rfl, rfl⟩
#print axioms at_any
end Go.Proofs.Ytogkcpgcefgmkaa.PO
