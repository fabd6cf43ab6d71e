/- texts at two slices that hold the same texts; sane. -/
import Derived.Test.YtogkcpgcefgmkaaRefOrders
namespace Go.Proofs.Ytogkcpgcefgmkaa.PO
open Go.RowKit Go.Lib

def Holds8 (l : List (List UInt8)) (w : World) (g : Nat) : Prop := g < w.heap.size ∧ ∀ j, j < l.length → w.cell? ⟨g, j, none⟩ = some (encStr (l.getD j []))
theorem Holds8.of_own {l : List (List UInt8)} {w : World} {B g cap : Nat} (h : w.ownsRow B 9 1 (.slice (some ⟨g, 0, none⟩) l.length cap) l.length (l.map encStr)) : Holds8 l w g := by
  refine ⟨(h.lt g rfl).2, fun j hj => ?_⟩
  rw [h.cellAt j (by omega)]
  simp [hj]
theorem Holds8.below {l : List (List UInt8)} {w w' : World} {g : Nat} (h : Holds8 l w g) (hb : Below w.heap.size w w') : Holds8 l w' g :=
  ⟨Nat.lt_of_lt_of_le h.1 hb.size, fun j hj => (hb.cell (p := ⟨g, j, none⟩) h.1).trans (h.2 j hj)⟩

set_option maxHeartbeats 1000000 in
theorem texts8 (l : List (List UInt8)) (g g2 c c2 : Nat) (w : World) (hl : l.length ≤ 1000000) (h1 : Holds8 l w g) (h2 : Holds8 l w g2) :
    Calls Try.prog 8 #[.slice (some ⟨g, 0, none⟩) l.length c, .slice (some ⟨g2, 0, none⟩) l.length c2] w fun e w' => e = .returned (.bool true) ∧ Below w.heap.size w w' := by
  have H1 := Lib.hid h1
  have H2 := Lib.hid h2
  clear h1 h2
  obtain ⟨n, hn⟩ : ∃ n, n = l.length := ⟨_, rfl⟩
  have HN := Lib.hid hn
  rw [← hn] at hl ⊢
  clear hn
  go_enter Try.func8, Try.ntmps8
  go_wp2
  go_loopw [5] (fun i wr => ∃ k : Nat, k ≤ n ∧ i = .int .i64 k ∧ Below w.heap.size w wr) (fun i _ => n - (intOf i).toNat)
  case atStart => exact ⟨0, Nat.zero_le _, rfl, Below.refl _ _⟩
  case round =>
    obtain ⟨k, hk, rfl, hb⟩ := hrel
    by_cases hlt : k < n
    · obtain ⟨x, hx⟩ : ∃ x : ByteArray, x = ⟨(l.getD k []).toArray⟩ := ⟨_, rfl⟩
      have c1 : wr.cell? ⟨g, k, none⟩ = some (.string x) := by rw [hx]; exact ((H1.out.below hb).2 k (by have := HN.out; omega))
      have c2 : wr.cell? ⟨g2, k, none⟩ = some (.string x) := by rw [hx]; exact ((H2.out.below hb).2 k (by have := HN.out; omega))
      have hks : (k : Int) < (n : Int) := by omega
      clear hx
      go_wp2
      go_quiet (fail)
      go_wp2
      go_roundw
      case rel => exact ⟨k + 1, by omega, by go_num, below_drewN hb _⟩
      case measure => simp [intOf]; omega
    · go_wp2
      go_ret
      exact ⟨rfl, hb⟩

theorem order5_const (s : ByteArray) (w : World) (hs : s.size ≤ 1000) {g : Bool} (hg : gd s.data.toList = g) (ho : er s.data.toList = 0) :
    Calls Try.prog 5 #[.string s] w fun e w' => e = .returned (.tuple #[.bool g, .bool (wh s.data.toList), .int .i64 0]) ∧ Below w.heap.size w w' :=
  (order5 s w hs).mono fun e w' ⟨he, hb⟩ => ⟨by rw [he, hg, ho], hb⟩

set_option maxHeartbeats 1000000 in
theorem sane4 (w : World) : Calls Try.prog 4 #[] w fun e w' => e = .returned (.bool true) ∧ Below w.heap.size w w' := by
  have ha := fun W => order5_const ⟨#[103, 99, 112]⟩ W (by decide) (g := true) (by decide) (by decide)
  have hb := fun W => order5_const ⟨#[112, 103]⟩ W (by decide) (g := false) (by decide) (by decide)
  have HA := Lib.hid ha
  have HB := Lib.hid hb
  clear ha hb
  go_enter Try.func4, Try.ntmps4
  go_wp2_with fail
  refine (HA.out _).mono ?_
  rintro e w1 ⟨rfl, hb1⟩
  go_wp2_with fail
  refine (HB.out _).mono ?_
  rintro e w2 ⟨rfl, hb2⟩
  go_wp2
  go_ret
  exact ⟨rfl, hb1.trans (hb2.mono hb1.size)⟩
#print axioms texts8
#print axioms sane4
end Go.Proofs.Ytogkcpgcefgmkaa.PO
