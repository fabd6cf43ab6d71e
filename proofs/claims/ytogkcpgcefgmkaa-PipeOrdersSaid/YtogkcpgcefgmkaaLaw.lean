/- The law's walk out of the contracts. -/
import Derived.Test.YtogkcpgcefgmkaaTexts
import Derived.WalkLawsBesides
import Derived.Sort.Walk0
namespace Go.Proofs.Ytogkcpgcefgmkaa.PO
open Go.RowKit Go.Lib

set_option maxHeartbeats 1000000 in
set_option maxRecDepth 100000 in
theorem law_big (a0 : ByteArray) (a1 : Option Addr) (len1 cap1 : Nat) (w : World) (h : 100 < a0.size) :
    Calls Try.prog 3 #[.string a0, .slice a1 len1 cap1] w fun e w' => e = .returned (.bool true) ∧ Below w.heap.size w w' := by
  go_enter Try.func3, Try.ntmps3
  go_wp2_with (go_at_call 4; refine (sane4 _).mono ?_; rintro e w1 ⟨rfl, hb⟩)
  go_ret
  exact ⟨rfl, hb⟩

theorem idx_ex (p : Int) : ∃ j : Nat, j < 6 ∧ IntKind.i64.wrap ((IntKind.u64.wrap p).tmod 6) = (j : Int) := by
  have h0 : 0 ≤ IntKind.u64.wrap p := by
    have : IntKind.u64.wrap p = p % 18446744073709551616 := rfl
    rw [this]; omega
  have h1 : (IntKind.u64.wrap p).tmod 6 = IntKind.u64.wrap p % 6 := Int.tmod_eq_emod_of_nonneg h0
  rw [h1]
  have h2 : 0 ≤ IntKind.u64.wrap p % 6 := Int.emod_nonneg _ (by decide)
  have h3 : IntKind.u64.wrap p % 6 < 6 := Int.emod_lt_of_pos _ (by decide)
  refine ⟨(IntKind.u64.wrap p % 6).toNat, by omega, ?_⟩
  rw [IntWalk.i64_in _ (by omega)]
  omega
/-- What the walk is told of the picks. -/
def Picks (w : World) (a : Option Addr) (len : Nat) (zs : List Int) : Prop :=
  ∀ k, k < len → ∃ b off, a = some ⟨b, off, none⟩ ∧ b < w.heap.size ∧ w.cell? ⟨b, off + k, none⟩ = some (.int .i64 (zs.getD k 0))

theorem one_more {t : ByteArray} {k : Nat} (h : t.size ≤ k) (j : Nat) : (t ++ (⟨#[114, 99, 103, 112, 116, 101]⟩ : ByteArray).extract j (j + 1)).size ≤ k + 1 := by
  rw [ByteArray.size_append, ByteArray.size_extract]
  omega
theorem cell_two {w : World} {b : Nat} {u v : Value} {t : TypeId} (h : w.heap[b]? = some (.cells #[u, v] t (0, 0))) : w.cell? ⟨b, 0, none⟩ = some u ∧ w.cell? ⟨b, 1, none⟩ = some v := by simp [World.cell?, h]

theorem pick_two {w : World} {b : Nat} {u v : ByteArray} {t : TypeId} {m : Nat} (h : w.heap[b]? = some (.cells #[.string u, .string v] t (0, 0))) (hu : u.size ≤ 1000) (hv : v.size ≤ 1000) (hm : m < 2) :
    ∃ x : ByteArray, x.size ≤ 1000 ∧ w.cell? ⟨b, m, none⟩ = some (.string x) := by
  rcases (show m = 0 ∨ m = 1 by omega) with rfl | rfl
  · exact ⟨u, hu, (cell_two h).1⟩
  · exact ⟨v, hv, (cell_two h).2⟩

theorem slice_of_list {S : List (List UInt8)} {w : World} {B : Nat} {v : Value} (h : w.ownsRow B 9 1 v S.length (S.map encStr)) (hl : S.length = 240) : ∃ g cp, v = .slice (some ⟨g, 0, none⟩) S.length cp := by
  rcases h.2 with ⟨_, h0⟩ | ⟨g, cap, cur, rfl, _⟩
  · omega
  · exact ⟨g, cap, rfl⟩

/-- The m-th of the orders: its cell, and what pipe.Order says of it. -/
theorem at_list {S : List (List UInt8)} {w : World} {g m : Nat} (hgood : ∀ x ∈ S, gd x = true ∧ wh x = true) (h : Holds8 S w g) (hm : m < S.length) :
    ∃ x : ByteArray, x.data.toList = S.getD m [] ∧ w.cell? ⟨g, m, none⟩ = some (.string x) ∧
      ∀ W, Calls Try.prog 5 #[.string x] W fun e w' => e = .returned (.tuple #[.bool true, .bool true, .int .i64 0]) ∧ Below W.heap.size W w' := by
  refine ⟨⟨(S.getD m []).toArray⟩, rfl, h.2 m hm, fun W => ?_⟩
  have hmem : S.getD m [] ∈ S := by
    rw [List.getD_eq_getElem?_getD, List.getElem?_eq_getElem hm]
    exact List.getElem_mem hm
  obtain ⟨h1, h2⟩ := hgood _ hmem
  have ho : ordOk (S.getD m []) = true := by unfold gd at h1; rw [Bool.and_eq_true] at h1; exact h1.1
  have he : er (S.getD m []) = 0 := by unfold er; rw [if_pos ho]
  have hs : (⟨(S.getD m []).toArray⟩ : ByteArray).size ≤ 1000 := by
    have := ordOk_length ho
    show (S.getD m []).toArray.size ≤ 1000
    rw [List.size_toArray]
    omega
  exact (order5 _ W hs).mono fun e w' ⟨h3, h4⟩ => ⟨by rw [h3]; show Ending.returned (.tuple #[.bool (gd (S.getD m [])), .bool (wh (S.getD m [])), .int .i64 (er (S.getD m []))]) = _; rw [h1, h2, he], h4⟩
/-- One behind the other they ascend. -/
theorem less_list {S : List (List UInt8)} (hasc : S.Pairwise (· < ·)) {m : Nat} (hm : m + 1 < S.length) {x y : ByteArray} (hx : x.data.toList = S.getD m []) (hy : y.data.toList = S.getD (m + 1) []) : Op.bytesLess x.toList y.toList = true := by
  rw [bytesLess_eq, Lib.toList_data, Lib.toList_data, hx, hy]
  have := List.pairwise_iff_getElem.1 hasc m (m + 1) (by omega) hm (by omega)
  simpa [hm, show m < S.length by omega] using this

set_option maxHeartbeats 4000000 in
set_option maxRecDepth 100000 in
theorem law_core (S : List (List UInt8)) (hlen : S.length = 240) (hgood : ∀ x ∈ S, gd x = true ∧ wh x = true) (hasc : S.Pairwise (· < ·))
    (ho : ∀ W, Calls Try.prog 7 #[] W (ListPost S W)) (hr : ∀ W, Calls Try.prog 9 #[] W (RowPost S W))
    (a0 : ByteArray) (a1 : Option Addr) (len1 cap1 : Nat) (z1 : List Int) (w : World) (h : a0.size ≤ 100) (hp : Picks w a1 len1 z1) :
    Calls Try.prog 3 #[.string a0, .slice a1 len1 cap1] w fun e w' => e = .returned (.bool true) ∧ Below w.heap.size w w' := by
  have HL := Lib.hid hlen
  have HG := Lib.hid hgood
  have HA := Lib.hid hasc
  have HO := Lib.hid ho
  have HR := Lib.hid hr
  have HP := Lib.hid hp
  clear hlen hgood hasc ho hr hp
  go_enter Try.func3, Try.ntmps3
  go_wp2_with fail
  go_loopw [5, 6] (fun s i wr => ∃ (k : Nat) (t : ByteArray), k ≤ len1 ∧ k ≤ 7 ∧ t.size ≤ k ∧ i = .int .i64 k ∧ s = .string t ∧ Below w.heap.size w wr) (fun _ i _ => 7 - (intOf i).toNat)
  case atStart => exact ⟨0, ⟨#[]⟩, Nat.zero_le _, by omega, Nat.le_refl _, rfl, rfl, Below.refl _ _⟩
  case round =>
    obtain ⟨k, t, hk, hk7, ht, rfl, rfl, hb⟩ := hrel
    by_cases hk12 : k < len1 ∧ k < 7
    · obtain ⟨hk1, hk2⟩ := hk12
      obtain ⟨b, off, rfl, hblt, hc⟩ := HP.out k hk1
      have hcr := (hb.cell (p := ⟨b, off + k, none⟩) hblt).trans hc
      obtain ⟨p, hpp⟩ : ∃ p, z1.getD k 0 = p := ⟨_, rfl⟩
      rw [hpp] at hcr
      clear hc hpp
      obtain ⟨j, hj6, hj⟩ := idx_ex p
      have hj1 : IntKind.i64.wrap ((j : Int) + 1) = (j : Int) + 1 := IntWalk.i64_in _ (by omega)
      have hb0 : (0 : Int) ≤ (j : Int) := by omega
      have hb1 : (j : Int) ≤ (j : Int) + 1 := by omega
      have hb2 : (j : Int) + 1 ≤ (6 : Int) := by omega
      have hb3 : (0 : Int) ≤ (j : Int) + 1 := by omega
      have hb4 : ((j : Int) + 1).toNat = j + 1 := by omega
      go_wp2_with fail
      go_quiet (fail)
      clear hj hj1 hb1 hb2 hb3 hb4 hb0
      go_wp2_with fail
      go_roundw
      case rel => exact ⟨k + 1, _, by omega, by omega, one_more ht j, by go_num, rfl, below_drewN hb _⟩
      case measure => simp [intOf]; omega
    · have hx0 : a0.size ≤ 1000 := by omega
      have hx1 : t.size ≤ 1000 := by omega
      have hk1 : ¬ k < len1 ∨ (k < len1 ∧ ¬ k < 7) := by omega
      clear hk12
      rcases hk1 with hk3 | ⟨hk3, hk4⟩
      all_goals
        go_wp2_with fail
        obtain ⟨wo, rfl⟩ : ∃ wo : World, wo = wr := ⟨_, rfl⟩
        have HBLK : Hid ((wo.alloc (.cells #[.string a0, .string t] 9)).heap[wo.heap.size]? = some (.cells #[.string a0, .string t] 9 (0, 0))) := heap_alloc_new wo _
        have hbw := hb.alloc hb.size (.cells #[.string a0, .string t] 9)
        clear hb
        go_loopw [8] (fun i wx => ∃ m : Nat, m ≤ 2 ∧ i = .int .i64 m ∧ Hid (wx.heap[wo.heap.size]? = some (.cells #[.string a0, .string t] 9 (0, 0))) ∧ Below w.heap.size w wx) (fun i _ => 2 - (intOf i).toNat)
        case atStart => exact ⟨0, by omega, rfl, HBLK.out, hbw⟩
        case round =>
          obtain ⟨m, hm, rfl, hbl, hbx⟩ := hrel
          clear hbw HBLK
          by_cases hm2 : m < 2
          · obtain ⟨x, hx, hcx⟩ := pick_two hbl.out hx0 hx1 hm2
            go_wp2_with fail
            refine (order5 x _ hx).mono ?_
            rintro e w2 ⟨rfl, hb2⟩
            have hbl2 := (hb2.block _ (lt_of_block hbl.out)).trans hbl.out
            have HBL2 := Lib.hid hbl2
            have hcx2 := (hb2.cell (p := ⟨wo.heap.size, m, none⟩) (lt_of_block hbl.out)).trans hcx
            clear hbl2
            go_wp2_with fail
            refine (refOrder6 x _ hx).mono ?_
            rintro e w3 ⟨rfl, hb3⟩
            have hbl3 := (hb3.block _ (lt_of_block HBL2.out)).trans HBL2.out
            have HBL3 := Lib.hid hbl3
            have hbx3 := (hbx.trans (hb2.mono hbx.size)).trans (hb3.mono (Nat.le_trans hbx.size hb2.size))
            clear hbl3 hb2 hb3 hbx hbl HBL2 hcx hcx2
            go_wp2_with fail
            go_roundw
            case rel => exact ⟨m + 1, by omega, by go_num, HBL3.out, hbx3⟩
            case measure => simp [intOf]; omega
          · go_wp2_with fail
            refine (HO.out _).mono ?_
            rintro e w2 ⟨g, cap, rfl, hown, hb2⟩
            have hh2 := Lib.hid (Holds8.of_own hown)
            clear hown
            go_wp2_with fail
            refine (HR.out _).mono ?_
            rintro e w3 ⟨v, rfl, hv, hb3⟩
            obtain ⟨g2, cap2, rfl⟩ := slice_of_list hv HL.out
            have hh3 := Lib.hid (Holds8.of_own hv)
            have hg3 := Lib.hid (hh2.out.below hb3)
            have hsl : S.length ≤ 1000000 := by have := HL.out; omega
            have hbx3 := (hbx.trans (hb2.mono hbx.size)).trans (hb3.mono (Nat.le_trans hbx.size hb2.size))
            clear hv hh2 hb2 hb3 hbx hbl
            go_wp2_with fail
            refine (texts8 S g g2 cap cap2 _ hsl hg3.out hh3.out).mono ?_
            rintro e w4 ⟨rfl, hb4⟩
            have hg4 := Lib.hid (hg3.out.below hb4)
            have hbx4 := hbx3.trans (hb4.mono hbx3.size)
            clear hb4 hbx3 hg3 hh3
            go_wp2_with fail
            go_loopw [16] (fun i wx => ∃ m : Nat, m ≤ S.length ∧ i = .int .i64 m ∧ Hid (Holds8 S wx g) ∧ Below w.heap.size w wx) (fun i _ => S.length - (intOf i).toNat)
            case atStart => exact ⟨0, by omega, rfl, hg4.out, hbx4⟩
            case round =>
              obtain ⟨m, hm, rfl, hgw, hbw4⟩ := hrel
              clear hg4 hbx4
              by_cases hm2 : m < S.length
              · obtain ⟨x, hx, hcx, hox⟩ := at_list HG.out hgw.out hm2
                have hms : (m : Int) < (S.length : Int) := by omega
                have HX := Lib.hid hx
                by_cases hm0 : m = 0
                · subst hm0
                  go_wp2_with fail
                  refine (hox _).mono ?_
                  rintro e w5 ⟨rfl, hb5⟩
                  have hg5 := Lib.hid (hgw.out.below hb5)
                  have hbx5 := hbw4.trans (hb5.mono hbw4.size)
                  clear hb5 hgw hbw4 hox hcx
                  go_wp2_with fail
                  go_quiet (fail)
                  go_wp2_with fail
                  go_roundw
                  case rel => exact ⟨1, by omega, by go_num, hg5.out, below_drewN hbx5 _⟩
                  case measure => simp [intOf]; omega
                · obtain ⟨q, rfl⟩ : ∃ q, m = q + 1 := ⟨m - 1, by omega⟩
                  obtain ⟨y, hy, hcy, _⟩ := at_list HG.out hgw.out (show q < S.length by omega)
                  have hless := less_list HA.out hm2 hy hx
                  clear hy
                  go_wp2_with fail
                  refine (hox _).mono ?_
                  rintro e w5 ⟨rfl, hb5⟩
                  have hg5 := Lib.hid (hgw.out.below hb5)
                  have hbx5 := hbw4.trans (hb5.mono hbw4.size)
                  have hcx5 := (hb5.cell (p := ⟨g, q + 1, none⟩) hgw.out.1).trans hcx
                  have hcy5 := (hb5.cell (p := ⟨g, q, none⟩) hgw.out.1).trans hcy
                  clear hb5 hgw hbw4 hox hcx hcy hx
                  have hw1 : IntKind.i64.wrap ((q : Int) + 1 - 1) = (q : Int) := by rw [IntWalk.i64_in _ (by omega)]; omega
                  have hq0 : (0 : Int) ≤ (q : Int) := by omega
                  have hq1 : (q : Int) < (S.length : Int) := by omega
                  have hq2 : (0 : Int) ≤ (q : Int) + 1 := by omega
                  have hq3 : (q : Int) + 1 < (S.length : Int) := by omega
                  have hq4 : decide ((0 : Int) < (q : Int) + 1) = true := decide_eq_true (by omega)
                  go_wp2_with fail
                  go_quiet (fail)
                  clear hw1 hq0 hq1 hq2 hq4
                  go_wp2_with fail
                  go_roundw
                  case rel => exact ⟨q + 1 + 1, by omega, by go_num, hg5.out, below_drewN hbx5 _⟩
                  case measure => simp [intOf]; omega
              · go_wp2_with fail
                refine (sane4 _).mono ?_
                rintro e w5 ⟨rfl, hb5⟩
                have hbx5 := hbw4.trans (hb5.mono hbw4.size)
                clear hb5 hgw hbw4
                go_wp2_with fail
                go_ret
                exact ⟨rfl, hbx5⟩
end Go.Proofs.Ytogkcpgcefgmkaa.PO
