/- The reference's orders and Orders: the good whole orders that begin so, ascending; by induction on the letters still to come. -/
import Derived.Test.YtogkcpgcefgmkaaRefOrder
import Derived.Test.YtogkcpgcefgmkaaOrders
import Derived.Laws.AppendOwnNone
namespace Go.Proofs.Ytogkcpgcefgmkaa.PO
open Go.RowKit Go.Lib

abbrev sortB : ByteArray := ⟨#[99, 101, 103, 112, 114, 116]⟩
def sub2 (n : Nat) (l : List UInt8) (c : UInt8) : List (List UInt8) := if l.contains c then [] else tree sorts n (l ++ [c])
def gath2 (n : Nat) (l : List UInt8) (i : Nat) : List (List UInt8) := (sorts.take i).flatMap (sub2 n l)

theorem tree_whole2 {n : Nat} {l : List UInt8} (h : gd l = true) (hw : wh l = true) : tree sorts (n + 1) l = [l] := tree_whole h hw
theorem tree_more2 {n : Nat} {l : List UInt8} (h : gd l = true) (hw : wh l = false) : tree sorts (n + 1) l = gath2 n l 6 := by
  unfold tree; rw [if_neg (by simp [h]), if_neg (by simp [hw])]; rfl
theorem tree_length2 (n : Nat) (l : List UInt8) : (tree sorts n l).length ≤ 6 ^ n := by
  rw [← (perm_trees n l).length_eq]; exact tree_length n l
theorem sub2_length (n : Nat) (l : List UInt8) (c : UInt8) : (sub2 n l c).length ≤ 6 ^ n := by
  unfold sub2
  split
  · exact Nat.zero_le _
  · exact tree_length2 n _
theorem gath2_next {n i : Nat} {l : List UInt8} {c : UInt8} (hc : sorts[i]? = some c) : gath2 n l (i + 1) = gath2 n l i ++ sub2 n l c := by
  obtain ⟨hi, rfl⟩ := List.getElem?_eq_some_iff.1 hc
  unfold gath2
  rw [List.take_succ_eq_append_getElem hi, List.flatMap_append]
  simp
theorem gath2_length (n : Nat) (l : List UInt8) : ∀ i, i ≤ 6 → (gath2 n l i).length ≤ i * 6 ^ n
  | 0, _ => by simp [gath2]
  | i + 1, h => by
    have hl : i < sorts.length := by simp [sorts]; omega
    rw [gath2_next (List.getElem?_eq_getElem hl), List.length_append, Nat.succ_mul]
    have := gath2_length n l i (by omega)
    have := sub2_length n l sorts[i]
    omega

/-- A slice of the call's own, nil perhaps, that holds the texts l. -/
def RowPost (l : List (List UInt8)) (w : World) (e : Ending) (w' : World) : Prop := ∃ v, e = .returned v ∧ w'.ownsRow w.heap.size 9 1 v l.length (l.map encStr) ∧ Below w.heap.size w w'

theorem refOrder_is (s : ByteArray) (w : World) (hs : s.size ≤ 1000) {g : Bool} (hg : gd s.data.toList = g) :
    Calls Try.prog 6 #[.string s] w fun e w' => e = .returned (.tuple #[.bool g, .bool (wh s.data.toList), .int .i64 (er s.data.toList)]) ∧ Below w.heap.size w w' :=
  (refOrder6 s w hs).mono fun e w' ⟨he, hb⟩ => ⟨by rw [he, hg], hb⟩

set_option maxHeartbeats 1000000 in
theorem ref_bad (s : ByteArray) (w : World) (hs : s.size ≤ 1000) (hg : gd s.data.toList = false) : Calls Try.prog 17 #[.string s] w (RowPost [] w) := by
  have HC := Lib.hid (refOrder_is s w hs hg)
  clear hg
  go_enter Try.func17, Try.ntmps17
  go_wp2_with (go_at_call 6; refine HC.out.mono ?_; rintro e w1 ⟨rfl, hb⟩)
  go_ret
  exact ⟨_, rfl, World.ownsRow_nil _ _ _ _, hb⟩

set_option maxHeartbeats 1000000 in
theorem ref_whole (s : ByteArray) (w : World) (hs : s.size = 6) (hg : gd s.data.toList = true) : Calls Try.prog 17 #[.string s] w (RowPost [s.data.toList] w) := by
  have HC := Lib.hid (refOrder_is s w (by omega) hg)
  have h6 : ((s.size : Int) == 6) = true := by rw [hs]; rfl
  clear hg hs
  go_enter Try.func17, Try.ntmps17
  go_wp2_with (go_at_call 6; refine HC.out.mono ?_; rintro e w1 ⟨rfl, hb⟩)
  go_ret
  exact ⟨_, rfl, World.ownsRow_lit w1 #[.string s] 1 hb.size (by unfold maxLen; decide) rfl, hb.alloc hb.size _⟩

theorem isOrder_is (s : ByteArray) (w : World) (hs : s.size ≤ 1000) {g : Bool} (hg : ordOk s.data.toList = g) :
    Calls Try.prog 13 #[.string s] w fun e w' => e = .returned (.bool g) ∧ Below w.heap.size w w' :=
  (isOrder_any s w hs).mono fun e w' ⟨he, hb⟩ => ⟨by rw [he, hg], hb⟩

theorem sortB_get (i : Nat) (h : i < sortB.size) : sorts[i]? = some sortB[i] := data_get sortB i h
theorem sortB_cut {i : Nat} {c : UInt8} (h : sorts[i]? = some c) : sortB.extract i (i + 1) = ⟨#[c]⟩ := by
  obtain ⟨hi, rfl⟩ := List.getElem?_eq_some_iff.1 h
  have : i = 0 ∨ i = 1 ∨ i = 2 ∨ i = 3 ∨ i = 4 ∨ i = 5 := by simp [sorts] at hi; omega
  rcases this with rfl | rfl | rfl | rfl | rfl | rfl <;> rfl
theorem sorts_letters : ∀ c ∈ sorts, lets.contains c = true := by decide
theorem ord_next {l : List UInt8} {c : UInt8} (h : ordOk l = true) (hc : c ∈ sorts) : ordOk (l ++ [c]) = !l.contains c := by
  rw [ordOk_snoc, h]
  unfold fresh
  rw [sorts_letters c hc]
  rfl

theorem own_below {w w' : World} {B n : Nat} {v : Value} {xs : List Value} (h : w.ownsRow B 9 1 v n xs) (hb : Below w.heap.size w w') : w'.ownsRow B 9 1 v n xs := by
  refine ⟨h.1, ?_⟩
  rcases h.2 with hn | ⟨g, cap, cur, hv, hg, hh, rest⟩
  · exact .inl hn
  · exact .inr ⟨g, cap, cur, hv, hg, (hb.block g (lt_of_block hh)).trans hh, rest⟩
theorem one_cells (l : List (List UInt8)) : ∀ u ∈ l.map encStr, u.oneCell' = true := by
  intro u hu
  obtain ⟨x, _, rfl⟩ := List.mem_map.1 hu
  rfl

set_option maxHeartbeats 2000000 in
theorem ref_more (n : Nat) (s : ByteArray) (w : World) (hs : s.size + (n + 1) = 7) (hg : gd s.data.toList = true) (hw : wh s.data.toList = false)
    (ih : ∀ (s : ByteArray) (w : World), s.size + n = 7 → Calls Try.prog 17 #[.string s] w (RowPost (tree sorts n s.data.toList) w)) :
    Calls Try.prog 17 #[.string s] w (RowPost (gath2 n s.data.toList 6) w) := by
  have HC := Lib.hid (refOrder_is s w (by omega) hg)
  have IH := Lib.hid ih
  have ho : ordOk s.data.toList = true := by unfold gd at hg; rw [Bool.and_eq_true] at hg; exact hg.1
  have h6 : ((s.size : Int) == 6) = false := by
    unfold wh at hw
    rw [ho, Bool.true_and] at hw
    rw [beq_eq_false_iff_ne] at hw ⊢
    have := Lib.size_eq s
    omega
  have HO := Lib.hid ho
  have HS := Lib.hid hs
  have hs7 : s.size ≤ 6 := by omega
  clear hg hw ih ho hs
  obtain ⟨i0, hi, hz0, hz1, hz2⟩ := info_parts info9
  go_enter Try.func17, Try.ntmps17
  go_wp2_with (go_at_call 6; refine HC.out.mono ?_; rintro e w1 ⟨rfl, hb⟩)
  go_loopw [6, 8] (fun v i wr => ∃ k : Nat, k ≤ 6 ∧ i = .int .i64 k ∧ Hid (wr.ownsRow w.heap.size 9 1 v (gath2 n s.data.toList k).length ((gath2 n s.data.toList k).map encStr)) ∧ Below w.heap.size w wr) (fun _ i _ => 6 - (intOf i).toNat)
  case atStart => exact ⟨0, Nat.zero_le _, rfl, World.ownsRow_nil _ _ _ _, hb⟩
  case round =>
    obtain ⟨k, hk, rfl, hown, hbr⟩ := hrel
    by_cases hlt : k < 6
    · obtain ⟨c, hc⟩ : ∃ c : UInt8, sorts[k]? = some c := ⟨_, sortB_get k hlt⟩
      have hcut := sortB_cut hc
      have HG := Lib.hid hc
      clear hc
      have hdat : (s ++ (⟨#[c]⟩ : ByteArray)).data.toList = s.data.toList ++ [c] := by simp
      have hlen : (s ++ (⟨#[c]⟩ : ByteArray)).size = s.size + 1 := by simp; rfl
      have hnext := ord_next HO.out (List.mem_of_getElem? HG.out)
      rw [← hdat] at hnext
      cases hcon : s.data.toList.contains c with
      | true =>
        rw [hcon] at hnext
        have HR := Lib.hid (fun W => isOrder_is (s ++ ⟨#[c]⟩) W (by omega) hnext)
        have HCON := Lib.hid hcon
        clear hcon hnext hdat hlen
        go_wp2_with (go_at_call 13; refine (HR.out _).mono ?_; rintro e w2 ⟨rfl, hb2⟩)
        go_roundw
        case rel =>
          refine ⟨k + 1, by omega, by go_num, ?_, hbr.trans (hb2.mono hbr.size)⟩
          have e : sub2 n s.data.toList c = [] := by unfold sub2; rw [if_pos HCON.out]
          have e2 : gath2 n s.data.toList (k + 1) = gath2 n s.data.toList k := by rw [gath2_next HG.out, e, List.append_nil]
          have := own_below hown.out hb2
          rw [e2]
          exact this
        case measure => simp [intOf]; omega
      | false =>
        rw [hcon] at hnext
        have HR := Lib.hid (fun W => isOrder_is (s ++ ⟨#[c]⟩) W (by omega) hnext)
        have HCON := Lib.hid hcon
        have hih := fun W => IH.out (s ++ ⟨#[c]⟩) W (by have := HS.out; omega)
        rw [hdat] at hih
        have e : sub2 n s.data.toList c = tree sorts n (s.data.toList ++ [c]) := by unfold sub2; rw [if_neg (by rw [HCON.out]; simp)]
        rw [← e] at hih
        have e2 : gath2 n s.data.toList (k + 1) = gath2 n s.data.toList k ++ sub2 n s.data.toList c := gath2_next HG.out
        have E2 := Lib.hid e2
        have HIH := Lib.hid hih
        have hb1 := gath2_length n s.data.toList k (by omega)
        have hb2 := sub2_length n s.data.toList c
        have HBD : Hid ((gath2 n s.data.toList k).length + (sub2 n s.data.toList c).length ≤ 1000000) := by
          have h1 : k * 6 ^ n ≤ 6 * 6 ^ n := Nat.mul_le_mul_right _ (by omega)
          have h2 : 6 ^ n ≤ 6 ^ 6 := Nat.pow_le_pow_right (by omega) (by have := HS.out; omega)
          have h3 : (6 : Nat) ^ 6 = 46656 := by decide
          show _ ≤ _
          omega
        clear hcon hnext hdat hlen hih e e2 hb1 hb2
        go_wp2_with fail
        refine (HR.out _).mono ?_
        rintro e w2 ⟨rfl, hb2⟩
        go_wp2_with fail
        refine (HIH.out _).mono ?_
        rintro e w3 ⟨v2, rfl, hv2, hb3⟩
        have hown3 := own_below (own_below hown.out hb2) hb3
        have hbr3 : Below w.heap.size w w3 := (hbr.trans (hb2.mono hbr.size)).trans (hb3.mono (Nat.le_trans hbr.size hb2.size))
        have hb3s := hbr3.size
        have hbd := HBD.out
        rcases hv2.2 with ⟨rfl, h0⟩ | ⟨g, cap, cur, rfl, hgb, hgh, q1, q2, q3, q4⟩
        · have E0 : Hid (sub2 n s.data.toList c = []) := List.length_eq_zero_iff.1 h0
          clear hv2 h0
          go_wp2_with (at_builtin; refine wpList_append_own_none rfl _ _ 25 rfl w.heap.size 9 i0 1 Try.underlying25 hi _ _ _ rfl hown3 rfl ?_)
          have HN : Hid (w3.ownsRow w.heap.size 9 1 u6 (gath2 n s.data.toList (k + 1)).length ((gath2 n s.data.toList (k + 1)).map encStr)) := by
            rw [E2.out, E0.out, List.append_nil]; exact hown3
          clear hown3
          go_wp2
          go_roundw
          case rel => exact ⟨k + 1, by omega, by go_num, HN, hbr3⟩
          case measure => simp [intOf]; omega
        · have hcells := hv2.cells (g := g) rfl
          have HCE := Lib.hid hcells
          have h1c := Lib.hid (one_cells (sub2 n s.data.toList c))
          clear hv2 hgh q1 q2 q3 q4 hcells
          go_wp2_with (at_builtin; refine wpList_append_own _ rfl _ _ 25 rfl w.heap.size 9 i0 (.string ⟨#[]⟩) 1 16 Try.underlying25 hi hz0 hz1 hz2 rfl (by decide) _ _ _ rfl hown3 ⟨g, 0, none⟩ _ cap ((sub2 n s.data.toList c).map encStr) rfl (by simp) HCE.out h1c.out ?c3 ?c4 hb3s ?_)
          case c3 => unfold maxLen; omega
          case c4 => omega
          intro v' w4 hown4 hgrow _
          have HN : Hid (w4.ownsRow w.heap.size 9 1 v' (gath2 n s.data.toList (k + 1)).length ((gath2 n s.data.toList (k + 1)).map encStr)) := by
            rw [E2.out, List.length_append, List.map_append]; exact hown4
          have hb4 : Below w.heap.size w w4 := hbr3.grown hgrow hb3s (fun j hj => (hown3.lt j hj).1)
          clear hown4 hgrow hown3
          go_wp2
          go_roundw
          case rel => exact ⟨k + 1, by omega, by go_num, HN, hb4⟩
          case measure => simp [intOf]; omega
    · obtain rfl : k = 6 := by omega
      go_wp2
      go_ret
      exact ⟨_, rfl, hown.out, hbr⟩

theorem ref_any (n : Nat) : ∀ (s : ByteArray) (w : World), s.size + n = 7 → Calls Try.prog 17 #[.string s] w (RowPost (tree sorts n s.data.toList) w) := by
  induction n with
  | zero =>
    intro s w hs
    have hg : gd s.data.toList = false := by
      have : ordOk s.data.toList = false := by
        rw [← Bool.not_eq_true]
        intro h
        have h6 := ordOk_length h
        have := Lib.size_eq s
        omega
      exact (ord_no this).1
    rw [tree_bad hg]
    exact ref_bad s w (by omega) hg
  | succ n ih =>
    intro s w hs
    cases hg : gd s.data.toList with
    | false =>
      rw [tree_bad hg]
      exact ref_bad s w (by omega) hg
    | true =>
      cases hw : wh s.data.toList with
      | true =>
        rw [tree_whole2 hg hw]
        have h6 : s.size = 6 := by
          unfold wh at hw
          rw [Bool.and_eq_true, beq_iff_eq] at hw
          rw [Lib.size_eq]; exact hw.2
        exact ref_whole s w h6 hg
      | false =>
        rw [tree_more2 hg hw]
        exact ref_more n s w hs hg hw ih

set_option maxHeartbeats 1000000 in
theorem refOrders_core (S : List (List UInt8)) (w : World) (h : Calls Try.prog 17 #[.string ⟨#[]⟩] w (RowPost S w)) : Calls Try.prog 9 #[] w (RowPost S w) := by
  have HC := Lib.hid h
  clear h
  go_enter Try.func9, Try.ntmps9
  go_wp2_with fail
  refine HC.out.mono ?_
  rintro e w1 ⟨v, rfl, hv, hb⟩
  have HV := Lib.hid hv
  clear hv
  go_wp2
  go_ret
  exact ⟨_, rfl, HV.out, hb⟩
theorem refOrders9 (w : World) : Calls Try.prog 9 #[] w (RowPost (tree sorts 7 []) w) := by
  refine refOrders_core (tree sorts 7 []) w ?_
  have h := ref_any 7 ⟨#[]⟩ w rfl
  exact h
#print axioms refOrders9
end Go.Proofs.Ytogkcpgcefgmkaa.PO
