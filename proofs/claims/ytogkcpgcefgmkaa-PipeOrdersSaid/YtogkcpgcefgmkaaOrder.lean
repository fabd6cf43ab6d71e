/- pipe.Order: what it answers, for every text of at most 1000 bytes; strings.IndexByte, Index at one byte and IndexAny at a short text by the library's contracts, Cut and ContainsAny walked. -/
import Derived.Test.YtogkcpgcefgmkaaIsOrder
import Derived.Test.YtogkcpgcefgmkaaShelf
import Derived.Laws.RangeString
namespace Go.Proofs.Ytogkcpgcefgmkaa.PO
open Go.RowKit

theorem indexLets_any (b : UInt8) (w : World) :
    Calls Try.prog 10 #[.string ⟨#[114, 99, 103, 112, 116, 101]⟩, .int .u8 (b.toNat : Int)] w fun e w' => e = .returned (.int .i64 (Lib.indexByte lets b)) ∧ w' = w :=
  (Try.strings_IndexByte ⟨#[114, 99, 103, 112, 116, 101]⟩ (b.toNat : Int) w).mono fun e w' ⟨he, hw⟩ => ⟨by rw [he]; simp [lets], hw⟩
theorem indexByte_any (s : ByteArray) (b : UInt8) (w : World) :
    Calls Try.prog 10 #[.string s, .int .u8 (b.toNat : Int)] w fun e w' => e = .returned (.int .i64 (Lib.indexByte s.data.toList b)) ∧ w' = w :=
  (Try.strings_IndexByte s (b.toNat : Int) w).mono fun e w' ⟨he, hw⟩ => ⟨by rw [he]; simp, hw⟩

def preIdx (s : ByteArray) (k : Nat) (b : UInt8) : Int := Lib.indexByte (s.data.toList.take k) b
theorem pre_eq (s : ByteArray) (k : Nat) : (s.extract 0 k).data.toList = s.data.toList.take k := by rw [Lib.extract_data]; simp
theorem indexPre_any (s : ByteArray) (k : Nat) (b : UInt8) (w : World) :
    Calls Try.prog 10 #[.string (s.extract 0 k), .int .u8 (b.toNat : Int)] w fun e w' => e = .returned (.int .i64 (preIdx s k b)) ∧ w' = w :=
  (indexByte_any (s.extract 0 k) b w).mono fun e w' ⟨he, hw⟩ => ⟨by rw [he, pre_eq]; rfl, hw⟩

/-- Cut at the letter p: what stands behind. -/
def CutPost (l : List UInt8) (w : World) (e : Ending) (w' : World) : Prop := ∃ (x y : ByteArray) (f : Bool), e = .returned (.tuple #[.string x, .string y, .bool f]) ∧ y.data.toList = behind l ∧ ∃ n, w' = w.drewN n

set_option maxHeartbeats 1000000 in
theorem cut19 (s : ByteArray) (w : World) (hs : s.size ≤ 1000) : Calls Try.prog 19 #[.string s, .string ⟨#[112]⟩] w (CutPost s.data.toList w) := by
  by_cases h : Lib.indexByte s.data.toList 112 < 0
  · have H : Hid (Lib.indexByte s.data.toList 112 < 0) := h
    go_enter Try.func19, Try.ntmps19
    go_wp2_with (go_at_call 25; refine (Try.stringslite_Index_one s 112 _).mono ?_; rintro e w' ⟨rfl, rfl⟩)
    go_ret3
    exact ⟨s, ⟨#[]⟩, false, rfl, (behind_none H.out).symm, 0, rfl⟩
  · obtain ⟨k, hk⟩ : ∃ k : Nat, Lib.indexByte s.data.toList 112 = (k : Int) := ⟨(Lib.indexByte s.data.toList 112).toNat, by omega⟩
    have hlt : k < s.size := by
      have := (Lib.indexByte_some hk).1
      have h2 := List.getElem?_eq_some_iff.1 this
      obtain ⟨h2, _⟩ := h2
      simpa using h2
    have hi1 : (k : Int) ≤ (s.size : Int) := by omega
    have hi2 : (k : Int) + 1 ≤ (s.size : Int) := by omega
    have HK : Hid (Lib.indexByte s.data.toList 112 = (k : Int)) := hk
    have hc := Try.stringslite_Index_one s 112 w
    rw [hk] at hc
    have HC := Lib.hid hc
    clear hk hc h
    go_enter Try.func19, Try.ntmps19
    go_wp2_with (go_at_call 25; refine HC.out.mono ?_; rintro e w' ⟨rfl, rfl⟩)
    go_quiet (fail)
    go_wp2
    go_ret3
    exact ⟨_, _, _, rfl, by rw [behind_some HK.out]; exact Lib.extract_to_end s (k + 1), _, rfl⟩

set_option maxHeartbeats 1000000 in
theorem cut11 (s : ByteArray) (w : World) (hs : s.size ≤ 1000) : Calls Try.prog 11 #[.string s, .string ⟨#[112]⟩] w (CutPost s.data.toList w) := by
  go_enter Try.func11, Try.ntmps11
  go_wp2_with (go_at_call 19; refine (cut19 s _ hs).mono ?_; rintro e w' ⟨x, y, f, rfl, hy, n, rfl⟩; have HY := Lib.hid hy; clear hy)
  go_ret3
  exact ⟨_, _, _, rfl, HY.out, _, rfl⟩

def anyCG (l : List UInt8) : Bool := l.any (fun c => c == 99 || c == 103)
def AnyPost (l : List UInt8) (w : World) (e : Ending) (w' : World) : Prop := e = .returned (.bool (anyCG l)) ∧ Below w.heap.size w w'

set_option maxHeartbeats 1000000 in
theorem contains12 (y : ByteArray) (w : World) (h8 : y.size ≤ 8) (ha : ∀ (j : Nat) b, y.data.toList[j]? = some b → b.toNat < 128) :
    Calls Try.prog 12 #[.string y, .string ⟨#[99, 103]⟩] w (AnyPost y.data.toList w) := by
  have hc := Try.strings_IndexAny_short y ⟨#[99, 103]⟩ w (by decide) h8 ha
  have HC := Lib.hid hc
  clear hc ha
  go_enter Try.func12, Try.ntmps12
  go_wp2_with (go_at_call 20; refine HC.out.mono ?_; rintro e w' ⟨rfl, pos, rfl⟩)
  go_ret
  exact ⟨ret_bool (any_cg _), (Below.refl _ _).alloc (Nat.le_refl _) _⟩

/-- What pipe.Order answers. -/
def OrdPost (l : List UInt8) (w : World) (e : Ending) (w' : World) : Prop := e = .returned (.tuple #[.bool (gd l), .bool (wh l), .int .i64 (er l)]) ∧ Below w.heap.size w w'

theorem ord_no {l : List UInt8} (h : ordOk l = false) : gd l = false ∧ wh l = false ∧ er l = 1 := by simp [gd, wh, er, h]

theorem ret_ord {a b c d : Bool} {m n : Int} (h1 : a = c) (h2 : b = d) (h3 : m = n) : Ending.returned (.tuple #[.bool a, .bool b, .int .i64 m]) = .returned (.tuple #[.bool c, .bool d, .int .i64 n]) := by rw [h1, h2, h3]
theorem pre_yes {s : ByteArray} {k : Nat} {b : UInt8} (h : 0 ≤ preIdx s k b) : (s.data.toList.take k).contains b = true := by
  rw [Lib.contains_iff_indexByte]; exact decide_eq_true h
theorem pre_no {s : ByteArray} {k : Nat} {b : UInt8} (h : ¬ 0 ≤ preIdx s k b) : (s.data.toList.take k).contains b = false := by
  rw [Lib.contains_iff_indexByte]; exact decide_eq_false h
theorem short_behind {s y : ByteArray} (h6 : s.size ≤ 6) (hy : y.data.toList = behind s.data.toList) : y.size ≤ 8 := by
  rw [Lib.size_eq, hy]
  have := behind_length s.data.toList
  have := Lib.size_eq s
  omega
theorem ascii_behind {s y : ByteArray} (ho : ordOk s.data.toList = true) (hy : y.data.toList = behind s.data.toList) : ∀ (j : Nat) b, y.data.toList[j]? = some b → b.toNat < 128 := by
  intro j b hb
  rw [hy] at hb
  exact lets_ascii b ((ordOk_mem ho).2 b (behind_mem b (List.mem_of_getElem? hb)))

set_option maxHeartbeats 2000000 in
theorem order5 (s : ByteArray) (w : World) (hs : s.size ≤ 1000) : Calls Try.prog 5 #[.string s] w (OrdPost s.data.toList w) := by
  go_enter Try.func5, Try.ntmps5
  go_wp2
  go_loopw [11] (fun i wr => ∃ k : Nat, k ≤ s.size ∧ i = .int .i64 k ∧ Hid (okTo s.data.toList k = true) ∧ Below w.heap.size w wr) (fun i _ => s.size - (intOf i).toNat)
  case atStart => exact ⟨0, Nat.zero_le _, rfl, rfl, Below.refl _ _⟩
  case round =>
    obtain ⟨k, hk, rfl, ho, hb⟩ := hrel
    by_cases hlt : k < s.size
    · have hg := data_get s k hlt
      have Hg : Hid (s.data.toList[k]? = some s[k]) := hg
      clear hg
      have hks : (k : Int) < (s.size : Int) := by omega
      have hkl : (k : Int) ≤ (s.size : Int) := by omega
      by_cases hin : Lib.indexByte lets s[k] < 0
      · go_wp2_with (fail)
        go_quiet ((first | (go_at_call 10; with_reducible exact Calls.quiet_of_same (indexLets_any _ _)) | (go_at_call 10; with_reducible exact Calls.quiet_of_same (indexPre_any _ _ _ _))))
        go_wp2
        go_ret3
        have hno := ord_no (ordOk_false (i := k + 1) (by simp; omega) ((okTo_step ho.out Hg.out).trans (fresh_not_letter hin)))
        exact ⟨ret_ord hno.1.symm hno.2.1.symm hno.2.2.symm, below_drewN hb _⟩
      · have hin' : decide (Lib.indexByte lets s[k] < 0) = false := decide_eq_false hin
        have hpos : 0 ≤ Lib.indexByte lets s[k] := by omega
        have HP := Lib.hid hpos
        clear hpos
        by_cases h2 : 0 ≤ preIdx s k s[k]
        · have H2 := Lib.hid h2
          go_wp2_with (fail)
          go_quiet ((first | (go_at_call 10; with_reducible exact Calls.quiet_of_same (indexLets_any _ _)) | (go_at_call 10; with_reducible exact Calls.quiet_of_same (indexPre_any _ _ _ _))))
          go_wp2
          go_ret3
          have hno := ord_no (ordOk_false (i := k + 1) (by simp; omega) ((okTo_step ho.out Hg.out).trans (fresh_twice (pre_yes H2.out))))
          exact ⟨ret_ord hno.1.symm hno.2.1.symm hno.2.2.symm, below_drewN hb _⟩
        · have h2' : decide (0 ≤ preIdx s k s[k]) = false := decide_eq_false h2
          have H2 := Lib.hid h2
          go_wp2_with (fail)
          go_quiet ((first | (go_at_call 10; with_reducible exact Calls.quiet_of_same (indexLets_any _ _)) | (go_at_call 10; with_reducible exact Calls.quiet_of_same (indexPre_any _ _ _ _))))
          go_wp2
          go_roundw
          case rel => exact ⟨k + 1, by omega, by go_num, (okTo_step ho.out Hg.out).trans (fresh_yes HP.out (pre_no (by have := H2.out; omega))), below_drewN hb _⟩
          case measure => simp [intOf]; omega
    · obtain rfl : k = s.size := by omega
      have hok : ordOk s.data.toList = true := by have := ho.out; rw [show s.size = s.data.toList.length by simp] at this; exact this
      have h6 : s.size ≤ 6 := by have := ordOk_length hok; simpa using this
      have HO := Lib.hid hok
      clear hok ho
      go_wp2_with (first | (go_at_call 11; refine (cut11 s _ hs).mono ?_; rintro e w' ⟨x, y, f, rfl, hy, n, rfl⟩; have HY := Lib.hid hy; clear hy) | (go_at_call 12; refine (contains12 y _ (short_behind h6 HY.out) (ascii_behind HO.out HY.out)).mono ?_; rintro e w' ⟨rfl, hbel⟩))
      go_ret3
      have hok := HO.out
      exact ⟨ret_ord (by rw [HY.out]; simp [gd, bad, hok, anyCG]) (by rw [Bool.eq_iff_iff]; simp [wh, hok]; omega) (by simp [er, hok]), (below_drewN hb _).trans (hbel.mono hb.size)⟩
#print axioms order5
end Go.Proofs.Ytogkcpgcefgmkaa.PO
