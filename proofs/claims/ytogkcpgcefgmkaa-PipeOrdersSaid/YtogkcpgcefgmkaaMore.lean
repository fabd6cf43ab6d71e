/- The closure's third way: the loop over the letters, the call of itself by the induction's hypothesis. -/
import Derived.Test.YtogkcpgcefgmkaaGrow
namespace Go.Proofs.Ytogkcpgcefgmkaa.PO
open Go.RowKit Go.Lib

def sub (n : Nat) (l : List UInt8) (c : UInt8) : List (List UInt8) := if l.contains c then [] else tree lets n (l ++ [c])
/-- What has been gathered behind i letters. -/
def gath (n : Nat) (l : List UInt8) (i : Nat) : List (List UInt8) := (lets.take i).flatMap (sub n l)

theorem tree_bad {ls : List UInt8} {n : Nat} {l : List UInt8} (h : gd l = false) : tree ls n l = [] := by
  cases n with
  | zero => rfl
  | succ n => unfold tree; rw [if_pos h]
theorem tree_whole {ls : List UInt8} {n : Nat} {l : List UInt8} (h : gd l = true) (hw : wh l = true) : tree ls (n + 1) l = [l] := by
  unfold tree; rw [if_neg (by simp [h]), if_pos hw]
theorem tree_more {n : Nat} {l : List UInt8} (h : gd l = true) (hw : wh l = false) : tree lets (n + 1) l = gath n l 6 := by
  unfold tree; rw [if_neg (by simp [h]), if_neg (by simp [hw])]; rfl
theorem tree_length (n : Nat) : ∀ l : List UInt8, (tree lets n l).length ≤ 6 ^ n := by
  induction n with
  | zero => intro l; exact Nat.zero_le _
  | succ n ih =>
    intro l
    unfold tree
    have hp : 0 < 6 ^ n := Nat.pow_pos (by omega)
    split
    · exact Nat.zero_le _
    · split
      · rw [List.length_singleton, Nat.pow_succ]; omega
      · have : ∀ c, (if l.contains c then [] else tree lets n (l ++ [c])).length ≤ 6 ^ n := fun c => by
          split
          · exact Nat.zero_le _
          · exact ih _
        have a0 := this 114; have a1 := this 99; have a2 := this 103; have a3 := this 112; have a4 := this 116; have a5 := this 101
        simp only [lets, List.flatMap_cons, List.flatMap_nil, List.length_append, List.length_nil, Nat.pow_succ]
        simp only [lets] at a0 a1 a2 a3 a4 a5
        omega
theorem sub_length (n : Nat) (l : List UInt8) (c : UInt8) : (sub n l c).length ≤ 6 ^ n := by
  unfold sub
  split
  · exact Nat.zero_le _
  · exact tree_length n _
theorem gath_next {n i : Nat} {l : List UInt8} {c : UInt8} (hc : lets[i]? = some c) : gath n l (i + 1) = gath n l i ++ sub n l c := by
  obtain ⟨hi, rfl⟩ := List.getElem?_eq_some_iff.1 hc
  unfold gath
  rw [List.take_succ_eq_append_getElem hi, List.flatMap_append]
  simp
theorem gath_length (n : Nat) (l : List UInt8) : ∀ i, i ≤ 6 → (gath n l i).length ≤ i * 6 ^ n
  | 0, _ => by simp [gath]
  | i + 1, h => by
    have hl : i < lets.length := by simp [lets]; omega
    rw [gath_next (List.getElem?_eq_getElem hl), List.length_append, Nat.succ_mul]
    have := gath_length n l i (by omega)
    have := sub_length n l lets[i]
    omega

theorem letB_get (i : Nat) (h : i < letB.size) : lets[i]? = some letB[i] := data_get letB i h
theorem letB_ascii (i : Nat) (h : i < letB.size) : (letB[i]).toNat < 128 := lets_ascii _ (List.mem_of_getElem? (letB_get i h))

theorem hasRune_is (s : ByteArray) (c : UInt8) (w : World) (ha : ∀ (j : Nat) b, s.data.toList[j]? = some b → b.toNat < 128) {h : Bool} (hh : s.data.toList.contains c = h) :
    Calls Try.prog 15 #[.string s, .int .i32 (c.toNat : Int)] w fun e w' => e = .returned (.bool h) ∧ Below w.heap.size w w' :=
  (hasRune15 s c w ha).mono fun e w' ⟨he, hb⟩ => ⟨by rw [he, hh], hb⟩

def LoopInv (B k n : Nat) (acc : List (List UInt8)) (l : List UInt8) (w : World) (i : Nat) (wx : World) : Prop :=
  wx.heap[k]? = some (.stringIter letB i) ∧ Inv B (acc ++ gath n l i) wx ∧ Only B w wx

theorem OthersKept_iterAt {B k : Nat} {a w : World} (h : OthersKept 9 (some B) a w) (hk : a.heap.size ≤ k) (s : ByteArray) (p : Nat) : OthersKept 9 (some B) a (w.iterAt k s p) := by
  intro j o hj hb ho
  have := lt_of_block hj
  rw [iterAt_other _ _ _ _ _ (by omega)]
  exact h j o hj hb ho
theorem LoopInv.step {B k n i : Nat} {acc : List (List UInt8)} {l : List UInt8} {w wr w2 : World} (h : LoopInv B k n acc l w i wr) (hB : B ≤ w.heap.size) (hk : w.heap.size ≤ k)
    (hb : Below (wr.iterAt k letB (i + 1)).heap.size (wr.iterAt k letB (i + 1)) w2) :
    w2.heap[k]? = some (.stringIter letB (i + 1)) ∧ Inv B (acc ++ gath n l i) w2 ∧ Only B w w2 := by
  obtain ⟨h1, h2, h3⟩ := h
  have e1 := iterAt_heap wr k letB i (i + 1) h1
  have hw := h3.1.size
  refine ⟨(hb.block k (lt_of_block e1)).trans e1, (h2.iterAt h1 (i + 1)).below hb, ?_⟩
  exact Only.trans ⟨below_iterAt h3.1 (by omega) _ _, OthersKept_iterAt h3.2 hk _ _⟩ (Only.of_below (by rw [iterAt_size]; omega) hb)
theorem some21 : (Try.prog.underlying 21).isSome = true := by
  have h := Try.underlying21
  exact Option.isSome_iff_exists.2 ⟨_, h⟩
theorem conv_letter {c : UInt8} (hc : c ∈ lets) (W : World) : (convert 21 9 (.int .i32 ((c.toNat : Nat) : Int))).run Try.prog W = .ok (.string ⟨#[c]⟩) W := by
  have h := run_convert_int_string (P := Try.prog) W 21 9 .i32 ((c.toNat : Nat) : Int) some21 Try.underlying9
  have he : Utf8.encode ((c.toNat : Nat) : Int) = ⟨#[c]⟩ := by
    simp only [lets, List.mem_cons, List.not_mem_nil, or_false] at hc
    rcases hc with rfl | rfl | rfl | rfl | rfl | rfl <;> kernel_rfl
  rw [he] at h
  exact h

set_option maxHeartbeats 2000000 in
set_option maxRecDepth 100000 in
theorem grow_more (B n : Nat) (s : ByteArray) (acc : List (List UInt8)) (w : World) (hs : s.size + (n + 1) = 7) (hl : acc.length + 6 ^ (n + 1) ≤ 1000000) (hi : Inv B acc w) (hg : gd s.data.toList = true) (hw : wh s.data.toList = false)
    (ih : ∀ (s : ByteArray) (acc : List (List UInt8)) (w : World), s.size + n = 7 → acc.length + 6 ^ n ≤ 1000000 → Inv B acc w →
      Calls Try.prog 14 #[.string s, .pointer (some ⟨B, 0, none⟩), .pointer (some ⟨B + 1, 0, none⟩)] w (GrowPost B (acc ++ tree lets n s.data.toList) w)) :
    Calls Try.prog 14 #[.string s, .pointer (some ⟨B, 0, none⟩), .pointer (some ⟨B + 1, 0, none⟩)] w (GrowPost B (acc ++ gath n s.data.toList 6) w) := by
  have HC := Lib.hid (order5_is s w (by omega) hg hw)
  have HI := Lib.hid hi
  have IH := Lib.hid ih
  have ho : ordOk s.data.toList = true := by unfold gd at hg; rw [Bool.and_eq_true] at hg; exact hg.1
  have HA := Lib.hid (show ∀ (j : Nat) b, s.data.toList[j]? = some b → b.toNat < 128 from fun j b hb => lets_ascii b ((ordOk_mem ho).2 b (List.mem_of_getElem? hb)))
  have HL := Lib.hid hl
  clear hg hi hw ih ho hl
  have hs7 : s.size ≤ 6 := by omega
  have HS := Lib.hid hs
  clear hs
  go_enter Try.func14, Try.ntmps14
  go_wp2_with (go_at_call 5; refine HC.out.mono ?_; rintro e w1 ⟨rfl, hb⟩)
  have hk : B ≠ w1.heap.size := by have := HI.out.1; have := hb.size; omega
  have HK := Lib.hid hk
  clear hk
  go_loopg [8] 6 (fun g _ wx => ∃ i : Nat, i + g = 6 ∧ Hid (LoopInv B w1.heap.size n acc s.data.toList w i wx))
  case atStart =>
    refine ⟨0, rfl, World.iter_heap w1 letB 0, ?_, ?_⟩
    · have : gath n s.data.toList 0 = [] := rfl
      rw [this, List.append_nil]
      exact HI.out.below (hb.alloc hb.size _)
    · exact Only.of_below (by have := HI.out.1; omega) (hb.alloc hb.size _)
  case round =>
    obtain ⟨i, hig, hli⟩ := hrel
    cases gk with
    | zero =>
      obtain rfl : i = 6 := by omega
      have hnx := fun ty => run_next_end_at (P := Try.prog) wr w1.heap.size letB 6 ty hli.out.1 (by decide)
      go_wp2
      go_end0
      exact ⟨rfl, hli.out.2.1, hli.out.2.2⟩
    | succ g =>
      have hi6 : i < letB.size := by show i < 6; omega
      obtain ⟨c, hc⟩ : ∃ c : UInt8, letB[i] = c := ⟨_, rfl⟩
      have hc128 := letB_ascii i hi6
      have hnx := fun ty => run_next_ascii_at (P := Try.prog) wr w1.heap.size letB i ty hli.out.1 hi6 hc128
      rw [hc] at hnx hc128
      have HG : Hid (lets[i]? = some c) := by rw [← hc]; exact letB_get i hi6
      clear hc
      cases hcon : s.data.toList.contains c with
      | true =>
        have HR := Lib.hid (fun W => hasRune_is s c W HA.out hcon)
        have HCON := Lib.hid hcon
        clear hcon
        go_wp2_with (go_at_call 15; refine (HR.out _).mono ?_; rintro e w2 ⟨rfl, hb2⟩)
        go_roundg g
        case measure => omega
        case rel =>
          obtain ⟨j1, j2, j3⟩ := hli.out.step (by have := HI.out.1; omega) hb.size hb2
          refine ⟨i + 1, by omega, j1, ?_, j3⟩
          have e : sub n s.data.toList c = [] := by unfold sub; rw [if_pos HCON.out]
          rw [gath_next HG.out, e, List.append_nil]
          exact j2
      | false =>
        have HR := Lib.hid (fun W => hasRune_is s c W HA.out hcon)
        have HCON := Lib.hid hcon
        clear hcon
        have hcv := fun W => conv_letter (List.mem_of_getElem? HG.out) W
        go_wp2_with (go_at_call 15; refine (HR.out _).mono ?_; rintro e w2 ⟨rfl, hb2⟩; obtain ⟨j1, j2, j3⟩ := hli.out.step (by have := HI.out.1; omega) hb.size hb2; have cS := j2.self; unfold growV at cS; have J1 := Lib.hid j1; have J2 := Lib.hid j2; clear j1 j2)
        have hlen : (s ++ (⟨#[c]⟩ : ByteArray)).size = s.size + 1 := by simp; rfl
        have hdat : (s ++ (⟨#[c]⟩ : ByteArray)).data.toList = s.data.toList ++ [c] := by simp
        refine (IH.out (s ++ ⟨#[c]⟩) (acc ++ gath n s.data.toList i) w2 (by have := HS.out; omega) ?_ J2.out).mono ?_
        · have h1 := gath_length n s.data.toList i (by omega)
          have h2 : i * 6 ^ n ≤ 5 * 6 ^ n := Nat.mul_le_mul_right _ (by omega)
          have h3 := HL.out
          rw [Nat.pow_succ] at h3
          rw [List.length_append]
          omega
        · rintro e w3 ⟨rfl, hi3, ho3⟩
          rw [hdat] at hi3
          have e : sub n s.data.toList c = tree lets n (s.data.toList ++ [c]) := by unfold sub; rw [if_neg (by rw [HCON.out]; simp)]
          have hnew : LoopInv B w1.heap.size n acc s.data.toList w (i + 1) w3 :=
            ⟨ho3.iter J1.out (fun e => HK.out e.symm), by rw [gath_next HG.out, e, ← List.append_assoc]; exact hi3, j3.trans ho3⟩
          have HN := Lib.hid hnew
          clear hnew hi3 ho3 e hdat hlen
          go_wp2_with fail
          go_roundg g
          case measure => omega
          case rel => exact ⟨i + 1, by omega, HN.out⟩

theorem grow_any (B : Nat) (n : Nat) : ∀ (s : ByteArray) (acc : List (List UInt8)) (w : World), s.size + n = 7 → acc.length + 6 ^ n ≤ 1000000 → Inv B acc w →
    Calls Try.prog 14 #[.string s, .pointer (some ⟨B, 0, none⟩), .pointer (some ⟨B + 1, 0, none⟩)] w (GrowPost B (acc ++ tree lets n s.data.toList) w) := by
  induction n with
  | zero =>
    intro s acc w hs hl hi
    have hg : gd s.data.toList = false := by
      have : ordOk s.data.toList = false := by
        rw [← Bool.not_eq_true]
        intro h
        have h6 := ordOk_length h
        have := Lib.size_eq s
        omega
      exact (ord_no this).1
    rw [tree_bad hg, List.append_nil]
    exact grow_bad B s acc w (by omega) hi hg
  | succ n ih =>
    intro s acc w hs hl hi
    cases hg : gd s.data.toList with
    | false =>
      rw [tree_bad hg, List.append_nil]
      exact grow_bad B s acc w (by omega) hi hg
    | true =>
      cases hw : wh s.data.toList with
      | true =>
        rw [tree_whole hg hw]
        exact grow_whole B s acc w (by omega) hi (Nat.le_trans (Nat.le_add_right _ _) hl) hg hw
      | false =>
        rw [tree_more hg hw]
        exact grow_more B n s acc w hs hl hi hg hw ih
#print axioms grow_any
end Go.Proofs.Ytogkcpgcefgmkaa.PO
