/- The closure of pipe.Orders, by induction on the letters still to come: it gathers the good whole orders that begin with its argument. -/
import Derived.Test.YtogkcpgcefgmkaaInv
namespace Go.Proofs.Ytogkcpgcefgmkaa.PO
open Go.RowKit Go.Lib

theorem info9 : (Try.prog.info? 9).map (fun i => (i.zero, i.size, i.bytes)) = some (some (.string ⟨#[]⟩), 1, 16) := by kernel_rfl

theorem order5_is (s : ByteArray) (w : World) (hs : s.size ≤ 1000) {g h : Bool} (hg : gd s.data.toList = g) (hh : wh s.data.toList = h) :
    Calls Try.prog 5 #[.string s] w fun e w' => e = .returned (.tuple #[.bool g, .bool h, .int .i64 (er s.data.toList)]) ∧ Below w.heap.size w w' :=
  (order5 s w hs).mono fun e w' ⟨he, hb⟩ => ⟨by rw [he, hg, hh], hb⟩

theorem slice_of_own {w : World} {B n : Nat} {v : Value} {xs : List Value} (h : w.ownsRow B 9 1 v (n + 1) xs) : ∃ g cp, v = .slice (some ⟨g, 0, none⟩) (n + 1) cp := by
  rcases h.2 with ⟨_, h0⟩ | ⟨g, cap, cur, rfl, _⟩
  · omega
  · exact ⟨g, cap, rfl⟩

def GrowPost (B : Nat) (acc : List (List UInt8)) (w : World) (e : Ending) (w' : World) : Prop := e = .returned (.tuple #[]) ∧ Inv B acc w' ∧ Only B w w'

set_option maxHeartbeats 1000000 in
theorem grow_bad (B : Nat) (s : ByteArray) (acc : List (List UInt8)) (w : World) (hs : s.size ≤ 1000) (hi : Inv B acc w) (hg : gd s.data.toList = false) :
    Calls Try.prog 14 #[.string s, .pointer (some ⟨B, 0, none⟩), .pointer (some ⟨B + 1, 0, none⟩)] w (GrowPost B acc w) := by
  have HC := Lib.hid (order5_is s w hs hg rfl)
  have HI := Lib.hid hi
  clear hg hi
  go_enter Try.func14, Try.ntmps14
  go_wp2_with (go_at_call 5; refine HC.out.mono ?_; rintro e w1 ⟨rfl, hb⟩)
  go_end0
  exact ⟨rfl, HI.out.below hb, Only.of_below (by have := HI.out.1; omega) hb⟩

set_option maxHeartbeats 1000000 in
theorem grow_whole (B : Nat) (s : ByteArray) (acc : List (List UInt8)) (w : World) (hs : s.size ≤ 1000) (hi : Inv B acc w) (hl : acc.length ≤ 1000000) (hg : gd s.data.toList = true) (hw : wh s.data.toList = true) :
    Calls Try.prog 14 #[.string s, .pointer (some ⟨B, 0, none⟩), .pointer (some ⟨B + 1, 0, none⟩)] w (GrowPost B (acc ++ [s.data.toList]) w) := by
  have HC := Lib.hid (order5_is s w hs hg hw)
  have HI := Lib.hid hi
  clear hg hi hw
  obtain ⟨i0, hi, hz0, hz1, hz2⟩ := info_parts info9
  go_enter Try.func14, Try.ntmps14
  go_wp2_with (first | (go_at_call 5; refine HC.out.mono ?_; rintro e w1 ⟨rfl, hb⟩; obtain ⟨h1, h2, v, h3, h4⟩ := HI.out.below hb; have c3 := cell_of_one h3; have f3 := free_of_one h3; have H1 := Lib.hid h1; have H2 := Lib.hid h2; have H3 := Lib.hid h3; clear h2 h3) | (at_builtin; refine wpList_append_own _ rfl _ _ 25 rfl (B + 2) 9 i0 (.string ⟨#[]⟩) 1 16 Try.underlying25 hi hz0 hz1 hz2 rfl (by decide) _ _ _ rfl (h4.alloc _) ⟨w1.heap.size, 0, none⟩ 1 1 [.string s] rfl rfl ?c1 ?c2 ?c3 ?c4 ?c5 ?_))
  case c1 =>
    intro j u hj
    match j, hj with
    | 0, hj => simp at hj; subst hj; simp [Addr.add]
  case c2 => intro u hu; simp at hu; subst hu; rfl
  case c3 => unfold maxLen; omega
  case c4 => omega
  case c5 => simp; omega
  intro v' w2 hown hgrow _
  have R := Inv.push (l := s.data.toList) H1.out H2.out H3.out h4 (by simpa using hown) hgrow
  obtain ⟨hb2, hinv, honly⟩ := R
  have c2 := cell_of_one hb2
  have f2 := free_of_one hb2
  have HV := Lib.hid hinv
  obtain ⟨g, cp, rfl⟩ := slice_of_own hown
  clear hown hgrow h4 hb2 hinv
  go_wp2
  go_end0
  exact ⟨rfl, HV.out, (Only.of_below (by have := HI.out.1; omega) hb).trans honly⟩
end Go.Proofs.Ytogkcpgcefgmkaa.PO
