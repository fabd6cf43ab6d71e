/- pipe.Orders: the closure is called once with the empty text, what it has gathered is sorted by the library. -/
import Derived.Test.YtogkcpgcefgmkaaMore
import Derived.Test.YtogkcpgcefgmkaaTrees
import Derived.Laws.EntriesVeiled
import Derived.Sort.OwnSorted
namespace Go.Proofs.Ytogkcpgcefgmkaa.PO
open Go.RowKit Go.Lib Go.Sort

/-- A slice of the call's own that holds the texts l. -/
def ListPost (l : List (List UInt8)) (w : World) (e : Ending) (w' : World) : Prop := ∃ g cap, e = .returned (.slice (some ⟨g, 0, none⟩) l.length cap) ∧ w'.ownsRow w.heap.size 9 1 (.slice (some ⟨g, 0, none⟩) l.length cap) l.length (l.map encStr) ∧ Below w.heap.size w w'

theorem own_weaken {w : World} {B B' n : Nat} {v : Value} {xs : List Value} (h : w.ownsRow B 9 1 v n xs) (hb : B' ≤ B) : w.ownsRow B' 9 1 v n xs := by
  refine ⟨h.1, ?_⟩
  rcases h.2 with hn | ⟨g, cap, cur, hv, hg, rest⟩
  · exact .inl hn
  · exact .inr ⟨g, cap, cur, hv, by omega, rest⟩

theorem inv_start (w : World) : Inv w.heap.size [] ((w.alloc (.cells #[.slice none 0 0] 25)).alloc (.cells #[growV w.heap.size] 37)) := by
  refine ⟨by simp, ?_, .slice none 0 0, ?_, World.ownsRow_nil _ _ _ _⟩
  · have := heap_alloc_new (w.alloc (.cells #[.slice none 0 0] 25)) (.cells #[growV w.heap.size] 37)
    simpa using this
  · exact (Below.heap_alloc _ _ _ (by simp)).trans (heap_alloc_new w _)

set_option maxHeartbeats 2000000 in
theorem orders7_core (T S : List (List UInt8)) (w : World) (hlen : T.length = 240) (hsort : (T.mergeSort fun x y => decide (x ≤ y)) = S)
    (hcall : Calls Try.prog 14 #[.string ⟨#[]⟩, .pointer (some ⟨w.heap.size, 0, none⟩), .pointer (some ⟨w.heap.size + 1, 0, none⟩)] ((w.alloc (.cells #[.slice none 0 0] 25)).alloc (.cells #[growV w.heap.size] 37)) (GrowPost w.heap.size T ((w.alloc (.cells #[.slice none 0 0] 25)).alloc (.cells #[growV w.heap.size] 37)))) :
    Calls Try.prog 7 #[] w (ListPost S w) := by
  have hmf : ∀ (fn : Fn) (first cap : Array Value) (w : World), (Instr.makeFunc fn first cap).run Try.prog w = .ok (.func fn first cap) w := fun _ _ _ _ => rfl
  have HC := Lib.hid hcall
  have HL := Lib.hid hlen
  have HS := Lib.hid hsort
  clear hcall hlen hsort
  go_enter Try.func7, Try.ntmps7
  go_wp2_with fail
  refine HC.out.mono ?_
  rintro e w1 ⟨rfl, hinv, honly⟩
  obtain ⟨h1, h2, v, h3, h4⟩ := hinv
  have hlen := HL.out
  rcases h4.2 with ⟨_, h0⟩ | ⟨g, cap, cur, rfl, hbase, hb, q1, q2, q3, q4⟩
  · omega
  · have hgl : g < w1.heap.size := lt_of_block hb
    have hc := Try.slices_Sort_string g 0 cap T w1 (holds_of_block hb (by simpa using q4)) hgl (by omega)
    have c1 := cell_of_one h3
    have HC2 := Lib.hid hc
    have H3 := Lib.hid h3
    have HB := Lib.hid hb
    clear hc h3 hb hlen h2
    go_wp2_with fail
    refine HC2.out.mono ?_
    rintro e w2 ⟨rfl, nn, os, rfl⟩
    have hgr := grownBy_sorted (w := w1) (g := g) (n := nn) (os := os) (T.mergeSort fun x y => decide (x ≤ y)).toArray
    have hown := ownsRow_sorted (n := nn) (os := os) (ts := T.mergeSort fun x y => decide (x ≤ y)) (List.length_mergeSort T) hbase HB.out q1 q2 q3
    obtain ⟨w2, hw2⟩ : ∃ w2, grow (putRow encStr (Sort.ahead w1 nn) g 0 (T.mergeSort fun x y => decide (x ≤ y)).toArray) os = w2 := ⟨_, rfl⟩
    rw [hw2] at hgr hown ⊢
    have h32 : w2.heap[w.heap.size]? = some (.cells #[.slice (some ⟨g, 0, none⟩) T.length cap] 25 (0, 0)) := (hgr.block w.heap.size (lt_of_block H3.out) (fun e => by have := Option.some.inj e; omega)).trans H3.out
    have c2 := cell_of_one h32
    have HO := Lib.hid hown
    have HG := Lib.hid hgr
    clear hw2 hown hgr h32 c1 q4
    go_wp2
    go_ret
    have hown := HO.out
    rw [HS.out] at hown
    have hl : S.length = T.length := by rw [← HS.out]; exact List.length_mergeSort T
    refine ⟨g, cap, by rw [hl]; rfl, ?_, ?_⟩
    · rw [hl]; exact own_weaken hown (by omega)
    · exact ((((Below.refl _ w).alloc (Nat.le_refl _) _).alloc (by simp) _).trans honly.1).grown HG.out (by omega) (fun j hj => by cases hj; omega)
theorem start_list : ([] : List (List UInt8)) ++ tree lets 7 (⟨#[]⟩ : ByteArray).data.toList = tree lets 7 [] := List.nil_append (tree lets 7 [])
theorem orders7 (w : World) : Calls Try.prog 7 #[] w (ListPost (tree sorts 7 []) w) := by
  refine orders7_core (tree lets 7 []) (tree sorts 7 []) w count_lets sorted_lets ?_
  have h := grow_any w.heap.size 7 ⟨#[]⟩ [] _ rfl (by decide) (inv_start w)
  rw [start_list] at h
  exact h
#print axioms orders7
end Go.Proofs.Ytogkcpgcefgmkaa.PO
