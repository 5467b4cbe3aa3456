/- The walk of 'targets', where one of its bounds does not hold. (Printed by gen_targ.py.) -/
import Derived.Test.YthnaninhbofeoaaGreatDoorKeyC
import Derived.Test.YthnaninhbofeoaaGreatDoorRefN
import Derived.Test.YthnaninhbofeoaaGreatDoorRefM
import Derived.Test.YthnaninhbofeoaaGreatDoorSame
import Derived.Test.YthnaninhbofeoaaGreatDoorTell
namespace Go.Proofs.YthnaninhbofeoaaGreatDoor
open Go.RowKit

theorem below_chain {B : Nat} {W w1 w2 : World} (h : Below B W w1) (hB : B ≤ W.heap.size) (k : Below w1.heap.size w1 w2) : Below B W w2 := h.trans (k.mono (Nat.le_trans hB h.size))
theorem two_boxes (w : World) (A B : Obj) : ((w.alloc A).alloc B).heap[w.heap.size]? = some A ∧ ((w.alloc A).alloc B).heap[w.heap.size + 1]? = some B := by
  refine ⟨(Below.heap_alloc (w.alloc A) B w.heap.size (by simp)).trans (alloc_new w A), ?_⟩
  have := alloc_new (w.alloc A) B
  rw [World.size_alloc] at this
  exact this
theorem Can.read_len (l : List UInt8) : (Can.read l).1.length ≤ 1000000 := by
  unfold Can.read
  simp only []
  split
  · simp
  · rename_i h
    simp only [not_or] at h
    split
    · rw [Can.pairs_length]; omega
    · simp
theorem Can.readKeyL_len (s : ByteArray) (k : Nat) (l : List UInt8) : (Can.readKeyL s k l).2.1.length ≤ 1000000 := by
  induction l generalizing k with
  | nil => simp [Can.readKeyL, Can.badKey]
  | cons c r ih =>
    unfold Can.readKeyL
    split
    · unfold Can.keyAt
      split
      · exact Can.read_len _
      · simp [Can.badKey]
    · exact ih _
theorem Can.readKey_len (s : ByteArray) : (Can.readKey s).2.1.length ≤ 1000000 := Can.readKeyL_len s 0 _
/-- a target that stands in a variable -/
theorem box_cells {w : World} {g : Nat} {j : ByteArray} {p : Option Addr} {n c : Nat} (h : w.heap[g]? = some (.cells #[.string j, .slice p n c] 37)) :
    w.cell? ⟨g, 0, none⟩ = some (.string j) ∧ w.cell? ⟨g, 1, none⟩ = some (.slice p n c) := by
  refine ⟨?_, ?_⟩
  · rw [Lib.cell_of_heap h]; rfl
  · rw [Lib.cell_of_heap h]; rfl

set_option maxHeartbeats 6400000 in
set_option maxRecDepth 100000 in
theorem ctargets_far (aj : ByteArray) (ap : Option Addr) (al : List Lab.L) (an ac : Nat) (bj : ByteArray) (bp : Option Addr) (bl : List Lab.L) (bn bc : Nat) (s : ByteArray) (m : Int) (w : World) (hna : al.length = an) (hnb : bl.length = bn) (hA : Lab.At ap al w) (hB : Lab.At bp bl w) (hFa : Lab.Fit maxLen al) (hFb : Lab.Fit maxLen bl)
    (hla : an ≤ maxLen) (hlb : bn ≤ maxLen) (hja : aj.size ≤ maxLen) (hjb : bj.size ≤ maxLen) (hs : s.size ≤ maxLen) (hm : w.cell? ⟨0, 0, none⟩ = some (.int .i64 m))
    (hfar : Can.short al = false ∨ (Can.short al = true ∧ Can.short bl = false) ∨ (Can.short al = true ∧ Can.short bl = true ∧ (3000 < s.size ∨ (s.size ≤ 3000 ∧ 300 < aj.size) ∨ (s.size ≤ 3000 ∧ aj.size ≤ 300 ∧ 300 < bj.size)))) :
    Calls Tryz.prog 16 #[.agg #[.string aj, .slice ap an ac], .agg #[.string bj, .slice bp bn bc], .string s] w fun e w' => e = .returned (.bool true) ∧ Below w.heap.size w w' := by
  have KA : Hid (∀ w' : World, Below (w.heap.size + 2) ((w.alloc (.cells #[.string aj, .slice ap an ac] 37)).alloc (.cells #[.string bj, .slice bp bn bc] 37)) w' → (w'.cell? ⟨w.heap.size, 0, none⟩ = some (.string aj) ∧ w'.cell? ⟨w.heap.size, 1, none⟩ = some (.slice ap an ac)) ∧ (w'.cell? ⟨w.heap.size + 1, 0, none⟩ = some (.string bj) ∧ w'.cell? ⟨w.heap.size + 1, 1, none⟩ = some (.slice bp bn bc)) ∧ Lab.At ap al w' ∧ Lab.At bp bl w' ∧ w'.cell? ⟨0, 0, none⟩ = some (.int .i64 m)) := by
    show ∀ w' : World, _
    intro w' h
    have tb := two_boxes w (.cells #[.string aj, .slice ap an ac] 37) (.cells #[.string bj, .slice bp bn bc] 37)
    have hsz : ((w.alloc (.cells #[.string aj, .slice ap an ac] 37)).alloc (.cells #[.string bj, .slice bp bn bc] 37)).heap.size = w.heap.size + 2 := by simp
    refine ⟨box_cells (below_kept h tb.1 (by omega)), box_cells (below_kept h tb.2 (by omega)), ((hA.alloc _).alloc _).below h (by omega), ((hB.alloc _).alloc _).below h (by omega), cell_later h (cell_later (((Below.refl _ _).alloc (Nat.le_refl _) _).alloc (by simp) _) hm (Nat.le_refl _)) (by omega)⟩
  have hW0 : Below w.heap.size w ((w.alloc (.cells #[.string aj, .slice ap an ac] 37)).alloc (.cells #[.string bj, .slice bp bn bc] 37)) := ((Below.refl _ _).alloc (Nat.le_refl _) _).alloc (by simp) _
  unfold maxLen at hja hjb hs
  rcases hfar with h1 | ⟨h1, h2⟩ | ⟨h1, h2, h3⟩
  · have HSa := Lib.hid (fun w hA => short_is ap al an ac false h1 w hna hA hFa hla)
    clear h1  hna hnb hFa hFb hla hlb hB hm
    go_enter Tryz.func16, Tryz.ntmps16
    go_wp2_with (go_at_call 26; refine (HSa.out _ ((hA.alloc _).alloc _)).mono ?_)
    first | rintro e w1 rfl hb1 | rintro e w1 ⟨rfl, hb1⟩
    have hB1 : Below (w.heap.size + 2) ((w.alloc (.cells #[.string aj, .slice ap an ac] 37)).alloc (.cells #[.string bj, .slice bp bn bc] 37)) w1 := by first | exact hb1 | (simpa using hb1)
    go_wp2_with fail
    go_ret
    exact ⟨rfl, hW0.trans (hB1.mono (by omega))⟩
  · have HSa := Lib.hid (fun w hA => short_is ap al an ac true h1 w hna hA hFa hla)
    have HSb := Lib.hid (fun w hB => short_is bp bl bn bc false h2 w hnb hB hFb hlb)
    clear h1 h2 hna hnb hFa hFb hla hlb hB hm
    go_enter Tryz.func16, Tryz.ntmps16
    go_wp2_with (go_at_call 26; refine (HSa.out _ ((hA.alloc _).alloc _)).mono ?_)
    first | rintro e w1 rfl hb1 | rintro e w1 ⟨rfl, hb1⟩
    have hB1 : Below (w.heap.size + 2) ((w.alloc (.cells #[.string aj, .slice ap an ac] 37)).alloc (.cells #[.string bj, .slice bp bn bc] 37)) w1 := by first | exact hb1 | (simpa using hb1)
    obtain ⟨⟨a0, a1⟩, ⟨b0, b1⟩, lA, lB, m0⟩ := KA.out _ hB1
    go_wp2_with (go_at_call 26; refine (HSb.out _ lB).mono ?_)
    first | rintro e w2 rfl hb2 | rintro e w2 ⟨rfl, hb2⟩
    have hB2 := below_chain hB1 (by simp) hb2
    clear a0 a1 b0 b1 lA lB m0
    obtain ⟨⟨a0, a1⟩, ⟨b0, b1⟩, lA, lB, m0⟩ := KA.out _ hB2
    go_wp2_with fail
    go_ret
    exact ⟨rfl, hW0.trans (hB2.mono (by omega))⟩
  · have HSa := Lib.hid (fun w hA => short_is ap al an ac true h1 w hna hA hFa hla)
    have HSb := Lib.hid (fun w hB => short_is bp bl bn bc true h2 w hnb hB hFb hlb)
    clear h1 h2 hna hnb hFa hFb hla hlb hB hm
    rcases h3 with h3 | ⟨h3, h4⟩ | ⟨h3, h4, h5⟩
    · go_enter Tryz.func16, Tryz.ntmps16
      go_wp2_with (go_at_call 26; refine (HSa.out _ ((hA.alloc _).alloc _)).mono ?_)
      first | rintro e w1 rfl hb1 | rintro e w1 ⟨rfl, hb1⟩
      have hB1 : Below (w.heap.size + 2) ((w.alloc (.cells #[.string aj, .slice ap an ac] 37)).alloc (.cells #[.string bj, .slice bp bn bc] 37)) w1 := by first | exact hb1 | (simpa using hb1)
      obtain ⟨⟨a0, a1⟩, ⟨b0, b1⟩, lA, lB, m0⟩ := KA.out _ hB1
      go_wp2_with (go_at_call 26; refine (HSb.out _ lB).mono ?_)
      first | rintro e w2 rfl hb2 | rintro e w2 ⟨rfl, hb2⟩
      have hB2 := below_chain hB1 (by simp) hb2
      clear a0 a1 b0 b1 lA lB m0
      obtain ⟨⟨a0, a1⟩, ⟨b0, b1⟩, lA, lB, m0⟩ := KA.out _ hB2
      go_wp2_with fail
      go_ret
      exact ⟨rfl, hW0.trans (hB2.mono (by omega))⟩
    · go_enter Tryz.func16, Tryz.ntmps16
      go_wp2_with (go_at_call 26; refine (HSa.out _ ((hA.alloc _).alloc _)).mono ?_)
      first | rintro e w1 rfl hb1 | rintro e w1 ⟨rfl, hb1⟩
      have hB1 : Below (w.heap.size + 2) ((w.alloc (.cells #[.string aj, .slice ap an ac] 37)).alloc (.cells #[.string bj, .slice bp bn bc] 37)) w1 := by first | exact hb1 | (simpa using hb1)
      obtain ⟨⟨a0, a1⟩, ⟨b0, b1⟩, lA, lB, m0⟩ := KA.out _ hB1
      go_wp2_with (go_at_call 26; refine (HSb.out _ lB).mono ?_)
      first | rintro e w2 rfl hb2 | rintro e w2 ⟨rfl, hb2⟩
      have hB2 := below_chain hB1 (by simp) hb2
      clear a0 a1 b0 b1 lA lB m0
      obtain ⟨⟨a0, a1⟩, ⟨b0, b1⟩, lA, lB, m0⟩ := KA.out _ hB2
      go_wp2_with fail
      go_ret
      exact ⟨rfl, hW0.trans (hB2.mono (by omega))⟩
    · go_enter Tryz.func16, Tryz.ntmps16
      go_wp2_with (go_at_call 26; refine (HSa.out _ ((hA.alloc _).alloc _)).mono ?_)
      first | rintro e w1 rfl hb1 | rintro e w1 ⟨rfl, hb1⟩
      have hB1 : Below (w.heap.size + 2) ((w.alloc (.cells #[.string aj, .slice ap an ac] 37)).alloc (.cells #[.string bj, .slice bp bn bc] 37)) w1 := by first | exact hb1 | (simpa using hb1)
      obtain ⟨⟨a0, a1⟩, ⟨b0, b1⟩, lA, lB, m0⟩ := KA.out _ hB1
      go_wp2_with (go_at_call 26; refine (HSb.out _ lB).mono ?_)
      first | rintro e w2 rfl hb2 | rintro e w2 ⟨rfl, hb2⟩
      have hB2 := below_chain hB1 (by simp) hb2
      clear a0 a1 b0 b1 lA lB m0
      obtain ⟨⟨a0, a1⟩, ⟨b0, b1⟩, lA, lB, m0⟩ := KA.out _ hB2
      go_wp2_with fail
      go_ret
      exact ⟨rfl, hW0.trans (hB2.mono (by omega))⟩
end Go.Proofs.YthnaninhbofeoaaGreatDoor
