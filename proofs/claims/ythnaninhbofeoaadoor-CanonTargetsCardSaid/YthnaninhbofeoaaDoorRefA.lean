/- Contracts of the reference's UTF-8: Point, Form, value. -/
import Derived.Test.YthnaninhbofeoaaDoorUtfC
import Derived.Test.YthnaninhbofeoaaDoorRefP
import Derived.Test.YthnaninhbofeoaaDoorOwn
import Derived.BigQuiet
namespace Go.Proofs.YthnaninhbofeoaaDoor
open Go.RowKit

set_option maxHeartbeats 800000 in
theorem rpoint_is (x : Int) (b : Bool) (h : Utf.point x = b) (w : World) :
    Calls Tryd.prog 134 #[.int .i64 x] w fun e w' => e = .returned (.bool b) ∧ w = w' := by
  unfold Utf.point at h
  by_cases h1 : x < 0
  · have hb : b = false := by rw [← h]; simp; omega
    subst hb
    clear h
    go_enter Tryd.func134, Tryd.ntmps134
    go_wp2
    go_ret
    exact ⟨by first | rfl | simp; omega, rfl⟩
  by_cases h2 : x < 55296
  · have hb : b = true := by rw [← h]; simp; omega
    subst hb
    clear h
    go_enter Tryd.func134, Tryd.ntmps134
    go_wp2
    go_ret
    exact ⟨by first | rfl | simp; omega, rfl⟩
  by_cases h3 : x ≤ 57343
  · have hb : b = false := by rw [← h]; simp; omega
    subst hb
    clear h
    go_enter Tryd.func134, Tryd.ntmps134
    go_wp2
    go_ret
    exact ⟨by first | rfl | simp; omega, rfl⟩
  by_cases h4 : x < 1114112
  · have hb : b = true := by rw [← h]; simp; omega
    subst hb
    clear h
    go_enter Tryd.func134, Tryd.ntmps134
    go_wp2
    go_ret
    exact ⟨by first | rfl | simp; omega, rfl⟩
  · have hb : b = false := by rw [← h]; simp; omega
    subst hb
    clear h
    go_enter Tryd.func134, Tryd.ntmps134
    go_wp2
    go_ret
    exact ⟨by first | rfl | simp; omega, rfl⟩

set_option maxHeartbeats 1600000 in
set_option maxRecDepth 100000 in
theorem rform_is (x : Nat) (l : List UInt8) (hl : Utf.form x = l) (hx : x < 1114112) (w : World) :
    Calls Tryd.prog 135 #[.int .i64 (x : Int)] w fun e w' => (∃ v, e = .returned v ∧ OwnBytes w.heap.size v l w') ∧ Below w.heap.size w w' := by
  unfold Utf.form at hl
  have i0 : (0 : Int) ≤ (x : Int) := by omega
  have key : ∀ (k : Nat) (C : Array Value) (W : World), C.toList = Lib.byteCells l → l.length = k → k ≤ 4 → W = w.alloc (.cells C 5) →
      (∃ v, Ending.returned (.slice (some ⟨w.heap.size, 0, none⟩) k k) = .returned v ∧ OwnBytes w.heap.size v l W) ∧ Below w.heap.size w W := by
    intro k C W h1 h2 h3 h4
    subst h4
    have hz : C.size = k := by rw [← Array.length_toList, h1, Lib.byteCells_length, h2]
    refine ⟨⟨_, rfl, Lib.byteCells_length _ ▸ by simp, .inr ⟨w.heap.size, k, C, by rw [h2], Nat.le_refl _, alloc_new _ _, by omega, by unfold maxLen; omega, by omega, ?_⟩⟩, (Below.refl _ _).alloc (Nat.le_refl _) _⟩
    rw [h1, List.take_of_length_le]
    rw [Lib.byteCells_length]; omega
  have HK := Lib.hid key
  clear key
  by_cases h1 : x < 128
  · rw [if_pos h1] at hl
    have i1 : (x : Int) < 128 := by omega
    have HL := Lib.hid hl
    clear hl
    go_enter Tryd.func135, Tryd.ntmps135
    go_wp2
    go_ret
    refine HK.out _ _ _ ?_ (by rw [← HL.out]; rfl) (by omega) rfl
    rw [← HL.out]; simp [Lib.byteCells]; omega
  by_cases h2 : x < 2048
  · rw [if_neg h1, if_pos h2] at hl
    have i1 : 128 ≤ (x : Int) := by omega
    have i2 : (x : Int) < 2048 := by omega
    have HL := Lib.hid hl
    clear hl h1 h2
    go_enter Tryd.func135, Tryd.ntmps135
    go_wp2
    go_ret
    refine HK.out _ _ _ ?_ (by rw [← HL.out]; rfl) (by omega) rfl
    rw [← HL.out]; simp [Lib.byteCells]; omega
  by_cases h3 : x < 65536
  · rw [if_neg h1, if_neg h2, if_pos h3] at hl
    have i1 : 128 ≤ (x : Int) := by omega
    have i2 : 2048 ≤ (x : Int) := by omega
    have i3 : (x : Int) ≤ 65535 := by omega
    have d1 : decide ((x : Int) < 128) = false := by simp; omega
    have d2 : decide ((x : Int) < 2048) = false := by simp; omega
    have d3 : decide ((x : Int) < 65536) = true := by simp; omega
    have HL := Lib.hid hl
    clear hl h1 h2 h3
    go_enter Tryd.func135, Tryd.ntmps135
    go_wp2
    go_ret
    refine HK.out _ _ _ ?_ (by rw [← HL.out]; rfl) (by omega) rfl
    rw [← HL.out]; simp [Lib.byteCells]; omega
  · rw [if_neg h1, if_neg h2, if_neg h3] at hl
    have i1 : 128 ≤ (x : Int) := by omega
    have i2 : 2048 ≤ (x : Int) := by omega
    have i3 : 65535 < (x : Int) := by omega
    have i4 : (x : Int) < 1114112 := by omega
    have d1 : decide ((x : Int) < 128) = false := by simp; omega
    have d2 : decide ((x : Int) < 2048) = false := by simp; omega
    have d3 : decide ((x : Int) < 65536) = false := by simp; omega
    have HL := Lib.hid hl
    clear hl h1 h2 h3
    go_enter Tryd.func135, Tryd.ntmps135
    go_wp2
    go_ret
    refine HK.out _ _ _ ?_ (by rw [← HL.out]; rfl) (by omega) rfl
    rw [← HL.out]; simp [Lib.byteCells]; omega
end Go.Proofs.YthnaninhbofeoaaDoor
