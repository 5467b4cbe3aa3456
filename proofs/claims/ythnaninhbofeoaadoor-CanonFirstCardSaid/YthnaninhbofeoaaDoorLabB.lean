/- Contracts of label: Name, Metric, Value, one. -/
import Derived.Test.YthnaninhbofeoaaDoorLabA
namespace Go.Proofs.YthnaninhbofeoaaDoor
open Go.RowKit

set_option maxHeartbeats 400000 in
theorem name_is (s : ByteArray) (b : Bool) (h : Lab.named 95 s.data.toList = b) (w : World) (hs : s.size ≤ maxLen) :
    Calls Tryd.prog 90 #[.string s] w fun e w' => e = .returned (.bool b) ∧ w = w' := by
  have HC := Lib.hid (show ∀ w, Calls Tryd.prog 111 #[.string s, .int .u8 95] w fun e w' => e = .returned (.bool b) ∧ w = w' from fun w => named_is s 95 b h w hs)
  clear h
  go_enter Tryd.func90, Tryd.ntmps90
  go_wp2_with (go_at_call 111; refine (HC.out _).mono ?_)
  try rintro e w1 ⟨rfl, rfl⟩
  go_wp2
  go_ret
  exact ⟨rfl, rfl⟩


set_option maxHeartbeats 400000 in
theorem value_is (s : ByteArray) (b : Bool) (h : Lab.value s.data.toList = b) (w : World) (hs : s.size ≤ maxLen) :
    Calls Tryd.prog 91 #[.string s] w fun e w' => e = .returned (.bool b) ∧ w = w' := by
  have hs' := hs
  unfold maxLen at hs
  have hl : s.data.toList.length = s.size := by simp
  by_cases h1 : s.size ≤ 1024
  · have hv : Utf.valid s.data.toList = b := by rw [← h]; unfold Lab.value; rw [decide_eq_true (by omega)]; rfl
    have HC := Lib.hid (fun w => valid_is s b hv w hs')
    clear h hl hv
    go_enter Tryd.func91, Tryd.ntmps91
    go_wp2_with (go_at_call 57; refine (HC.out _).mono ?_)
    try rintro e w1 ⟨rfl, rfl⟩
    go_wp2
    go_ret
    exact ⟨rfl, rfl⟩
  · have hv : b = false := by rw [← h]; unfold Lab.value; rw [decide_eq_false (by omega)]; rfl
    subst hv
    clear h hl
    go_enter Tryd.func91, Tryd.ntmps91
    go_wp2
    go_ret
    exact ⟨rfl, rfl⟩

set_option maxHeartbeats 400000 in
theorem one_is (x : Lab.L) (c : Int) (h : Lab.one x = c) (w : World) (hn : x.n.size ≤ maxLen) (hv : x.v.size ≤ maxLen) :
    Calls Tryd.prog 62 #[.agg #[.string x.n, .string x.v]] w fun e w' => e = .returned (.int .i64 c) ∧ Below w.heap.size w w' := by
  obtain ⟨n, v⟩ := x
  simp only at hn hv
  obtain ⟨b1, h1⟩ : ∃ b, Lab.named 95 n.data.toList = b := ⟨_, rfl⟩
  obtain ⟨b2, h2⟩ : ∃ b, Lab.value v.data.toList = b := ⟨_, rfl⟩
  have H1 := Lib.hid (fun w => name_is n b1 h1 w hn)
  have H2 := Lib.hid (fun w => value_is v b2 h2 w hv)
  have hc : (if b1 = true then (if b2 = true then (0 : Int) else 41) else 40) = c := by rw [← h, ← h1, ← h2]; rfl
  clear h h1 h2
  cases b1 with
  | false =>
    simp at hc
    subst hc
    go_enter Tryd.func62, Tryd.ntmps62
    go_wp2_with (go_at_call 90; refine (H1.out _).mono ?_)
    try rintro e w1 ⟨rfl, rfl⟩
    go_wp2
    go_ret
    exact ⟨rfl, (Below.refl _ _).alloc (Nat.le_refl _) _⟩
  | true =>
    cases b2 with
    | false =>
      simp at hc
      subst hc
      go_enter Tryd.func62, Tryd.ntmps62
      go_wp2_with (go_at_call 90; refine (H1.out _).mono ?_)
      try rintro e w1 ⟨rfl, rfl⟩
      go_wp2_with (go_at_call 91; refine (H2.out _).mono ?_)
      try rintro e w1 ⟨rfl, rfl⟩
      go_wp2
      go_ret
      exact ⟨rfl, (Below.refl _ _).alloc (Nat.le_refl _) _⟩
    | true =>
      simp at hc
      subst hc
      go_enter Tryd.func62, Tryd.ntmps62
      go_wp2_with (go_at_call 90; refine (H1.out _).mono ?_)
      try rintro e w1 ⟨rfl, rfl⟩
      go_wp2_with (go_at_call 91; refine (H2.out _).mono ?_)
      try rintro e w1 ⟨rfl, rfl⟩
      go_wp2
      go_ret
      exact ⟨rfl, (Below.refl _ _).alloc (Nat.le_refl _) _⟩
end Go.Proofs.YthnaninhbofeoaaDoor
