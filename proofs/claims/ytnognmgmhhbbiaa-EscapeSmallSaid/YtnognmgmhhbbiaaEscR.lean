/- Contracts of the reference implementation: Write (printed by gen_ref.py). -/
import Derived.Test.YtnognmgmhhbbiaaEscG
import Derived.Test.YtnognmgmhhbbiaaEscP4
import Derived.Test.YtnognmgmhhbbiaaOwn
namespace Go.Proofs.Ytnognmgmhhbbiaa
open Go.RowKit

theorem below_alloc {w u : World} (h : Below w.heap.size w u) (o : Obj) : Below w.heap.size w (u.alloc o) := h.alloc h.size o
theorem form_take (v : Bool) (s : ByteArray) (k : Nat) (h : k < s.size) (pre : List UInt8) : pre ++ Esc.form v (s.data.toList.take (k + 1)) = pre ++ Esc.form v (s.data.toList.take k) ++ Esc.enc v s[k] := by
  rw [take_snoc s k h, Esc.form_append, List.append_assoc]; simp [Esc.form]
theorem enc_92 (v : Bool) : Esc.enc v 92 = [92, 92] := rfl
theorem enc_10 (v : Bool) : Esc.enc v 10 = [92, 110] := rfl
theorem enc_34 : Esc.enc true 34 = [92, 34] := rfl
theorem enc_plain (v : Bool) (c : UInt8) (h1 : c ≠ 92) (h2 : c ≠ 10) (h3 : ¬ (v = true ∧ c = 34)) : Esc.enc v c = [c] := by
  unfold Esc.enc; rw [if_neg h1, if_neg h2, if_neg h3]

set_option maxHeartbeats 400000 in
theorem refWrite_long (s : ByteArray) (f : Int) (w : World) (hs : 65536 < s.size) (hm : s.size ≤ maxLen) :
    Calls Try.prog 27 #[.string s, .int .i64 f] w fun e w' => e = .returned (.tuple #[.string ⟨#[]⟩, .int .i64 3]) ∧ w = w' := by
  unfold maxLen at hm
  go_enter Try.func27, Try.ntmps27
  go_wp2
  go_ret2
  exact ⟨rfl, rfl⟩

set_option maxHeartbeats 1600000 in
set_option maxRecDepth 100000 in
theorem refWrite_0 (s : ByteArray) (w : World) (hs : s.size ≤ 65536) :
    Calls Try.prog 27 #[.string s, .int .i64 0] w fun e w' => e = .returned (.tuple #[.string ⟨(Esc.form false s.data.toList).toArray⟩, .int .i64 0]) ∧ Below w.heap.size w w' := by
  go_enter Try.func27, Try.ntmps27
  go_wp2
  have hown0 := own_nil w.heap.size w
  have hbl0 := Below.refl w.heap.size w
  go_loopw [7, 6] (fun i v wr => ∃ k : Nat, k ≤ s.size ∧ i = .int .i64 k ∧ OwnBytes w.heap.size v (([] : List UInt8) ++ Esc.form false (s.data.toList.take k)) wr ∧ Below w.heap.size w wr) (fun i _ _ => s.size - (intOf i).toNat)
  case atStart => exact ⟨0, Nat.zero_le _, rfl, by simpa [Esc.form] using hown0, hbl0⟩
  case round =>
    clear hown0 hbl0
    obtain ⟨k, hk, rfl, hown, hbl⟩ := hrel
    have hf := Esc.form_le false (s.data.toList.take k)
    have hl : (s.data.toList.take k).length ≤ k := List.length_take_le _ _
    have hfl : (Esc.form false (s.data.toList.take k)).length ≤ 131072 := by omega
    clear hf hl
    by_cases hlt : k < s.size
    · skip
      by_cases h92 : s[k] = 92
      · have b1 := Esc.beq_yes (n := 92) rfl h92
        have b3 := Esc.beq_no (k := 10) (n := 10) rfl (show s[k] ≠ 10 by rw [h92]; decide)
        have HE := Lib.hid (show Esc.enc false s[k] = [92, 92] by rw [h92]; rfl)
        go_wp2_with (at_builtin; refine wpList_push rfl _ _ rfl _ _ _ _ rfl hown [92, 92] _ _ rfl rfl ?c1 ?c2 ?_)
        case c1 => simp only [List.length_append, List.length_cons, List.length_nil]; omega
        case c2 => exact hbl.size
        intro v' w1 hown' hg
        have hbl' := (below_alloc hbl _).grown hg (by simp; exact Nat.le_succ_of_le hbl.size) (fun j hj => (World.ownsRow.lt hown j hj).1)
        go_wp2
        go_roundw
        case rel => exact ⟨k + 1, by omega, by go_num, by rw [form_take false s k hlt, HE.out]; exact hown', hbl'⟩
        case measure => simp [intOf]; omega
      have b1 := Esc.beq_no (n := 92) rfl h92
      by_cases h10 : s[k] = 10
      · have b3 := Esc.beq_yes (n := 10) rfl h10
        have b2 := Esc.beq_no (k := 34) (n := 34) rfl (show s[k] ≠ 34 by rw [h10]; decide)
        have HE := Lib.hid (show Esc.enc false s[k] = [92, 110] by rw [h10]; rfl)
        go_wp2_with (at_builtin; refine wpList_push rfl _ _ rfl _ _ _ _ rfl hown [92, 110] _ _ rfl rfl ?c1 ?c2 ?_)
        case c1 => simp only [List.length_append, List.length_cons, List.length_nil]; omega
        case c2 => exact hbl.size
        intro v' w1 hown' hg
        have hbl' := (below_alloc hbl _).grown hg (by simp; exact Nat.le_succ_of_le hbl.size) (fun j hj => (World.ownsRow.lt hown j hj).1)
        go_wp2
        go_roundw
        case rel => exact ⟨k + 1, by omega, by go_num, by rw [form_take false s k hlt, HE.out]; exact hown', hbl'⟩
        case measure => simp [intOf]; omega
      have b3 := Esc.beq_no (n := 10) rfl h10
      by_cases h34 : s[k] = 34
      · have b2 := Esc.beq_yes (n := 34) rfl h34
        have HE := Lib.hid (show Esc.enc false s[k] = [34] by rw [h34]; rfl)
        go_wp2_with (at_builtin; refine wpList_push rfl _ _ rfl _ _ _ _ rfl hown [34] _ _ rfl rfl ?c1 ?c2 ?_)
        case c1 => simp only [List.length_append, List.length_cons, List.length_nil]; omega
        case c2 => exact hbl.size
        intro v' w1 hown' hg
        have hbl' := (below_alloc hbl _).grown hg (by simp; exact Nat.le_succ_of_le hbl.size) (fun j hj => (World.ownsRow.lt hown j hj).1)
        go_wp2
        go_roundw
        case rel => exact ⟨k + 1, by omega, by go_num, by rw [form_take false s k hlt, HE.out]; exact hown', hbl'⟩
        case measure => simp [intOf]; omega
      · have b2 := Esc.beq_no (n := 34) rfl h34
        have HE := Lib.hid (enc_plain false s[k] h92 h10 (fun h => h34 h.2))
        go_wp2_with (at_builtin; refine wpList_push rfl _ _ rfl _ _ _ _ rfl hown [s[k]] _ _ rfl rfl ?c1 ?c2 ?_)
        case c1 => simp only [List.length_append, List.length_cons, List.length_nil]; omega
        case c2 => exact hbl.size
        intro v' w1 hown' hg
        have hbl' := (below_alloc hbl _).grown hg (by simp; exact Nat.le_succ_of_le hbl.size) (fun j hj => (World.ownsRow.lt hown j hj).1)
        go_wp2
        go_roundw
        case rel => exact ⟨k + 1, by omega, by go_num, by rw [form_take false s k hlt, HE.out]; exact hown', hbl'⟩
        case measure => simp [intOf]; omega
    · have ht : s.data.toList.take k = s.data.toList := List.take_of_length_le (by rw [len_list]; omega)
      rw [ht] at hown hfl
      clear ht
      have hcv := conv_own hown
      go_wp2
      go_ret2
      exact ⟨rfl, hbl⟩

set_option maxHeartbeats 1600000 in
set_option maxRecDepth 100000 in
theorem refWrite_1 (s : ByteArray) (w : World) (hs : s.size ≤ 65536) :
    Calls Try.prog 27 #[.string s, .int .i64 1] w fun e w' => e = .returned (.tuple #[.string ⟨(Esc.form true s.data.toList).toArray⟩, .int .i64 0]) ∧ Below w.heap.size w w' := by
  go_enter Try.func27, Try.ntmps27
  go_wp2
  have hown0 := own_nil w.heap.size w
  have hbl0 := Below.refl w.heap.size w
  go_loopw [7, 6] (fun i v wr => ∃ k : Nat, k ≤ s.size ∧ i = .int .i64 k ∧ OwnBytes w.heap.size v (([] : List UInt8) ++ Esc.form true (s.data.toList.take k)) wr ∧ Below w.heap.size w wr) (fun i _ _ => s.size - (intOf i).toNat)
  case atStart => exact ⟨0, Nat.zero_le _, rfl, by simpa [Esc.form] using hown0, hbl0⟩
  case round =>
    clear hown0 hbl0
    obtain ⟨k, hk, rfl, hown, hbl⟩ := hrel
    have hf := Esc.form_le true (s.data.toList.take k)
    have hl : (s.data.toList.take k).length ≤ k := List.length_take_le _ _
    have hfl : (Esc.form true (s.data.toList.take k)).length ≤ 131072 := by omega
    clear hf hl
    by_cases hlt : k < s.size
    · skip
      by_cases h92 : s[k] = 92
      · have b1 := Esc.beq_yes (n := 92) rfl h92
        have b3 := Esc.beq_no (k := 10) (n := 10) rfl (show s[k] ≠ 10 by rw [h92]; decide)
        have HE := Lib.hid (show Esc.enc true s[k] = [92, 92] by rw [h92]; rfl)
        go_wp2_with (at_builtin; refine wpList_push rfl _ _ rfl _ _ _ _ rfl hown [92, 92] _ _ rfl rfl ?c1 ?c2 ?_)
        case c1 => simp only [List.length_append, List.length_cons, List.length_nil]; omega
        case c2 => exact hbl.size
        intro v' w1 hown' hg
        have hbl' := (below_alloc hbl _).grown hg (by simp; exact Nat.le_succ_of_le hbl.size) (fun j hj => (World.ownsRow.lt hown j hj).1)
        go_wp2
        go_roundw
        case rel => exact ⟨k + 1, by omega, by go_num, by rw [form_take true s k hlt, HE.out]; exact hown', hbl'⟩
        case measure => simp [intOf]; omega
      have b1 := Esc.beq_no (n := 92) rfl h92
      by_cases h10 : s[k] = 10
      · have b3 := Esc.beq_yes (n := 10) rfl h10
        have b2 := Esc.beq_no (k := 34) (n := 34) rfl (show s[k] ≠ 34 by rw [h10]; decide)
        have HE := Lib.hid (show Esc.enc true s[k] = [92, 110] by rw [h10]; rfl)
        go_wp2_with (at_builtin; refine wpList_push rfl _ _ rfl _ _ _ _ rfl hown [92, 110] _ _ rfl rfl ?c1 ?c2 ?_)
        case c1 => simp only [List.length_append, List.length_cons, List.length_nil]; omega
        case c2 => exact hbl.size
        intro v' w1 hown' hg
        have hbl' := (below_alloc hbl _).grown hg (by simp; exact Nat.le_succ_of_le hbl.size) (fun j hj => (World.ownsRow.lt hown j hj).1)
        go_wp2
        go_roundw
        case rel => exact ⟨k + 1, by omega, by go_num, by rw [form_take true s k hlt, HE.out]; exact hown', hbl'⟩
        case measure => simp [intOf]; omega
      have b3 := Esc.beq_no (n := 10) rfl h10
      by_cases h34 : s[k] = 34
      · have b2 := Esc.beq_yes (n := 34) rfl h34
        have HE := Lib.hid (show Esc.enc true s[k] = [92, 34] by rw [h34]; rfl)
        go_wp2_with (at_builtin; refine wpList_push rfl _ _ rfl _ _ _ _ rfl hown [92, 34] _ _ rfl rfl ?c1 ?c2 ?_)
        case c1 => simp only [List.length_append, List.length_cons, List.length_nil]; omega
        case c2 => exact hbl.size
        intro v' w1 hown' hg
        have hbl' := (below_alloc hbl _).grown hg (by simp; exact Nat.le_succ_of_le hbl.size) (fun j hj => (World.ownsRow.lt hown j hj).1)
        go_wp2
        go_roundw
        case rel => exact ⟨k + 1, by omega, by go_num, by rw [form_take true s k hlt, HE.out]; exact hown', hbl'⟩
        case measure => simp [intOf]; omega
      · have b2 := Esc.beq_no (n := 34) rfl h34
        have HE := Lib.hid (enc_plain true s[k] h92 h10 (fun h => h34 h.2))
        go_wp2_with (at_builtin; refine wpList_push rfl _ _ rfl _ _ _ _ rfl hown [s[k]] _ _ rfl rfl ?c1 ?c2 ?_)
        case c1 => simp only [List.length_append, List.length_cons, List.length_nil]; omega
        case c2 => exact hbl.size
        intro v' w1 hown' hg
        have hbl' := (below_alloc hbl _).grown hg (by simp; exact Nat.le_succ_of_le hbl.size) (fun j hj => (World.ownsRow.lt hown j hj).1)
        go_wp2
        go_roundw
        case rel => exact ⟨k + 1, by omega, by go_num, by rw [form_take true s k hlt, HE.out]; exact hown', hbl'⟩
        case measure => simp [intOf]; omega
    · have ht : s.data.toList.take k = s.data.toList := List.take_of_length_le (by rw [len_list]; omega)
      rw [ht] at hown hfl
      clear ht
      have hcv := conv_own hown
      go_wp2
      go_ret2
      exact ⟨rfl, hbl⟩

set_option maxHeartbeats 1600000 in
set_option maxRecDepth 100000 in
theorem refWrite_2 (s : ByteArray) (w : World) (hs : s.size ≤ 65536) :
    Calls Try.prog 27 #[.string s, .int .i64 2] w fun e w' => e = .returned (.tuple #[.string ⟨(34 :: (Esc.form true s.data.toList ++ [34])).toArray⟩, .int .i64 0]) ∧ Below w.heap.size w w' := by
  go_enter Try.func27, Try.ntmps27
  go_wp2_with (at_builtin; refine wpList_push rfl _ _ rfl w.heap.size _ _ _ rfl (own_nil _ _) [34] _ _ rfl rfl ?c1 ?c2 ?_)
  case c1 => simp
  case c2 => exact Nat.le_refl _
  intro v0 w0 hown0 hg0
  have hbl0 := (below_alloc (Below.refl _ w) _).grown hg0 (by simp) (fun j hj => by cases hj)
  go_wp2
  go_loopw [7, 6] (fun i v wr => ∃ k : Nat, k ≤ s.size ∧ i = .int .i64 k ∧ OwnBytes w.heap.size v ([34] ++ Esc.form true (s.data.toList.take k)) wr ∧ Below w.heap.size w wr) (fun i _ _ => s.size - (intOf i).toNat)
  case atStart => exact ⟨0, Nat.zero_le _, rfl, by simpa [Esc.form] using hown0, hbl0⟩
  case round =>
    clear hown0 hbl0
    obtain ⟨k, hk, rfl, hown, hbl⟩ := hrel
    have hf := Esc.form_le true (s.data.toList.take k)
    have hl : (s.data.toList.take k).length ≤ k := List.length_take_le _ _
    have hfl : (Esc.form true (s.data.toList.take k)).length ≤ 131072 := by omega
    clear hf hl
    by_cases hlt : k < s.size
    · skip
      by_cases h92 : s[k] = 92
      · have b1 := Esc.beq_yes (n := 92) rfl h92
        have b3 := Esc.beq_no (k := 10) (n := 10) rfl (show s[k] ≠ 10 by rw [h92]; decide)
        have HE := Lib.hid (show Esc.enc true s[k] = [92, 92] by rw [h92]; rfl)
        go_wp2_with (at_builtin; refine wpList_push rfl _ _ rfl _ _ _ _ rfl hown [92, 92] _ _ rfl rfl ?c1 ?c2 ?_)
        case c1 => simp only [List.length_append, List.length_cons, List.length_nil]; omega
        case c2 => exact hbl.size
        intro v' w1 hown' hg
        have hbl' := (below_alloc hbl _).grown hg (by simp; exact Nat.le_succ_of_le hbl.size) (fun j hj => (World.ownsRow.lt hown j hj).1)
        go_wp2
        go_roundw
        case rel => exact ⟨k + 1, by omega, by go_num, by rw [form_take true s k hlt, HE.out]; exact hown', hbl'⟩
        case measure => simp [intOf]; omega
      have b1 := Esc.beq_no (n := 92) rfl h92
      by_cases h10 : s[k] = 10
      · have b3 := Esc.beq_yes (n := 10) rfl h10
        have b2 := Esc.beq_no (k := 34) (n := 34) rfl (show s[k] ≠ 34 by rw [h10]; decide)
        have HE := Lib.hid (show Esc.enc true s[k] = [92, 110] by rw [h10]; rfl)
        go_wp2_with (at_builtin; refine wpList_push rfl _ _ rfl _ _ _ _ rfl hown [92, 110] _ _ rfl rfl ?c1 ?c2 ?_)
        case c1 => simp only [List.length_append, List.length_cons, List.length_nil]; omega
        case c2 => exact hbl.size
        intro v' w1 hown' hg
        have hbl' := (below_alloc hbl _).grown hg (by simp; exact Nat.le_succ_of_le hbl.size) (fun j hj => (World.ownsRow.lt hown j hj).1)
        go_wp2
        go_roundw
        case rel => exact ⟨k + 1, by omega, by go_num, by rw [form_take true s k hlt, HE.out]; exact hown', hbl'⟩
        case measure => simp [intOf]; omega
      have b3 := Esc.beq_no (n := 10) rfl h10
      by_cases h34 : s[k] = 34
      · have b2 := Esc.beq_yes (n := 34) rfl h34
        have HE := Lib.hid (show Esc.enc true s[k] = [92, 34] by rw [h34]; rfl)
        go_wp2_with (at_builtin; refine wpList_push rfl _ _ rfl _ _ _ _ rfl hown [92, 34] _ _ rfl rfl ?c1 ?c2 ?_)
        case c1 => simp only [List.length_append, List.length_cons, List.length_nil]; omega
        case c2 => exact hbl.size
        intro v' w1 hown' hg
        have hbl' := (below_alloc hbl _).grown hg (by simp; exact Nat.le_succ_of_le hbl.size) (fun j hj => (World.ownsRow.lt hown j hj).1)
        go_wp2
        go_roundw
        case rel => exact ⟨k + 1, by omega, by go_num, by rw [form_take true s k hlt, HE.out]; exact hown', hbl'⟩
        case measure => simp [intOf]; omega
      · have b2 := Esc.beq_no (n := 34) rfl h34
        have HE := Lib.hid (enc_plain true s[k] h92 h10 (fun h => h34 h.2))
        go_wp2_with (at_builtin; refine wpList_push rfl _ _ rfl _ _ _ _ rfl hown [s[k]] _ _ rfl rfl ?c1 ?c2 ?_)
        case c1 => simp only [List.length_append, List.length_cons, List.length_nil]; omega
        case c2 => exact hbl.size
        intro v' w1 hown' hg
        have hbl' := (below_alloc hbl _).grown hg (by simp; exact Nat.le_succ_of_le hbl.size) (fun j hj => (World.ownsRow.lt hown j hj).1)
        go_wp2
        go_roundw
        case rel => exact ⟨k + 1, by omega, by go_num, by rw [form_take true s k hlt, HE.out]; exact hown', hbl'⟩
        case measure => simp [intOf]; omega
    · have ht : s.data.toList.take k = s.data.toList := List.take_of_length_le (by rw [len_list]; omega)
      rw [ht] at hown hfl
      clear ht
      go_wp2_with (at_builtin; refine wpList_push rfl _ _ rfl _ _ _ _ rfl hown [34] _ _ rfl rfl ?c1 ?c2 ?_)
      case c1 => simp only [List.length_append, List.length_cons, List.length_nil]; omega
      case c2 => exact hbl.size
      intro v' w1 hown' hg
      have hbl' := (below_alloc hbl _).grown hg (by simp; exact Nat.le_succ_of_le hbl.size) (fun j hj => (World.ownsRow.lt hown j hj).1)
      have hcv := conv_own hown'
      go_wp2
      go_ret2
      exact ⟨rfl, hbl'⟩

end Go.Proofs.Ytnognmgmhhbbiaa
