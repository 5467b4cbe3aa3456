/- Contracts of the reference's UTF-8: Point, Form, value. Contracts of the reference's UTF-8: value. (Printed by gen_refb.py.) Contracts of the reference's UTF-8: begins, Read, Check. -/
import Derived.Test.YtpnpgjjbincigaaUtfC
import Derived.Test.YtpnpgjjbincigaaRefP
import Derived.Test.YtpnpgjjbincigaaOwn
import Derived.BigQuiet
namespace Go.Proofs.Ytpnpgjjbincigaa
open Go.RowKit

set_option maxHeartbeats 800000 in
theorem rpoint_is (x : Int) (b : Bool) (h : Utf.point x = b) (w : World) :
    Calls Try.prog 123 #[.int .i64 x] w fun e w' => e = .returned (.bool b) ∧ w = w' := by
  unfold Utf.point at h
  by_cases h1 : x < 0
  · have hb : b = false := by rw [← h]; simp; omega
    subst hb
    clear h
    go_enter Try.func123, Try.ntmps123
    go_wp2
    go_ret
    exact ⟨by first | rfl | simp; omega, rfl⟩
  by_cases h2 : x < 55296
  · have hb : b = true := by rw [← h]; simp; omega
    subst hb
    clear h
    go_enter Try.func123, Try.ntmps123
    go_wp2
    go_ret
    exact ⟨by first | rfl | simp; omega, rfl⟩
  by_cases h3 : x ≤ 57343
  · have hb : b = false := by rw [← h]; simp; omega
    subst hb
    clear h
    go_enter Try.func123, Try.ntmps123
    go_wp2
    go_ret
    exact ⟨by first | rfl | simp; omega, rfl⟩
  by_cases h4 : x < 1114112
  · have hb : b = true := by rw [← h]; simp; omega
    subst hb
    clear h
    go_enter Try.func123, Try.ntmps123
    go_wp2
    go_ret
    exact ⟨by first | rfl | simp; omega, rfl⟩
  · have hb : b = false := by rw [← h]; simp; omega
    subst hb
    clear h
    go_enter Try.func123, Try.ntmps123
    go_wp2
    go_ret
    exact ⟨by first | rfl | simp; omega, rfl⟩

set_option maxHeartbeats 1600000 in
set_option maxRecDepth 100000 in
theorem rform_is (x : Nat) (l : List UInt8) (hl : Utf.form x = l) (hx : x < 1114112) (w : World) :
    Calls Try.prog 124 #[.int .i64 (x : Int)] w fun e w' => (∃ v, e = .returned v ∧ OwnBytes w.heap.size v l w') ∧ Below w.heap.size w w' := by
  unfold Utf.form at hl
  have i0 : (0 : Int) ≤ (x : Int) := by omega
  have key : ∀ (k : Nat) (C : Array Value) (W : World), C.toList = Lib.byteCells l → l.length = k → k ≤ 4 → W = w.alloc (.cells C 5) →
      (∃ v, Ending.returned (.slice (some ⟨w.heap.size, 0, none⟩) k k) = .returned v ∧ OwnBytes w.heap.size v l W) ∧ Below w.heap.size w W := by
    intro k C W h1 h2 h3 h4
    subst h4
    have hz : C.size = k := by rw [← Array.length_toList, h1, Lib.byteCells_length, h2]
    refine ⟨⟨_, rfl, Lib.byteCells_length _ ▸ by simp, .inr ⟨w.heap.size, k, C, by rw [h2], Nat.le_refl _, alloc_new _ _, by omega, by unfold maxLen; omega, by omega, ?_⟩⟩, (Below.refl _ _).alloc (Nat.le_refl _) _⟩
    rw [h1, List.take_of_length_le]
    rw [Lib.byteCells_length]; omega
  have HK := Lib.hid key
  clear key
  by_cases h1 : x < 128
  · rw [if_pos h1] at hl
    have i1 : (x : Int) < 128 := by omega
    have HL := Lib.hid hl
    clear hl
    go_enter Try.func124, Try.ntmps124
    go_wp2
    go_ret
    refine HK.out _ _ _ ?_ (by rw [← HL.out]; rfl) (by omega) rfl
    rw [← HL.out]; simp [Lib.byteCells]; omega
  by_cases h2 : x < 2048
  · rw [if_neg h1, if_pos h2] at hl
    have i1 : 128 ≤ (x : Int) := by omega
    have i2 : (x : Int) < 2048 := by omega
    have HL := Lib.hid hl
    clear hl h1 h2
    go_enter Try.func124, Try.ntmps124
    go_wp2
    go_ret
    refine HK.out _ _ _ ?_ (by rw [← HL.out]; rfl) (by omega) rfl
    rw [← HL.out]; simp [Lib.byteCells]; omega
  by_cases h3 : x < 65536
  · rw [if_neg h1, if_neg h2, if_pos h3] at hl
    have i1 : 128 ≤ (x : Int) := by omega
    have i2 : 2048 ≤ (x : Int) := by omega
    have i3 : (x : Int) ≤ 65535 := by omega
    have d1 : decide ((x : Int) < 128) = false := by simp; omega
    have d2 : decide ((x : Int) < 2048) = false := by simp; omega
    have d3 : decide ((x : Int) < 65536) = true := by simp; omega
    have HL := Lib.hid hl
    clear hl h1 h2 h3
    go_enter Try.func124, Try.ntmps124
    go_wp2
    go_ret
    refine HK.out _ _ _ ?_ (by rw [← HL.out]; rfl) (by omega) rfl
    rw [← HL.out]; simp [Lib.byteCells]; omega
  · rw [if_neg h1, if_neg h2, if_neg h3] at hl
    have i1 : 128 ≤ (x : Int) := by omega
    have i2 : 2048 ≤ (x : Int) := by omega
    have i3 : 65535 < (x : Int) := by omega
    have i4 : (x : Int) < 1114112 := by omega
    have d1 : decide ((x : Int) < 128) = false := by simp; omega
    have d2 : decide ((x : Int) < 2048) = false := by simp; omega
    have d3 : decide ((x : Int) < 65536) = false := by simp; omega
    have HL := Lib.hid hl
    clear hl h1 h2 h3
    go_enter Try.func124, Try.ntmps124
    go_wp2
    go_ret
    refine HK.out _ _ _ ?_ (by rw [← HL.out]; rfl) (by omega) rfl
    rw [← HL.out]; simp [Lib.byteCells]; omega
end Go.Proofs.Ytpnpgjjbincigaa
namespace Go.Proofs.Ytpnpgjjbincigaa
open Go.RowKit

theorem Utf.list1 (s : ByteArray) (h : s.size = 1) : s.data.toList = [s[0]] := by
  have e := Utf.drop_cons s 0 (by omega)
  rw [List.drop_zero, List.drop_eq_nil_iff.2 (by simp; omega)] at e
  exact e
theorem Utf.list2 (s : ByteArray) (h : s.size = 2) : s.data.toList = [s[0], s[1]] := by
  have e := Utf.drop_cons s 0 (by omega)
  rw [List.drop_zero, Utf.drop_cons s 1 (by omega), List.drop_eq_nil_iff.2 (by simp; omega)] at e
  exact e
theorem Utf.list3 (s : ByteArray) (h : s.size = 3) : s.data.toList = [s[0], s[1], s[2]] := by
  have e := Utf.drop_cons s 0 (by omega)
  rw [List.drop_zero, Utf.drop_cons s 1 (by omega), Utf.drop_cons s 2 (by omega), List.drop_eq_nil_iff.2 (by simp; omega)] at e
  exact e
theorem Utf.list4 (s : ByteArray) (h : s.size = 4) : s.data.toList = [s[0], s[1], s[2], s[3]] := by
  have e := Utf.drop_cons s 0 (by omega)
  rw [List.drop_zero, Utf.drop_cons s 1 (by omega), Utf.drop_cons s 2 (by omega), Utf.drop_cons s 3 (by omega), List.drop_eq_nil_iff.2 (by simp; omega)] at e
  exact e
theorem Utf.point_lt (x : Int) (h : Utf.point x = true) : 0 ≤ x ∧ x < 1114112 := by
  unfold Utf.point at h
  simp only [Bool.or_eq_true, Bool.and_eq_true, decide_eq_true_eq] at h
  omega
theorem Utf.isForm_size (l : List UInt8) (h : l.length = 0 ∨ 4 < l.length) : Utf.isForm l = false := by
  unfold Utf.isForm
  have := Utf.rdLen_le l
  simp only [Bool.and_eq_false_iff, decide_eq_false_iff_not, beq_eq_false_iff_ne, ne_eq]
  omega
theorem Utf.len_is (s : ByteArray) : s.data.toList.length = s.size := by simp
theorem mk_list (l : List UInt8) : (ByteArray.mk l.toArray).toList = l := by rw [ByteArray.toList_eq]

set_option maxHeartbeats 3200000 in
set_option maxRecDepth 100000 in
theorem rvalue_is (s : ByteArray) (b : Bool) (h : Utf.isForm s.data.toList = b) (w : World) (hs : s.size ≤ maxLen) :
    Calls Try.prog 114 #[.string s] w fun e w' => (∃ x : Int, e = .returned (.int .i64 x) ∧ decide (0 ≤ x) = b) ∧ Below w.heap.size w w' := by
  unfold maxLen at hs
  have form : ∀ (X : Int) (l : List UInt8), Utf.point X = true → Utf.form X.toNat = l → ∀ w, Calls Try.prog 124 #[.int .i64 X] w fun e w' => (∃ v, e = .returned v ∧ OwnBytes w.heap.size v l w') ∧ Below w.heap.size w w' := by
    intro X l hp hl w
    have := Utf.point_lt X hp
    have c := rform_is X.toNat l hl (by omega) w
    rwa [Int.toNat_of_nonneg this.1] at c
  by_cases h1 : s.size = 1
  · have hL := Utf.list1 s h1
    rw [hL, Utf.isForm_1] at h
    have k0 : (s[0].toNat : Int) < 256 := by have := s[0].toNat_lt; omega
    have c1 : ((s.size : Int) == 1) = true := by simp; omega
    have c2 : ((s.size : Int) == 2) = false := by simp; omega
    have c3 : ((s.size : Int) == 3) = false := by simp; omega
    have c4 : ((s.size : Int) == 4) = false := by simp; omega
    have b0 : 0 < s.size := by omega
    obtain ⟨X, hX⟩ : ∃ X, Utf.num [s[0]] = X := ⟨_, rfl⟩
    have hX0 := hX
    unfold Utf.num at hX0
    rw [hX] at h
    cases hp : Utf.point X with
    | false =>
      rw [hp] at h
      obtain rfl : b = false := by rw [← h]; rfl
      have HP := Lib.hid hp
      rw [← hX] at HP
      have HP : ∀ w, Calls Try.prog 123 #[.int .i64 (Utf.num [s[0]])] w fun e w' => e = .returned (.bool false) ∧ w = w' := fun w => rpoint_is _ _ HP.out w
      unfold Utf.num at HP
      have HQ := Lib.hid HP
      clear h hp hX0 HP form hL 
      go_enter Try.func114, Try.ntmps114
      go_wp2_with (go_at_call 123; refine (HQ.out _).mono ?_)
      try rintro e w1 ⟨rfl, rfl⟩
      go_wp2_with fail
      go_ret
      exact ⟨⟨-1, rfl, rfl⟩, Below.refl _ _⟩
    | true =>
      rw [hp, Bool.true_and] at h
      obtain ⟨l, hl⟩ : ∃ l, Utf.form X.toNat = l := ⟨_, rfl⟩
      rw [hl] at h
      have hx0 := (Utf.point_lt X hp).1
      have hq : (l == s.toList) = b := by rw [ByteArray.toList_eq, ← h, hL]
      have HF := Lib.hid (form X l hp hl)
      have HP := Lib.hid (fun w => rpoint_is X true hp w)
      subst hX
      unfold Utf.num at HF HP hx0
      clear h hp hl form hL hX0 
      go_enter Try.func114, Try.ntmps114
      go_wp2_with (go_at_call 123; refine (HP.out _).mono ?_)
      try rintro e w1 ⟨rfl, rfl⟩
      go_wp2_with (go_at_call 124; refine (HF.out _).mono ?_)
      first | rintro e w1 v rfl hown hb1 | rintro e w1 ⟨⟨v, rfl, hown⟩, hb1⟩
      have hcv := conv_own hown
      cases b
      · go_wp2_with fail
        go_ret
        exact ⟨⟨-1, rfl, rfl⟩, hb1⟩
      · go_wp2_with fail
        go_ret
        exact ⟨⟨_, rfl, decide_eq_true hx0⟩, hb1⟩
  by_cases h2 : s.size = 2
  · have hL := Utf.list2 s h2
    rw [hL, Utf.isForm_2] at h
    have k0 : (s[0].toNat : Int) < 256 := by have := s[0].toNat_lt; omega
    have k1 : (s[1].toNat : Int) < 256 := by have := s[1].toNat_lt; omega
    have c1 : ((s.size : Int) == 1) = false := by simp; omega
    have c2 : ((s.size : Int) == 2) = true := by simp; omega
    have c3 : ((s.size : Int) == 3) = false := by simp; omega
    have c4 : ((s.size : Int) == 4) = false := by simp; omega
    have b0 : 0 < s.size := by omega
    have b1 : 1 < s.size := by omega
    obtain ⟨X, hX⟩ : ∃ X, Utf.num [s[0], s[1]] = X := ⟨_, rfl⟩
    have hX0 := hX
    unfold Utf.num at hX0
    rw [hX] at h
    cases hp : Utf.point X with
    | false =>
      rw [hp] at h
      obtain rfl : b = false := by rw [← h]; rfl
      have HP := Lib.hid hp
      rw [← hX] at HP
      have HP : ∀ w, Calls Try.prog 123 #[.int .i64 (Utf.num [s[0], s[1]])] w fun e w' => e = .returned (.bool false) ∧ w = w' := fun w => rpoint_is _ _ HP.out w
      unfold Utf.num at HP
      have HQ := Lib.hid HP
      clear h hp hX0 HP form hL h1
      go_enter Try.func114, Try.ntmps114
      go_wp2_with fail
      go_quiet (fail)
      go_wp2_with (go_at_call 123; refine (HQ.out _).mono ?_)
      try rintro e w1 ⟨rfl, rfl⟩
      go_wp2_with fail
      go_ret
      exact ⟨⟨-1, rfl, rfl⟩, below_drewN (Below.refl _ _) _⟩
    | true =>
      rw [hp, Bool.true_and] at h
      obtain ⟨l, hl⟩ : ∃ l, Utf.form X.toNat = l := ⟨_, rfl⟩
      rw [hl] at h
      have hx0 := (Utf.point_lt X hp).1
      have hq : (l == s.toList) = b := by rw [ByteArray.toList_eq, ← h, hL]
      have HF := Lib.hid (form X l hp hl)
      have HP := Lib.hid (fun w => rpoint_is X true hp w)
      subst hX
      unfold Utf.num at HF HP hx0
      clear h hp hl form hL hX0 h1
      go_enter Try.func114, Try.ntmps114
      go_wp2_with fail
      go_quiet (fail)
      go_wp2_with (go_at_call 123; refine (HP.out _).mono ?_)
      try rintro e w1 ⟨rfl, rfl⟩
      go_wp2_with (go_at_call 124; refine (HF.out _).mono ?_)
      first | rintro e w1 v rfl hown hb1 | rintro e w1 ⟨⟨v, rfl, hown⟩, hb1⟩
      have hb1 : Below w.heap.size w w1 := (below_drewN (Below.refl _ _) nq).trans hb1
      have hcv := conv_own hown
      cases b
      · go_wp2_with fail
        go_ret
        exact ⟨⟨-1, rfl, rfl⟩, hb1⟩
      · go_wp2_with fail
        go_ret
        exact ⟨⟨_, rfl, decide_eq_true hx0⟩, hb1⟩
  by_cases h3 : s.size = 3
  · have hL := Utf.list3 s h3
    rw [hL, Utf.isForm_3] at h
    have k0 : (s[0].toNat : Int) < 256 := by have := s[0].toNat_lt; omega
    have k1 : (s[1].toNat : Int) < 256 := by have := s[1].toNat_lt; omega
    have k2 : (s[2].toNat : Int) < 256 := by have := s[2].toNat_lt; omega
    have c1 : ((s.size : Int) == 1) = false := by simp; omega
    have c2 : ((s.size : Int) == 2) = false := by simp; omega
    have c3 : ((s.size : Int) == 3) = true := by simp; omega
    have c4 : ((s.size : Int) == 4) = false := by simp; omega
    have b0 : 0 < s.size := by omega
    have b1 : 1 < s.size := by omega
    have b2 : 2 < s.size := by omega
    obtain ⟨X, hX⟩ : ∃ X, Utf.num [s[0], s[1], s[2]] = X := ⟨_, rfl⟩
    have hX0 := hX
    unfold Utf.num at hX0
    rw [hX] at h
    cases hp : Utf.point X with
    | false =>
      rw [hp] at h
      obtain rfl : b = false := by rw [← h]; rfl
      have HP := Lib.hid hp
      rw [← hX] at HP
      have HP : ∀ w, Calls Try.prog 123 #[.int .i64 (Utf.num [s[0], s[1], s[2]])] w fun e w' => e = .returned (.bool false) ∧ w = w' := fun w => rpoint_is _ _ HP.out w
      unfold Utf.num at HP
      have HQ := Lib.hid HP
      clear h hp hX0 HP form hL h1 h2
      go_enter Try.func114, Try.ntmps114
      go_wp2_with fail
      go_quiet (fail)
      go_wp2_with (go_at_call 123; refine (HQ.out _).mono ?_)
      try rintro e w1 ⟨rfl, rfl⟩
      go_wp2_with fail
      go_ret
      exact ⟨⟨-1, rfl, rfl⟩, below_drewN (Below.refl _ _) _⟩
    | true =>
      rw [hp, Bool.true_and] at h
      obtain ⟨l, hl⟩ : ∃ l, Utf.form X.toNat = l := ⟨_, rfl⟩
      rw [hl] at h
      have hx0 := (Utf.point_lt X hp).1
      have hq : (l == s.toList) = b := by rw [ByteArray.toList_eq, ← h, hL]
      have HF := Lib.hid (form X l hp hl)
      have HP := Lib.hid (fun w => rpoint_is X true hp w)
      subst hX
      unfold Utf.num at HF HP hx0
      clear h hp hl form hL hX0 h1 h2
      go_enter Try.func114, Try.ntmps114
      go_wp2_with fail
      go_quiet (fail)
      go_wp2_with (go_at_call 123; refine (HP.out _).mono ?_)
      try rintro e w1 ⟨rfl, rfl⟩
      go_wp2_with (go_at_call 124; refine (HF.out _).mono ?_)
      first | rintro e w1 v rfl hown hb1 | rintro e w1 ⟨⟨v, rfl, hown⟩, hb1⟩
      have hb1 : Below w.heap.size w w1 := (below_drewN (Below.refl _ _) nq).trans hb1
      have hcv := conv_own hown
      cases b
      · go_wp2_with fail
        go_ret
        exact ⟨⟨-1, rfl, rfl⟩, hb1⟩
      · go_wp2_with fail
        go_ret
        exact ⟨⟨_, rfl, decide_eq_true hx0⟩, hb1⟩
  by_cases h4 : s.size = 4
  · have hL := Utf.list4 s h4
    rw [hL, Utf.isForm_4] at h
    have k0 : (s[0].toNat : Int) < 256 := by have := s[0].toNat_lt; omega
    have k1 : (s[1].toNat : Int) < 256 := by have := s[1].toNat_lt; omega
    have k2 : (s[2].toNat : Int) < 256 := by have := s[2].toNat_lt; omega
    have k3 : (s[3].toNat : Int) < 256 := by have := s[3].toNat_lt; omega
    have c1 : ((s.size : Int) == 1) = false := by simp; omega
    have c2 : ((s.size : Int) == 2) = false := by simp; omega
    have c3 : ((s.size : Int) == 3) = false := by simp; omega
    have c4 : ((s.size : Int) == 4) = true := by simp; omega
    have b0 : 0 < s.size := by omega
    have b1 : 1 < s.size := by omega
    have b2 : 2 < s.size := by omega
    have b3 : 3 < s.size := by omega
    obtain ⟨X, hX⟩ : ∃ X, Utf.num [s[0], s[1], s[2], s[3]] = X := ⟨_, rfl⟩
    have hX0 := hX
    unfold Utf.num at hX0
    rw [hX] at h
    cases hp : Utf.point X with
    | false =>
      rw [hp] at h
      obtain rfl : b = false := by rw [← h]; rfl
      have HP := Lib.hid hp
      rw [← hX] at HP
      have HP : ∀ w, Calls Try.prog 123 #[.int .i64 (Utf.num [s[0], s[1], s[2], s[3]])] w fun e w' => e = .returned (.bool false) ∧ w = w' := fun w => rpoint_is _ _ HP.out w
      unfold Utf.num at HP
      have HQ := Lib.hid HP
      clear h hp hX0 HP form hL h1 h2 h3
      go_enter Try.func114, Try.ntmps114
      go_wp2_with fail
      go_quiet (fail)
      go_wp2_with (go_at_call 123; refine (HQ.out _).mono ?_)
      try rintro e w1 ⟨rfl, rfl⟩
      go_wp2_with fail
      go_ret
      exact ⟨⟨-1, rfl, rfl⟩, below_drewN (Below.refl _ _) _⟩
    | true =>
      rw [hp, Bool.true_and] at h
      obtain ⟨l, hl⟩ : ∃ l, Utf.form X.toNat = l := ⟨_, rfl⟩
      rw [hl] at h
      have hx0 := (Utf.point_lt X hp).1
      have hq : (l == s.toList) = b := by rw [ByteArray.toList_eq, ← h, hL]
      have HF := Lib.hid (form X l hp hl)
      have HP := Lib.hid (fun w => rpoint_is X true hp w)
      subst hX
      unfold Utf.num at HF HP hx0
      clear h hp hl form hL hX0 h1 h2 h3
      go_enter Try.func114, Try.ntmps114
      go_wp2_with fail
      go_quiet (fail)
      go_wp2_with (go_at_call 123; refine (HP.out _).mono ?_)
      try rintro e w1 ⟨rfl, rfl⟩
      go_wp2_with (go_at_call 124; refine (HF.out _).mono ?_)
      first | rintro e w1 v rfl hown hb1 | rintro e w1 ⟨⟨v, rfl, hown⟩, hb1⟩
      have hb1 : Below w.heap.size w w1 := (below_drewN (Below.refl _ _) nq).trans hb1
      have hcv := conv_own hown
      cases b
      · go_wp2_with fail
        go_ret
        exact ⟨⟨-1, rfl, rfl⟩, hb1⟩
      · go_wp2_with fail
        go_ret
        exact ⟨⟨_, rfl, decide_eq_true hx0⟩, hb1⟩
  · have hb : b = false := by rw [← h]; exact Utf.isForm_size _ (by rw [Utf.len_is]; omega)
    subst hb
    have c1 : ((s.size : Int) == 1) = false := by simp; omega
    have c2 : ((s.size : Int) == 2) = false := by simp; omega
    have c3 : ((s.size : Int) == 3) = false := by simp; omega
    have c4 : ((s.size : Int) == 4) = false := by simp; omega
    have HP := Lib.hid (fun w => rpoint_is (-1) false (by decide) w)
    clear h form h1 h2 h3 h4
    go_enter Try.func114, Try.ntmps114
    go_wp2_with (go_at_call 123; refine (HP.out _).mono ?_)
    try rintro e w1 ⟨rfl, rfl⟩
    go_wp2_with fail
    go_ret
    exact ⟨⟨-1, rfl, rfl⟩, Below.refl _ _⟩
end Go.Proofs.Ytpnpgjjbincigaa
namespace Go.Proofs.Ytpnpgjjbincigaa
open Go.RowKit

theorem conv_lit (c : UInt8) (z : Int) (hz : z = c.toNat) (W : World) :
    (convert 54 9 (.slice (some ⟨W.heap.size, 0, none⟩) 1 1)).run Try.prog (W.alloc (.cells #[.int .u8 z] 5)) = .ok (.string ⟨#[c]⟩) (W.alloc (.cells #[.int .u8 z] 5)) := by
  subst hz
  refine conv_own (B := W.heap.size) (l := [c]) ⟨rfl, .inr ⟨W.heap.size, 1, _, rfl, Nat.le_refl _, alloc_new _ _, by simp, by unfold maxLen; omega, rfl, rfl⟩⟩

theorem size1 (c : UInt8) : (ByteArray.mk #[c]).size = 1 := rfl

def strLen : Value → Nat
  | .string u => u.size
  | _ => 0

set_option maxHeartbeats 1600000 in
set_option maxRecDepth 100000 in
theorem begins_any (s : ByteArray) (hs : s.size ≤ 3) (w : World) :
    Calls Try.prog 115 #[.string s] w fun e w' => (∃ b, e = .returned (.bool b)) ∧ Below w.heap.size w w' := by
  have V := Lib.hid (fun (t : ByteArray) (h : t.size ≤ 4) w => rvalue_is t _ rfl w (by unfold maxLen; omega))
  have C0 := conv_lit 128 128 rfl
  have C1 := conv_lit 191 191 rfl
  have hs' : (s.size : Int) ≤ 3 := by omega
  go_enter Try.func115, Try.ntmps115
  go_wp2_with fail
  go_loopw [3] (fun i wr => ∃ k : Nat, s.size + 1 ≤ k ∧ k ≤ 5 ∧ i = .int .i64 k ∧ Below w.heap.size w wr) (fun i _ => 5 - (intOf i).toNat)
  case atStart => exact ⟨s.size + 1, Nat.le_refl _, by omega, by go_num, Below.refl _ _⟩
  case round =>
    obtain ⟨k, hk1, hk2, rfl, hb⟩ := hrel
    by_cases hlt : k < 5
    · have d4 : decide ((k : Int) ≤ 4) = true := by simp; omega
      go_wp2_with fail
      go_loopw [4] (fun i wr => ∃ j : Nat, j ≤ 2 ∧ i = .int .i64 j ∧ Below w.heap.size w wr) (fun i _ => 2 - (intOf i).toNat)
      case atStart => exact ⟨0, by omega, rfl, hb⟩
      case round =>
        obtain ⟨j, hj, rfl, hb⟩ := hrel
        have hsz := hb.size
        by_cases hj2 : j < 2
        · obtain rfl | rfl : j = 0 ∨ j = 1 := by omega
          all_goals
            go_wp2_with fail
            go_loopw [5] (fun t wr => ∃ u : ByteArray, t = .string u ∧ s.size + 1 ≤ u.size ∧ u.size ≤ k ∧ Below w.heap.size w wr) (fun t _ => k - strLen t)
            case atStart => exact ⟨_, rfl, by simp [size1], by simp [size1]; omega, hb.alloc hsz _⟩
            case round =>
              obtain ⟨u, rfl, hu1, hu2, hb⟩ := hrel
              have hsz := hb.size
              by_cases hlt2 : u.size < k
              · go_wp2_with fail
                go_roundw
                case rel => exact ⟨_, rfl, by simp; omega, by simp [size1]; omega, hb.alloc hsz _⟩
                case measure => simp [strLen, size1]; omega
              · have hq : u.size = k := by omega
                have HV := Lib.hid (fun w => V.out u (by omega) w)
                go_wp2_with (go_at_call 114; refine (HV.out _).mono ?_)
                first | rintro e w1 x rfl hx hb1 | rintro e w1 ⟨⟨x, rfl, hx⟩, hb1⟩
                have hb2 := below_next hb hb1
                clear hx
                by_cases h0 : 0 ≤ x
                · go_wp2_with fail
                  go_ret
                  exact ⟨⟨_, rfl⟩, hb2⟩
                · go_wp2_with fail
                  go_roundw
                  case rel => first | exact ⟨1, by omega, rfl, hb2⟩ | exact ⟨2, by omega, rfl, hb2⟩
                  case measure => simp [intOf]
        · go_wp2_with fail
          go_roundw
          case rel => exact ⟨k + 1, by omega, by omega, by go_num, hb⟩
          case measure => simp [intOf]; omega
    · go_wp2_with fail
      go_ret
      exact ⟨⟨_, rfl⟩, hb⟩

set_option maxHeartbeats 1600000 in
set_option maxRecDepth 100000 in
theorem rread_any (s : ByteArray) (at_ r : Nat) (hr : Utf.rdLen (s.data.toList.drop at_) = r) (h : at_ < s.size) (hs : s.size ≤ 4294967280) (w : World) :
    Calls Try.prog 107 #[.string s, .int .i64 at_] w fun e w' =>
      (∃ x n er : Int, e = .returned (.tuple #[.int .i64 x, .int .i64 n, .int .i64 er]) ∧ ((0 < r ∧ n = r ∧ er = 0) ∨ (r = 0 ∧ er ≠ 0))) ∧ Below w.heap.size w w' := by
  have hsub : ∀ n, 1 ≤ n → at_ + n ≤ s.size → (Utf.isForm (s.extract at_ (at_ + n)).data.toList = decide (r = n)) := by
    intro n h1 h2
    have e : (s.extract at_ (at_ + n)).data.toList = (s.data.toList.drop at_).take n := by
      simp [ByteArray.data_extract, List.extract_eq_take_drop]
    have hl : ((s.data.toList.drop at_).take n).length = n := by simp; omega
    rw [e]
    unfold Utf.isForm
    rw [hl, decide_eq_true h1, Bool.true_and, Bool.eq_iff_iff, beq_iff_eq, decide_eq_true_eq, Utf.rdLen_take _ _ h1, hr]
  have hr4 := Utf.rdLen_le (s.data.toList.drop at_)
  have hrl : r ≤ s.size - at_ := by
    rcases Nat.eq_zero_or_pos r with h0 | h0
    · omega
    · have := (Utf.rdLen_take (s.data.toList.drop at_) r h0).2 hr
      have h2 : Utf.rdLen ((s.data.toList.drop at_).take r) ≤ ((s.data.toList.drop at_).take r).length := Utf.rdLen_len _
      rw [this] at h2
      simp at h2; omega
  rw [hr] at hr4
  have V := Lib.hid (fun (n : Nat) (h1 : 1 ≤ n) (h2 : at_ + n ≤ s.size) w => rvalue_is (s.extract at_ (at_ + n)) _ (hsub n h1 h2) w (by simp; unfold maxLen; omega))
  have B := Lib.hid (fun (h : s.size - at_ ≤ 3) w => begins_any (s.extract at_ s.size) (by simp; omega) w)
  have i1 : (0 : Int) ≤ at_ := by omega
  have i2 : (at_ : Int) < s.size := by omega
  have i3 : ((at_ : Int) == (s.size : Int)) = false := by simp; omega
  have i4 : decide ((at_ : Int) < 0) = false := by simp
  have i5 : decide ((s.size : Int) < (at_ : Int)) = false := by simp; omega
  have i6 : decide (s.size < at_) = false := by simp; omega
  clear hsub hr
  go_enter Try.func107, Try.ntmps107
  go_wp2_with fail
  go_loopw [7] (fun i wr => ∃ k : Nat, 1 ≤ k ∧ k ≤ 5 ∧ at_ + k ≤ s.size + 1 ∧ i = .int .i64 k ∧ (r = 0 ∨ k ≤ r) ∧ Below w.heap.size w wr) (fun i _ => 5 - (intOf i).toNat)
  case atStart => exact ⟨1, by omega, by omega, by omega, rfl, by omega, Below.refl _ _⟩
  case round =>
    obtain ⟨k, hk1, hk2, hk3, rfl, hkr, hb⟩ := hrel
    have hsz := hb.size
    have e2 : wrap64 ((at_ : Int) + (k : Int)) = (at_ : Int) + (k : Int) := by have := IntKind.wrap_i64 ((at_ : Int) + (k : Int)); unfold wrap64; omega
    by_cases hgo : k ≤ 4 ∧ at_ + k ≤ s.size
    · obtain ⟨g1, g2⟩ := hgo
      have e1 : ((at_ : Int) + (k : Int)).toNat = at_ + k := by omega
      have HV := Lib.hid (fun w => V.out k hk1 g2 w)
      go_wp2_with (go_at_call 114; refine (HV.out _).mono ?_)
      first | rintro e w1 x rfl hx hb1 | rintro e w1 ⟨⟨x, rfl, hx⟩, hb1⟩
      have hb2 := below_next hb hb1
      have HX := Lib.hid hx
      clear hx
      by_cases h0 : 0 ≤ x
      · have hrk : r = k := by
          have := HX.out; rw [decide_eq_true h0] at this
          exact of_decide_eq_true this.symm
        go_wp2_with fail
        go_ret3
        exact ⟨⟨_, _, _, rfl, .inl ⟨by omega, by omega, rfl⟩⟩, hb2⟩
      · have hrk : r ≠ k := by
          have := HX.out; rw [decide_eq_false h0] at this
          exact of_decide_eq_false this.symm
        go_wp2_with fail
        go_roundw
        case rel => exact ⟨k + 1, by omega, by omega, by omega, by go_num, by omega, hb2⟩
        case measure => simp [intOf]; omega
    · have hr0 : r = 0 := by omega
      have HR := Lib.hid hr0
      clear hr0 hkr
      by_cases h4 : s.size - at_ < 4
      · have HB := Lib.hid (fun w => B.out (by omega) w)
        go_wp2_with (go_at_call 115; refine (HB.out _).mono ?_)
        first | rintro e w1 bb rfl hb1 | rintro e w1 ⟨⟨bb, rfl⟩, hb1⟩
        have hb2 := below_next hb hb1
        cases bb <;>
        · go_wp2_with fail
          go_ret3
          exact ⟨⟨_, _, _, rfl, .inr ⟨HR.out, by omega⟩⟩, hb2⟩
      · go_wp2_with fail
        go_ret3
        exact ⟨⟨_, _, _, rfl, .inr ⟨HR.out, by omega⟩⟩, hb⟩

set_option maxHeartbeats 1600000 in
set_option maxRecDepth 100000 in
theorem rcheck_any (s : ByteArray) (b : Bool) (hb : Utf.valid s.data.toList = b) (w : World) (hs : s.size ≤ 4294967280) :
    Calls Try.prog 99 #[.string s] w fun e w' => (∃ n er : Int, e = .returned (.tuple #[.int .i64 n, .int .i64 er]) ∧ (er == 0) = b) ∧ Below w.heap.size w w' := by
  have hs' := hs
  go_enter Try.func99, Try.ntmps99
  go_wp2_with fail
  go_loopw [4] (fun i wr => ∃ k : Nat, k ≤ s.size ∧ i = .int .i64 k ∧ Hid (Utf.valid (s.data.toList.drop k) = b) ∧ Below w.heap.size w wr) (fun i _ => s.size - (intOf i).toNat)
  case atStart => exact ⟨0, Nat.zero_le _, rfl, (by show Utf.valid (List.drop 0 _) = b; rw [List.drop_zero]; exact hb), Below.refl _ _⟩
  case round =>
    obtain ⟨k, hk, rfl, HV, hbl⟩ := hrel
    have hsz := hbl.size
    by_cases hlt : k < s.size
    · have hne : s.data.toList.drop k ≠ [] := by simp; omega
      obtain ⟨r, hr⟩ : ∃ r, Utf.rdLen (s.data.toList.drop k) = r := ⟨_, rfl⟩
      have hrl : r ≤ s.size - k := by rw [← hr]; have := Utf.rdLen_len (s.data.toList.drop k); simpa using this
      have HBad : r = 0 → Hid (false = b) := fun h => HV.out ▸ (Utf.valid_bad _ hne (by omega)).symm
      have HGood : r ≠ 0 → Hid (Utf.valid (s.data.toList.drop (k + r)) = b) := by
        intro h
        have h2 := Utf.valid_step _ hne (by omega)
        rw [hr, List.drop_drop] at h2
        rw [← h2]
        exact HV.out
      have HR := Lib.hid (fun w => rread_any s k r hr hlt hs' w)
      clear hr hne
      go_wp2_with (go_at_call 107; refine (HR.out _).mono ?_)
      first | rintro e w1 x n er rfl ho hb1 | rintro e w1 ⟨⟨x, n, er, rfl, ho⟩, hb1⟩
      have hb2 := below_next hbl hb1
      rcases ho with ⟨h1, rfl, rfl⟩ | ⟨h1, h2⟩
      · have HG := HGood (by omega)
        clear HBad HGood
        go_wp2_with fail
        go_roundw
        case rel => exact ⟨k + r, by omega, by go_num, HG, hb2⟩
        case measure => simp [intOf]; omega
      · have HG := HBad h1
        have be : (er != 0) = true := by simpa using h2
        have be2 : (er == 0) = false := by simpa using h2
        have HE := Lib.hid be2
        clear HBad HGood h1 h2 be2
        go_wp2_with fail
        go_ret2
        exact ⟨⟨_, er, rfl, HE.out.trans HG.out⟩, hb2⟩
    · have HG : Hid (true = b) := by
        show true = b
        rw [← HV.out, List.drop_eq_nil_iff.2 (by simp; omega)]; rfl
      go_wp2_with fail
      go_ret2
      exact ⟨⟨_, 0, rfl, HG.out⟩, hbl⟩
end Go.Proofs.Ytpnpgjjbincigaa
