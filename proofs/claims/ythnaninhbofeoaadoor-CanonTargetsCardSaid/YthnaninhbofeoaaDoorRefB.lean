/- Contracts of the reference's UTF-8: value. (Printed by gen_refb.py.) -/
import Derived.Test.YthnaninhbofeoaaDoorRefA
namespace Go.Proofs.YthnaninhbofeoaaDoor
open Go.RowKit

theorem Utf.list1 (s : ByteArray) (h : s.size = 1) : s.data.toList = [s[0]] := by
  have e := Utf.drop_cons s 0 (by omega)
  rw [List.drop_zero, List.drop_eq_nil_iff.2 (by simp; omega)] at e
  exact e
theorem Utf.list2 (s : ByteArray) (h : s.size = 2) : s.data.toList = [s[0], s[1]] := by
  have e := Utf.drop_cons s 0 (by omega)
  rw [List.drop_zero, Utf.drop_cons s 1 (by omega), List.drop_eq_nil_iff.2 (by simp; omega)] at e
  exact e
theorem Utf.list3 (s : ByteArray) (h : s.size = 3) : s.data.toList = [s[0], s[1], s[2]] := by
  have e := Utf.drop_cons s 0 (by omega)
  rw [List.drop_zero, Utf.drop_cons s 1 (by omega), Utf.drop_cons s 2 (by omega), List.drop_eq_nil_iff.2 (by simp; omega)] at e
  exact e
theorem Utf.list4 (s : ByteArray) (h : s.size = 4) : s.data.toList = [s[0], s[1], s[2], s[3]] := by
  have e := Utf.drop_cons s 0 (by omega)
  rw [List.drop_zero, Utf.drop_cons s 1 (by omega), Utf.drop_cons s 2 (by omega), Utf.drop_cons s 3 (by omega), List.drop_eq_nil_iff.2 (by simp; omega)] at e
  exact e
theorem Utf.point_lt (x : Int) (h : Utf.point x = true) : 0 ≤ x ∧ x < 1114112 := by
  unfold Utf.point at h
  simp only [Bool.or_eq_true, Bool.and_eq_true, decide_eq_true_eq] at h
  omega
theorem Utf.isForm_size (l : List UInt8) (h : l.length = 0 ∨ 4 < l.length) : Utf.isForm l = false := by
  unfold Utf.isForm
  have := Utf.rdLen_le l
  simp only [Bool.and_eq_false_iff, decide_eq_false_iff_not, beq_eq_false_iff_ne, ne_eq]
  omega
theorem Utf.len_is (s : ByteArray) : s.data.toList.length = s.size := by simp
theorem mk_list (l : List UInt8) : (ByteArray.mk l.toArray).toList = l := by rw [ByteArray.toList_eq]

set_option maxHeartbeats 3200000 in
set_option maxRecDepth 100000 in
theorem rvalue_is (s : ByteArray) (b : Bool) (h : Utf.isForm s.data.toList = b) (w : World) (hs : s.size ≤ maxLen) :
    Calls Tryd.prog 104 #[.string s] w fun e w' => (∃ x : Int, e = .returned (.int .i64 x) ∧ decide (0 ≤ x) = b) ∧ Below w.heap.size w w' := by
  unfold maxLen at hs
  have form : ∀ (X : Int) (l : List UInt8), Utf.point X = true → Utf.form X.toNat = l → ∀ w, Calls Tryd.prog 135 #[.int .i64 X] w fun e w' => (∃ v, e = .returned v ∧ OwnBytes w.heap.size v l w') ∧ Below w.heap.size w w' := by
    intro X l hp hl w
    have := Utf.point_lt X hp
    have c := rform_is X.toNat l hl (by omega) w
    rwa [Int.toNat_of_nonneg this.1] at c
  by_cases h1 : s.size = 1
  · have hL := Utf.list1 s h1
    rw [hL, Utf.isForm_1] at h
    have k0 : (s[0].toNat : Int) < 256 := by have := s[0].toNat_lt; omega
    have c1 : ((s.size : Int) == 1) = true := by simp; omega
    have c2 : ((s.size : Int) == 2) = false := by simp; omega
    have c3 : ((s.size : Int) == 3) = false := by simp; omega
    have c4 : ((s.size : Int) == 4) = false := by simp; omega
    have b0 : 0 < s.size := by omega
    obtain ⟨X, hX⟩ : ∃ X, Utf.num [s[0]] = X := ⟨_, rfl⟩
    have hX0 := hX
    unfold Utf.num at hX0
    rw [hX] at h
    cases hp : Utf.point X with
    | false =>
      rw [hp] at h
      obtain rfl : b = false := by rw [← h]; rfl
      have HP := Lib.hid hp
      rw [← hX] at HP
      have HP : ∀ w, Calls Tryd.prog 134 #[.int .i64 (Utf.num [s[0]])] w fun e w' => e = .returned (.bool false) ∧ w = w' := fun w => rpoint_is _ _ HP.out w
      unfold Utf.num at HP
      have HQ := Lib.hid HP
      clear h hp hX0 HP form hL 
      go_enter Tryd.func104, Tryd.ntmps104
      go_wp2_with (go_at_call 134; refine (HQ.out _).mono ?_)
      try rintro e w1 ⟨rfl, rfl⟩
      go_wp2_with fail
      go_ret
      exact ⟨⟨-1, rfl, rfl⟩, Below.refl _ _⟩
    | true =>
      rw [hp, Bool.true_and] at h
      obtain ⟨l, hl⟩ : ∃ l, Utf.form X.toNat = l := ⟨_, rfl⟩
      rw [hl] at h
      have hx0 := (Utf.point_lt X hp).1
      have hq : (l == s.toList) = b := by rw [ByteArray.toList_eq, ← h, hL]
      have HF := Lib.hid (form X l hp hl)
      have HP := Lib.hid (fun w => rpoint_is X true hp w)
      subst hX
      unfold Utf.num at HF HP hx0
      clear h hp hl form hL hX0 
      go_enter Tryd.func104, Tryd.ntmps104
      go_wp2_with (go_at_call 134; refine (HP.out _).mono ?_)
      try rintro e w1 ⟨rfl, rfl⟩
      go_wp2_with (go_at_call 135; refine (HF.out _).mono ?_)
      first | rintro e w1 v rfl hown hb1 | rintro e w1 ⟨⟨v, rfl, hown⟩, hb1⟩
      have hcv := conv_own hown
      cases b
      · go_wp2_with fail
        go_ret
        exact ⟨⟨-1, rfl, rfl⟩, hb1⟩
      · go_wp2_with fail
        go_ret
        exact ⟨⟨_, rfl, decide_eq_true hx0⟩, hb1⟩
  by_cases h2 : s.size = 2
  · have hL := Utf.list2 s h2
    rw [hL, Utf.isForm_2] at h
    have k0 : (s[0].toNat : Int) < 256 := by have := s[0].toNat_lt; omega
    have k1 : (s[1].toNat : Int) < 256 := by have := s[1].toNat_lt; omega
    have c1 : ((s.size : Int) == 1) = false := by simp; omega
    have c2 : ((s.size : Int) == 2) = true := by simp; omega
    have c3 : ((s.size : Int) == 3) = false := by simp; omega
    have c4 : ((s.size : Int) == 4) = false := by simp; omega
    have b0 : 0 < s.size := by omega
    have b1 : 1 < s.size := by omega
    obtain ⟨X, hX⟩ : ∃ X, Utf.num [s[0], s[1]] = X := ⟨_, rfl⟩
    have hX0 := hX
    unfold Utf.num at hX0
    rw [hX] at h
    cases hp : Utf.point X with
    | false =>
      rw [hp] at h
      obtain rfl : b = false := by rw [← h]; rfl
      have HP := Lib.hid hp
      rw [← hX] at HP
      have HP : ∀ w, Calls Tryd.prog 134 #[.int .i64 (Utf.num [s[0], s[1]])] w fun e w' => e = .returned (.bool false) ∧ w = w' := fun w => rpoint_is _ _ HP.out w
      unfold Utf.num at HP
      have HQ := Lib.hid HP
      clear h hp hX0 HP form hL h1
      go_enter Tryd.func104, Tryd.ntmps104
      go_wp2_with fail
      go_quiet (fail)
      go_wp2_with (go_at_call 134; refine (HQ.out _).mono ?_)
      try rintro e w1 ⟨rfl, rfl⟩
      go_wp2_with fail
      go_ret
      exact ⟨⟨-1, rfl, rfl⟩, below_drewN (Below.refl _ _) _⟩
    | true =>
      rw [hp, Bool.true_and] at h
      obtain ⟨l, hl⟩ : ∃ l, Utf.form X.toNat = l := ⟨_, rfl⟩
      rw [hl] at h
      have hx0 := (Utf.point_lt X hp).1
      have hq : (l == s.toList) = b := by rw [ByteArray.toList_eq, ← h, hL]
      have HF := Lib.hid (form X l hp hl)
      have HP := Lib.hid (fun w => rpoint_is X true hp w)
      subst hX
      unfold Utf.num at HF HP hx0
      clear h hp hl form hL hX0 h1
      go_enter Tryd.func104, Tryd.ntmps104
      go_wp2_with fail
      go_quiet (fail)
      go_wp2_with (go_at_call 134; refine (HP.out _).mono ?_)
      try rintro e w1 ⟨rfl, rfl⟩
      go_wp2_with (go_at_call 135; refine (HF.out _).mono ?_)
      first | rintro e w1 v rfl hown hb1 | rintro e w1 ⟨⟨v, rfl, hown⟩, hb1⟩
      have hb1 : Below w.heap.size w w1 := (below_drewN (Below.refl _ _) nq).trans hb1
      have hcv := conv_own hown
      cases b
      · go_wp2_with fail
        go_ret
        exact ⟨⟨-1, rfl, rfl⟩, hb1⟩
      · go_wp2_with fail
        go_ret
        exact ⟨⟨_, rfl, decide_eq_true hx0⟩, hb1⟩
  by_cases h3 : s.size = 3
  · have hL := Utf.list3 s h3
    rw [hL, Utf.isForm_3] at h
    have k0 : (s[0].toNat : Int) < 256 := by have := s[0].toNat_lt; omega
    have k1 : (s[1].toNat : Int) < 256 := by have := s[1].toNat_lt; omega
    have k2 : (s[2].toNat : Int) < 256 := by have := s[2].toNat_lt; omega
    have c1 : ((s.size : Int) == 1) = false := by simp; omega
    have c2 : ((s.size : Int) == 2) = false := by simp; omega
    have c3 : ((s.size : Int) == 3) = true := by simp; omega
    have c4 : ((s.size : Int) == 4) = false := by simp; omega
    have b0 : 0 < s.size := by omega
    have b1 : 1 < s.size := by omega
    have b2 : 2 < s.size := by omega
    obtain ⟨X, hX⟩ : ∃ X, Utf.num [s[0], s[1], s[2]] = X := ⟨_, rfl⟩
    have hX0 := hX
    unfold Utf.num at hX0
    rw [hX] at h
    cases hp : Utf.point X with
    | false =>
      rw [hp] at h
      obtain rfl : b = false := by rw [← h]; rfl
      have HP := Lib.hid hp
      rw [← hX] at HP
      have HP : ∀ w, Calls Tryd.prog 134 #[.int .i64 (Utf.num [s[0], s[1], s[2]])] w fun e w' => e = .returned (.bool false) ∧ w = w' := fun w => rpoint_is _ _ HP.out w
      unfold Utf.num at HP
      have HQ := Lib.hid HP
      clear h hp hX0 HP form hL h1 h2
      go_enter Tryd.func104, Tryd.ntmps104
      go_wp2_with fail
      go_quiet (fail)
      go_wp2_with (go_at_call 134; refine (HQ.out _).mono ?_)
      try rintro e w1 ⟨rfl, rfl⟩
      go_wp2_with fail
      go_ret
      exact ⟨⟨-1, rfl, rfl⟩, below_drewN (Below.refl _ _) _⟩
    | true =>
      rw [hp, Bool.true_and] at h
      obtain ⟨l, hl⟩ : ∃ l, Utf.form X.toNat = l := ⟨_, rfl⟩
      rw [hl] at h
      have hx0 := (Utf.point_lt X hp).1
      have hq : (l == s.toList) = b := by rw [ByteArray.toList_eq, ← h, hL]
      have HF := Lib.hid (form X l hp hl)
      have HP := Lib.hid (fun w => rpoint_is X true hp w)
      subst hX
      unfold Utf.num at HF HP hx0
      clear h hp hl form hL hX0 h1 h2
      go_enter Tryd.func104, Tryd.ntmps104
      go_wp2_with fail
      go_quiet (fail)
      go_wp2_with (go_at_call 134; refine (HP.out _).mono ?_)
      try rintro e w1 ⟨rfl, rfl⟩
      go_wp2_with (go_at_call 135; refine (HF.out _).mono ?_)
      first | rintro e w1 v rfl hown hb1 | rintro e w1 ⟨⟨v, rfl, hown⟩, hb1⟩
      have hb1 : Below w.heap.size w w1 := (below_drewN (Below.refl _ _) nq).trans hb1
      have hcv := conv_own hown
      cases b
      · go_wp2_with fail
        go_ret
        exact ⟨⟨-1, rfl, rfl⟩, hb1⟩
      · go_wp2_with fail
        go_ret
        exact ⟨⟨_, rfl, decide_eq_true hx0⟩, hb1⟩
  by_cases h4 : s.size = 4
  · have hL := Utf.list4 s h4
    rw [hL, Utf.isForm_4] at h
    have k0 : (s[0].toNat : Int) < 256 := by have := s[0].toNat_lt; omega
    have k1 : (s[1].toNat : Int) < 256 := by have := s[1].toNat_lt; omega
    have k2 : (s[2].toNat : Int) < 256 := by have := s[2].toNat_lt; omega
    have k3 : (s[3].toNat : Int) < 256 := by have := s[3].toNat_lt; omega
    have c1 : ((s.size : Int) == 1) = false := by simp; omega
    have c2 : ((s.size : Int) == 2) = false := by simp; omega
    have c3 : ((s.size : Int) == 3) = false := by simp; omega
    have c4 : ((s.size : Int) == 4) = true := by simp; omega
    have b0 : 0 < s.size := by omega
    have b1 : 1 < s.size := by omega
    have b2 : 2 < s.size := by omega
    have b3 : 3 < s.size := by omega
    obtain ⟨X, hX⟩ : ∃ X, Utf.num [s[0], s[1], s[2], s[3]] = X := ⟨_, rfl⟩
    have hX0 := hX
    unfold Utf.num at hX0
    rw [hX] at h
    cases hp : Utf.point X with
    | false =>
      rw [hp] at h
      obtain rfl : b = false := by rw [← h]; rfl
      have HP := Lib.hid hp
      rw [← hX] at HP
      have HP : ∀ w, Calls Tryd.prog 134 #[.int .i64 (Utf.num [s[0], s[1], s[2], s[3]])] w fun e w' => e = .returned (.bool false) ∧ w = w' := fun w => rpoint_is _ _ HP.out w
      unfold Utf.num at HP
      have HQ := Lib.hid HP
      clear h hp hX0 HP form hL h1 h2 h3
      go_enter Tryd.func104, Tryd.ntmps104
      go_wp2_with fail
      go_quiet (fail)
      go_wp2_with (go_at_call 134; refine (HQ.out _).mono ?_)
      try rintro e w1 ⟨rfl, rfl⟩
      go_wp2_with fail
      go_ret
      exact ⟨⟨-1, rfl, rfl⟩, below_drewN (Below.refl _ _) _⟩
    | true =>
      rw [hp, Bool.true_and] at h
      obtain ⟨l, hl⟩ : ∃ l, Utf.form X.toNat = l := ⟨_, rfl⟩
      rw [hl] at h
      have hx0 := (Utf.point_lt X hp).1
      have hq : (l == s.toList) = b := by rw [ByteArray.toList_eq, ← h, hL]
      have HF := Lib.hid (form X l hp hl)
      have HP := Lib.hid (fun w => rpoint_is X true hp w)
      subst hX
      unfold Utf.num at HF HP hx0
      clear h hp hl form hL hX0 h1 h2 h3
      go_enter Tryd.func104, Tryd.ntmps104
      go_wp2_with fail
      go_quiet (fail)
      go_wp2_with (go_at_call 134; refine (HP.out _).mono ?_)
      try rintro e w1 ⟨rfl, rfl⟩
      go_wp2_with (go_at_call 135; refine (HF.out _).mono ?_)
      first | rintro e w1 v rfl hown hb1 | rintro e w1 ⟨⟨v, rfl, hown⟩, hb1⟩
      have hb1 : Below w.heap.size w w1 := (below_drewN (Below.refl _ _) nq).trans hb1
      have hcv := conv_own hown
      cases b
      · go_wp2_with fail
        go_ret
        exact ⟨⟨-1, rfl, rfl⟩, hb1⟩
      · go_wp2_with fail
        go_ret
        exact ⟨⟨_, rfl, decide_eq_true hx0⟩, hb1⟩
  · have hb : b = false := by rw [← h]; exact Utf.isForm_size _ (by rw [Utf.len_is]; omega)
    subst hb
    have c1 : ((s.size : Int) == 1) = false := by simp; omega
    have c2 : ((s.size : Int) == 2) = false := by simp; omega
    have c3 : ((s.size : Int) == 3) = false := by simp; omega
    have c4 : ((s.size : Int) == 4) = false := by simp; omega
    have HP := Lib.hid (fun w => rpoint_is (-1) false (by decide) w)
    clear h form h1 h2 h3 h4
    go_enter Tryd.func104, Tryd.ntmps104
    go_wp2_with (go_at_call 134; refine (HP.out _).mono ?_)
    try rintro e w1 ⟨rfl, rfl⟩
    go_wp2_with fail
    go_ret
    exact ⟨⟨-1, rfl, rfl⟩, Below.refl _ _⟩
end Go.Proofs.YthnaninhbofeoaaDoor
