/- Contracts of the reference's UTF-8: begins, Read, Check. -/
import Derived.Test.YthnaninhbofeoaaDoorRefB
namespace Go.Proofs.YthnaninhbofeoaaDoor
open Go.RowKit

theorem conv_lit (c : UInt8) (z : Int) (hz : z = c.toNat) (W : World) :
    (convert 63 9 (.slice (some ⟨W.heap.size, 0, none⟩) 1 1)).run Tryd.prog (W.alloc (.cells #[.int .u8 z] 5)) = .ok (.string ⟨#[c]⟩) (W.alloc (.cells #[.int .u8 z] 5)) := by
  subst hz
  refine conv_own (B := W.heap.size) (l := [c]) ⟨rfl, .inr ⟨W.heap.size, 1, _, rfl, Nat.le_refl _, alloc_new _ _, by simp, by unfold maxLen; omega, rfl, rfl⟩⟩

theorem size1 (c : UInt8) : (ByteArray.mk #[c]).size = 1 := rfl

def strLen : Value → Nat
  | .string u => u.size
  | _ => 0

set_option maxHeartbeats 1600000 in
set_option maxRecDepth 100000 in
theorem begins_any (s : ByteArray) (hs : s.size ≤ 3) (w : World) :
    Calls Tryd.prog 105 #[.string s] w fun e w' => (∃ b, e = .returned (.bool b)) ∧ Below w.heap.size w w' := by
  have V := Lib.hid (fun (t : ByteArray) (h : t.size ≤ 4) w => rvalue_is t _ rfl w (by unfold maxLen; omega))
  have C0 := conv_lit 128 128 rfl
  have C1 := conv_lit 191 191 rfl
  have hs' : (s.size : Int) ≤ 3 := by omega
  go_enter Tryd.func105, Tryd.ntmps105
  go_wp2_with fail
  go_loopw [3] (fun i wr => ∃ k : Nat, s.size + 1 ≤ k ∧ k ≤ 5 ∧ i = .int .i64 k ∧ Below w.heap.size w wr) (fun i _ => 5 - (intOf i).toNat)
  case atStart => exact ⟨s.size + 1, Nat.le_refl _, by omega, by go_num, Below.refl _ _⟩
  case round =>
    obtain ⟨k, hk1, hk2, rfl, hb⟩ := hrel
    by_cases hlt : k < 5
    · have d4 : decide ((k : Int) ≤ 4) = true := by simp; omega
      go_wp2_with fail
      go_loopw [4] (fun i wr => ∃ j : Nat, j ≤ 2 ∧ i = .int .i64 j ∧ Below w.heap.size w wr) (fun i _ => 2 - (intOf i).toNat)
      case atStart => exact ⟨0, by omega, rfl, hb⟩
      case round =>
        obtain ⟨j, hj, rfl, hb⟩ := hrel
        have hsz := hb.size
        by_cases hj2 : j < 2
        · obtain rfl | rfl : j = 0 ∨ j = 1 := by omega
          all_goals
            go_wp2_with fail
            go_loopw [5] (fun t wr => ∃ u : ByteArray, t = .string u ∧ s.size + 1 ≤ u.size ∧ u.size ≤ k ∧ Below w.heap.size w wr) (fun t _ => k - strLen t)
            case atStart => exact ⟨_, rfl, by simp [size1], by simp [size1]; omega, hb.alloc hsz _⟩
            case round =>
              obtain ⟨u, rfl, hu1, hu2, hb⟩ := hrel
              have hsz := hb.size
              by_cases hlt2 : u.size < k
              · go_wp2_with fail
                go_roundw
                case rel => exact ⟨_, rfl, by simp; omega, by simp [size1]; omega, hb.alloc hsz _⟩
                case measure => simp [strLen, size1]; omega
              · have hq : u.size = k := by omega
                have HV := Lib.hid (fun w => V.out u (by omega) w)
                go_wp2_with (go_at_call 104; refine (HV.out _).mono ?_)
                first | rintro e w1 x rfl hx hb1 | rintro e w1 ⟨⟨x, rfl, hx⟩, hb1⟩
                have hb2 := below_next hb hb1
                clear hx
                by_cases h0 : 0 ≤ x
                · go_wp2_with fail
                  go_ret
                  exact ⟨⟨_, rfl⟩, hb2⟩
                · go_wp2_with fail
                  go_roundw
                  case rel => first | exact ⟨1, by omega, rfl, hb2⟩ | exact ⟨2, by omega, rfl, hb2⟩
                  case measure => simp [intOf]
        · go_wp2_with fail
          go_roundw
          case rel => exact ⟨k + 1, by omega, by omega, by go_num, hb⟩
          case measure => simp [intOf]; omega
    · go_wp2_with fail
      go_ret
      exact ⟨⟨_, rfl⟩, hb⟩

set_option maxHeartbeats 1600000 in
set_option maxRecDepth 100000 in
theorem rread_any (s : ByteArray) (at_ r : Nat) (hr : Utf.rdLen (s.data.toList.drop at_) = r) (h : at_ < s.size) (hs : s.size ≤ 4294967280) (w : World) :
    Calls Tryd.prog 78 #[.string s, .int .i64 at_] w fun e w' =>
      (∃ x n er : Int, e = .returned (.tuple #[.int .i64 x, .int .i64 n, .int .i64 er]) ∧ ((0 < r ∧ n = r ∧ er = 0) ∨ (r = 0 ∧ er ≠ 0))) ∧ Below w.heap.size w w' := by
  have hsub : ∀ n, 1 ≤ n → at_ + n ≤ s.size → (Utf.isForm (s.extract at_ (at_ + n)).data.toList = decide (r = n)) := by
    intro n h1 h2
    have e : (s.extract at_ (at_ + n)).data.toList = (s.data.toList.drop at_).take n := by
      simp [ByteArray.data_extract, List.extract_eq_take_drop]
    have hl : ((s.data.toList.drop at_).take n).length = n := by simp; omega
    rw [e]
    unfold Utf.isForm
    rw [hl, decide_eq_true h1, Bool.true_and, Bool.eq_iff_iff, beq_iff_eq, decide_eq_true_eq, Utf.rdLen_take _ _ h1, hr]
  have hr4 := Utf.rdLen_le (s.data.toList.drop at_)
  have hrl : r ≤ s.size - at_ := by
    rcases Nat.eq_zero_or_pos r with h0 | h0
    · omega
    · have := (Utf.rdLen_take (s.data.toList.drop at_) r h0).2 hr
      have h2 : Utf.rdLen ((s.data.toList.drop at_).take r) ≤ ((s.data.toList.drop at_).take r).length := Utf.rdLen_len _
      rw [this] at h2
      simp at h2; omega
  rw [hr] at hr4
  have V := Lib.hid (fun (n : Nat) (h1 : 1 ≤ n) (h2 : at_ + n ≤ s.size) w => rvalue_is (s.extract at_ (at_ + n)) _ (hsub n h1 h2) w (by simp; unfold maxLen; omega))
  have B := Lib.hid (fun (h : s.size - at_ ≤ 3) w => begins_any (s.extract at_ s.size) (by simp; omega) w)
  have i1 : (0 : Int) ≤ at_ := by omega
  have i2 : (at_ : Int) < s.size := by omega
  have i3 : ((at_ : Int) == (s.size : Int)) = false := by simp; omega
  have i4 : decide ((at_ : Int) < 0) = false := by simp
  have i5 : decide ((s.size : Int) < (at_ : Int)) = false := by simp; omega
  have i6 : decide (s.size < at_) = false := by simp; omega
  clear hsub hr
  go_enter Tryd.func78, Tryd.ntmps78
  go_wp2_with fail
  go_loopw [7] (fun i wr => ∃ k : Nat, 1 ≤ k ∧ k ≤ 5 ∧ at_ + k ≤ s.size + 1 ∧ i = .int .i64 k ∧ (r = 0 ∨ k ≤ r) ∧ Below w.heap.size w wr) (fun i _ => 5 - (intOf i).toNat)
  case atStart => exact ⟨1, by omega, by omega, by omega, rfl, by omega, Below.refl _ _⟩
  case round =>
    obtain ⟨k, hk1, hk2, hk3, rfl, hkr, hb⟩ := hrel
    have hsz := hb.size
    have e2 : wrap64 ((at_ : Int) + (k : Int)) = (at_ : Int) + (k : Int) := by have := IntKind.wrap_i64 ((at_ : Int) + (k : Int)); unfold wrap64; omega
    by_cases hgo : k ≤ 4 ∧ at_ + k ≤ s.size
    · obtain ⟨g1, g2⟩ := hgo
      have e1 : ((at_ : Int) + (k : Int)).toNat = at_ + k := by omega
      have HV := Lib.hid (fun w => V.out k hk1 g2 w)
      go_wp2_with (go_at_call 104; refine (HV.out _).mono ?_)
      first | rintro e w1 x rfl hx hb1 | rintro e w1 ⟨⟨x, rfl, hx⟩, hb1⟩
      have hb2 := below_next hb hb1
      have HX := Lib.hid hx
      clear hx
      by_cases h0 : 0 ≤ x
      · have hrk : r = k := by
          have := HX.out; rw [decide_eq_true h0] at this
          exact of_decide_eq_true this.symm
        go_wp2_with fail
        go_ret3
        exact ⟨⟨_, _, _, rfl, .inl ⟨by omega, by omega, rfl⟩⟩, hb2⟩
      · have hrk : r ≠ k := by
          have := HX.out; rw [decide_eq_false h0] at this
          exact of_decide_eq_false this.symm
        go_wp2_with fail
        go_roundw
        case rel => exact ⟨k + 1, by omega, by omega, by omega, by go_num, by omega, hb2⟩
        case measure => simp [intOf]; omega
    · have hr0 : r = 0 := by omega
      have HR := Lib.hid hr0
      clear hr0 hkr
      by_cases h4 : s.size - at_ < 4
      · have HB := Lib.hid (fun w => B.out (by omega) w)
        go_wp2_with (go_at_call 105; refine (HB.out _).mono ?_)
        first | rintro e w1 bb rfl hb1 | rintro e w1 ⟨⟨bb, rfl⟩, hb1⟩
        have hb2 := below_next hb hb1
        cases bb <;>
        · go_wp2_with fail
          go_ret3
          exact ⟨⟨_, _, _, rfl, .inr ⟨HR.out, by omega⟩⟩, hb2⟩
      · go_wp2_with fail
        go_ret3
        exact ⟨⟨_, _, _, rfl, .inr ⟨HR.out, by omega⟩⟩, hb⟩

set_option maxHeartbeats 1600000 in
set_option maxRecDepth 100000 in
theorem rcheck_any (s : ByteArray) (b : Bool) (hb : Utf.valid s.data.toList = b) (w : World) (hs : s.size ≤ 4294967280) :
    Calls Tryd.prog 58 #[.string s] w fun e w' => (∃ n er : Int, e = .returned (.tuple #[.int .i64 n, .int .i64 er]) ∧ (er == 0) = b) ∧ Below w.heap.size w w' := by
  have hs' := hs
  go_enter Tryd.func58, Tryd.ntmps58
  go_wp2_with fail
  go_loopw [4] (fun i wr => ∃ k : Nat, k ≤ s.size ∧ i = .int .i64 k ∧ Hid (Utf.valid (s.data.toList.drop k) = b) ∧ Below w.heap.size w wr) (fun i _ => s.size - (intOf i).toNat)
  case atStart => exact ⟨0, Nat.zero_le _, rfl, (by show Utf.valid (List.drop 0 _) = b; rw [List.drop_zero]; exact hb), Below.refl _ _⟩
  case round =>
    obtain ⟨k, hk, rfl, HV, hbl⟩ := hrel
    have hsz := hbl.size
    by_cases hlt : k < s.size
    · have hne : s.data.toList.drop k ≠ [] := by simp; omega
      obtain ⟨r, hr⟩ : ∃ r, Utf.rdLen (s.data.toList.drop k) = r := ⟨_, rfl⟩
      have hrl : r ≤ s.size - k := by rw [← hr]; have := Utf.rdLen_len (s.data.toList.drop k); simpa using this
      have HBad : r = 0 → Hid (false = b) := fun h => HV.out ▸ (Utf.valid_bad _ hne (by omega)).symm
      have HGood : r ≠ 0 → Hid (Utf.valid (s.data.toList.drop (k + r)) = b) := by
        intro h
        have h2 := Utf.valid_step _ hne (by omega)
        rw [hr, List.drop_drop] at h2
        rw [← h2]
        exact HV.out
      have HR := Lib.hid (fun w => rread_any s k r hr hlt hs' w)
      clear hr hne
      go_wp2_with (go_at_call 78; refine (HR.out _).mono ?_)
      first | rintro e w1 x n er rfl ho hb1 | rintro e w1 ⟨⟨x, n, er, rfl, ho⟩, hb1⟩
      have hb2 := below_next hbl hb1
      rcases ho with ⟨h1, rfl, rfl⟩ | ⟨h1, h2⟩
      · have HG := HGood (by omega)
        clear HBad HGood
        go_wp2_with fail
        go_roundw
        case rel => exact ⟨k + r, by omega, by go_num, HG, hb2⟩
        case measure => simp [intOf]; omega
      · have HG := HBad h1
        have be : (er != 0) = true := by simpa using h2
        have be2 : (er == 0) = false := by simpa using h2
        have HE := Lib.hid be2
        clear HBad HGood h1 h2 be2
        go_wp2_with fail
        go_ret2
        exact ⟨⟨_, er, rfl, HE.out.trans HG.out⟩, hb2⟩
    · have HG : Hid (true = b) := by
        show true = b
        rw [← HV.out, List.drop_eq_nil_iff.2 (by simp; omega)]; rfl
      go_wp2_with fail
      go_ret2
      exact ⟨⟨_, 0, rfl, HG.out⟩, hbl⟩
end Go.Proofs.YthnaninhbofeoaaDoor
