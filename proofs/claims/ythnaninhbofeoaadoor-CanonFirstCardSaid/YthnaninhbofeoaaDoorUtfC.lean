/- Contracts of utf.Check, Valid. -/
import Derived.Test.YthnaninhbofeoaaDoorUtfB
namespace Go.Proofs.YthnaninhbofeoaaDoor
open Go.RowKit

/-- what Check gives: just as the string is valid, no error -/
def CheckOut (v : Bool) (e : Ending) : Prop :=
  (v = true ∧ ∃ n : Int, e = .returned (.tuple #[.int .i64 n, .int .i64 0])) ∨ (v = false ∧ ∃ n er : Int, 10 ≤ er ∧ er ≤ 11 ∧ e = .returned (.tuple #[.int .i64 n, .int .i64 er]))

set_option maxHeartbeats 800000 in
set_option maxRecDepth 100000 in
theorem ucheck_any (s : ByteArray) (w : World) (hs : s.size ≤ maxLen) :
    Calls Tryd.prog 77 #[.string s] w fun e w' => CheckOut (Utf.valid s.data.toList) e ∧ w = w' := by
  have hs' := hs
  unfold maxLen at hs
  go_enter Tryd.func77, Tryd.ntmps77
  go_wp2_with fail
  go_step3
  go_wp2_with fail
  go_step3
  go_wp2_with fail
  go_loop [4, 5] (fun i b => ∃ k : Nat, k ≤ s.size ∧ i = .int .i64 k ∧ b = .int .i64 0 ∧ Hid (Utf.valid s.data.toList = Utf.valid (s.data.toList.drop k))) (fun i _ => s.size - (intOf i).toNat)
  case atStart => exact ⟨0, Nat.zero_le _, rfl, rfl, by rw [List.drop_zero]; rfl⟩
  case round =>
    obtain ⟨k, hk, rfl, rfl, HV⟩ := hrel
    by_cases hlt : k < s.size
    · have hne : s.data.toList.drop k ≠ [] := by simp; omega
      have HBad : Utf.rdLen (s.data.toList.drop k) = 0 → Utf.valid s.data.toList = false := fun h => HV.out.trans (Utf.valid_bad _ hne h)
      have HGood : ∀ n, Utf.rdLen (s.data.toList.drop k) = n → 0 < n → Utf.valid s.data.toList = Utf.valid (s.data.toList.drop (k + n)) := by
        intro n h1 h2
        rw [HV.out, Utf.valid_step _ hne (by omega), h1, List.drop_drop]
      have hl : (s.data.toList.drop k).length = s.size - k := by simp
      go_wp2_with (go_at_call 103; refine (read_any s k _ hlt hs').mono ?_)
      rintro e ho
      rcases ho with ⟨x, n, h1, h2, h3, h4, rfl⟩ | ⟨er, h1, h2, h3, rfl⟩
      · have HG := Lib.hid (HGood n h4 h1)
        rw [hl] at h3
        have h5 : k + n ≤ s.size := by omega
        clear HBad HGood h4 hl hne
        go_wp2
        go_round
        case rel => exact ⟨k + n, h5, by go_num, rfl, HG⟩
        case measure => simp [intOf]; omega
      · have HG := Lib.hid (HBad h3)
        have be : (er != 0) = true := by simp; omega
        clear HBad HGood h3 hl hne
        go_wp2
        rw [Exit.noGoto_ret]
        go_ret2
        exact ⟨.inr ⟨HG.out, _, er, h1, h2, rfl⟩, rfl⟩
    · have hks : k = s.size := by omega
      have HG : Hid (Utf.valid s.data.toList = true) := by
        show Utf.valid s.data.toList = true
        rw [HV.out, List.drop_eq_nil_iff.2 (by simp; omega)]; rfl
      go_wp2
      go_ret2
      exact ⟨.inl ⟨HG.out, _, rfl⟩, rfl⟩

set_option maxHeartbeats 400000 in
theorem valid_is (s : ByteArray) (b : Bool) (h : Utf.valid s.data.toList = b) (w : World) (hs : s.size ≤ maxLen) :
    Calls Tryd.prog 57 #[.string s] w fun e w' => e = .returned (.bool b) ∧ w = w' := by
  have HC := Lib.hid (fun w => ucheck_any s w hs)
  go_enter Tryd.func57, Tryd.ntmps57
  go_wp2_with (go_at_call 77; refine (HC.out _).mono ?_)
  first | rintro e w1 ⟨ho, rfl⟩ | rintro e w1 ho rfl | rintro e ho
  rcases ho with ⟨hv, n, rfl⟩ | ⟨hv, n, er, h1, h2, rfl⟩
  · rw [h] at hv
    subst hv
    clear h
    go_wp2
    go_ret
    exact ⟨rfl, rfl⟩
  · rw [h] at hv
    subst hv
    clear h
    have b1 : (er == 0) = false := by simp; omega
    go_wp2
    go_ret
    first | exact ⟨rfl, rfl⟩ | exact ⟨by rw [b1], rfl⟩ | exact ⟨by simp; omega, rfl⟩
end Go.Proofs.YthnaninhbofeoaaDoor
