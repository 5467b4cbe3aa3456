/- Plain laws: strings.Split at a byte, as the pieces between bytes 255. No program in sight. -/
import Derived.Test.YtpnpgjjbincigaaCanP
import Derived.Lib.SplitLaws
import Derived.Lib.IndexBytes
namespace Go.Proofs.Ytpnpgjjbincigaa.Can

theorem split_miss (cur l : List UInt8) (h : Lib.indexByte l 255 = -1) : split cur l = [cur ++ l] := by
  induction l generalizing cur with
  | nil => simp [split]
  | cons c r ih =>
    unfold Lib.indexByte at h
    by_cases hc : (c == 255) = true
    · rw [if_pos hc] at h; omega
    · rw [if_neg hc] at h
      by_cases hr : (Lib.indexByte r 255 == -1) = true
      · have hc2 : ¬ c = 255 := by simpa using hc
        unfold split
        rw [if_neg hc2, ih _ (beq_iff_eq.1 hr)]
        simp
      · rw [if_neg hr] at h
        have := Lib.indexByte_ge r 255
        have hr2 : Lib.indexByte r 255 ≠ -1 := fun e => hr (beq_iff_eq.2 e)
        omega
theorem split_hit (cur l : List UInt8) (i : Nat) (h : Lib.indexByte l 255 = i) : split cur l = (cur ++ l.take i) :: split [] (l.drop (i + 1)) := by
  induction l generalizing cur i with
  | nil => unfold Lib.indexByte at h; omega
  | cons c r ih =>
    unfold Lib.indexByte at h
    by_cases hc : (c == 255) = true
    · rw [if_pos hc] at h
      obtain rfl : i = 0 := by omega
      have hc2 : c = 255 := by simpa using hc
      show (if c = 255 then cur :: split [] r else split (cur ++ [c]) r) = _
      rw [if_pos hc2]
      simp
    · rw [if_neg hc] at h
      by_cases hr : (Lib.indexByte r 255 == -1) = true
      · rw [if_pos hr] at h; omega
      · rw [if_neg hr] at h
        have hc2 : ¬ c = 255 := by simpa using hc
        have hg := Lib.indexByte_ge r 255
        have hr2 : Lib.indexByte r 255 ≠ -1 := fun e => hr (beq_iff_eq.2 e)
        obtain ⟨j, rfl⟩ : ∃ j, i = j + 1 := ⟨i - 1, by omega⟩
        show (if c = 255 then cur :: split [] r else split (cur ++ [c]) r) = _
        rw [if_neg hc2, ih _ j (by omega)]
        simp

def sep : ByteArray := ⟨#[255]⟩
theorem splitB_is : ∀ (n : Nat) (s : ByteArray), s.size ≤ n → (Lib.splitB sep 0 (Lib.countB s sep) s).map (·.data.toList) = split [] s.data.toList := by
  intro n
  induction n with
  | zero =>
    intro s hs
    have h0 : s.data.toList = [] := List.eq_nil_of_length_eq_zero (by rw [Array.length_toList]; exact Nat.le_zero.1 hs)
    have hi : Lib.indexB s sep = -1 := by
      show Lib.index s.data.toList [255] = -1
      rw [Lib.index_one, h0]; rfl
    rw [Lib.splitB_miss _ _ _ _ hi, h0]
    simp [split, h0]
  | succ n ih =>
    intro s hs
    rcases Lib.indexB_cases s sep with h | ⟨i, h, hle⟩
    · have hi : Lib.indexByte s.data.toList 255 = -1 := by rw [← Lib.index_one]; exact h
      rw [Lib.splitB_miss _ _ _ _ h, split_miss _ _ hi]
      simp
    · have hi : Lib.indexByte s.data.toList 255 = i := by rw [← Lib.index_one]; exact h
      have hz : sep.size = 1 := rfl
      rw [hz] at hle
      rw [Lib.countB_hit s sep i (Nat.le_refl _) h, Nat.add_comm 1, Lib.splitB_hit _ _ _ _ _ h, List.map_cons, split_hit _ _ _ hi, ih _ (by rw [hz, ByteArray.size_extract]; omega), Nat.add_zero, Lib.extract_from_zero, List.nil_append, hz]
      congr 2
      rw [Lib.extract_to_end]
end Go.Proofs.Ytpnpgjjbincigaa.Can
