/- Contracts of label: named, Name, Metric, Value, one. -/
import Derived.Test.YthnaninhbofeoaaDoorUtfC
import Derived.Test.YthnaninhbofeoaaDoorLabP
namespace Go.Proofs.YthnaninhbofeoaaDoor
open Go.RowKit

/-- the classes of a byte, as the walk asks -/
theorem Lab.kinds (o : UInt8) (f : Bool) (c : UInt8) :
    (((97 ≤ (c.toNat : Int) ∧ (c.toNat : Int) ≤ 122) ∨ ((c.toNat : Int) < 97 ∧ 65 ≤ (c.toNat : Int) ∧ (c.toNat : Int) ≤ 90) ∨ (90 < (c.toNat : Int) ∧ (c.toNat : Int) < 97 ∧ ((c.toNat : Int) == 95) = true)) ∧ Lab.okByte o f c = true) ∨
    ((((c.toNat : Int) < 48 ∧ ((c.toNat : Int) == 95) = false) ∨ (48 ≤ (c.toNat : Int) ∧ (c.toNat : Int) ≤ 57 ∧ ((c.toNat : Int) == 95) = false) ∨ (57 < (c.toNat : Int) ∧ (c.toNat : Int) < 65 ∧ ((c.toNat : Int) == 95) = false) ∨ (90 < (c.toNat : Int) ∧ (c.toNat : Int) < 97 ∧ ((c.toNat : Int) == 95) = false) ∨ (122 < (c.toNat : Int) ∧ ((c.toNat : Int) == 95) = false)) ∧
      ((((c.toNat : Int) == (o.toNat : Int)) = true ∧ Lab.okByte o f c = true) ∨ (((c.toNat : Int) == (o.toNat : Int)) = false ∧ Lab.okByte o f c = (!f && decide (48 ≤ (c.toNat : Int) ∧ (c.toNat : Int) ≤ 57))))) := by
  have e : ∀ k : UInt8, (c == k) = ((c.toNat : Int) == (k.toNat : Int)) := by
    intro k
    rw [Bool.eq_iff_iff]; simp only [beq_iff_eq]; rw [← UInt8.toNat_inj]; omega
  unfold Lab.okByte Lab.letter Lab.digit
  simp only [e, le_u8]
  have hc : (c.toNat : Int) < 256 := by have := c.toNat_lt; omega
  generalize (o.toNat : Int) = y at *
  generalize (c.toNat : Int) = z at *
  have n95 : ((95 : UInt8).toNat : Int) = 95 := rfl
  have n97 : ((97 : UInt8).toNat : Int) = 97 := rfl
  have n122 : ((122 : UInt8).toNat : Int) = 122 := rfl
  have n65 : ((65 : UInt8).toNat : Int) = 65 := rfl
  have n90 : ((90 : UInt8).toNat : Int) = 90 := rfl
  have n48 : ((48 : UInt8).toNat : Int) = 48 := rfl
  have n57 : ((57 : UInt8).toNat : Int) = 57 := rfl
  rw [n95, n97, n122, n65, n90, n48, n57]
  by_cases h1 : 97 ≤ z ∧ z ≤ 122
  · left; refine ⟨.inl h1, ?_⟩; simp [h1.1, h1.2]
  by_cases h2 : 65 ≤ z ∧ z ≤ 90
  · left; refine ⟨.inr (.inl ⟨by omega, h2.1, h2.2⟩), ?_⟩; simp [h2.1, h2.2]
  by_cases h3 : z = 95
  · left; refine ⟨.inr (.inr ⟨by omega, by omega, by simp [h3]⟩), ?_⟩; simp [h3]
  right
  have b3 : (z == 95) = false := by simpa using h3
  have b1 : (decide (97 ≤ z) && decide (z ≤ 122)) = false := by simp; omega
  have b2 : (decide (65 ≤ z) && decide (z ≤ 90)) = false := by simp; omega
  rw [b1, b2, b3]
  refine ⟨?_, ?_⟩
  · by_cases z < 48
    · exact .inl ⟨by omega, rfl⟩
    by_cases z ≤ 57
    · exact .inr (.inl ⟨by omega, by omega, rfl⟩)
    by_cases z < 65
    · exact .inr (.inr (.inl ⟨by omega, by omega, rfl⟩))
    by_cases z < 97
    · exact .inr (.inr (.inr (.inl ⟨by omega, by omega, rfl⟩)))
    · exact .inr (.inr (.inr (.inr ⟨by omega, rfl⟩)))
  · cases h : (z == y) with
    | true => exact .inl ⟨rfl, rfl⟩
    | false => right; refine ⟨rfl, ?_⟩; simp

set_option maxHeartbeats 1600000 in
set_option maxRecDepth 100000 in
theorem named_is (s : ByteArray) (o : UInt8) (b : Bool) (h : Lab.named o s.data.toList = b) (w : World) (hs : s.size ≤ maxLen) :
    Calls Tryd.prog 111 #[.string s, .int .u8 o.toNat] w fun e w' => e = .returned (.bool b) ∧ w = w' := by
  unfold maxLen at hs
  have hl : s.data.toList.length = s.size := by simp
  by_cases h1 : 1 ≤ s.size ∧ s.size ≤ 128
  · rw [Lab.named_mid o _ (by omega) (by omega)] at h
    have H0 := Lib.hid h
    have h2 := h1.1
    have h3 := h1.2
    clear h hl h1
    go_enter Tryd.func111, Tryd.ntmps111
    go_wp2
    go_loop [18] (fun i => ∃ k : Nat, k ≤ s.size ∧ i = .int .i64 k ∧ Hid (Lab.bytesOk o (k == 0) (s.data.toList.drop k) = b)) (fun i => s.size - (intOf i).toNat)
    case atStart => exact ⟨0, Nat.zero_le _, rfl, H0⟩
    case round =>
      obtain ⟨k, hk, rfl, HK⟩ := hrel
      by_cases hlt : k < s.size
      · have HD := Lib.hid (Utf.drop_cons s k hlt)
        have HY : Lab.okByte o (k == 0) s[k] = true → Hid (Lab.bytesOk o (k + 1 == 0) (s.data.toList.drop (k + 1)) = b) := by
          intro h
          have h2 := HK.out
          rw [HD.out, Lab.bytesOk_yes _ _ _ _ h] at h2
          exact h2
        have HN : Lab.okByte o (k == 0) s[k] = false → Hid (b = false) := by
          intro h
          have h2 := HK.out
          rw [HD.out, Lab.bytesOk_no _ _ _ _ h] at h2
          exact h2.symm
        clear HK HD H0
        have HK := Lab.kinds o (k == 0) s[k]
        have hc : (s[k].toNat : Int) < 256 := by have := s[k].toNat_lt; omega
        rcases HK with ⟨hh, hok⟩ | ⟨hh, ⟨ho, hok⟩ | ⟨ho, hok⟩⟩
        · have HY := HY hok
          clear HN hok
          rcases hh with ⟨g1, g2⟩ | ⟨g1, g2, g3⟩ | ⟨g1, g2, g3⟩
          all_goals
            go_wp2
            go_round
            case rel => exact ⟨k + 1, by omega, by go_num, HY⟩
            case measure => simp [intOf]; omega
        · have HY := HY hok
          clear HN hok
          rcases hh with ⟨g1, g2⟩ | ⟨g1, g2, g3⟩ | ⟨g1, g2, g3⟩ | ⟨g1, g2, g3⟩ | ⟨g1, g2⟩
          all_goals
            go_wp2
            go_round
            case rel => exact ⟨k + 1, by omega, by go_num, HY⟩
            case measure => simp [intOf]; omega
        · by_cases hk0 : k = 0
          · have b0 : ((k : Int) == 0) = true := by simp; omega
            have HN := HN (by rw [hok]; simp [hk0])
            clear HY hok hk0
            rcases hh with ⟨g1, g2⟩ | ⟨g1, g2, g3⟩ | ⟨g1, g2, g3⟩ | ⟨g1, g2, g3⟩ | ⟨g1, g2⟩
            all_goals
              go_wp2
              try (case roundEnd => exfalso; rename_i q; simp at q; omega)
              go_ret
              exact ⟨by rw [HN.out]; rfl, rfl⟩
          · have b0 : ((k : Int) == 0) = false := by simp; omega
            have b1 : (k == 0) = false := by simp; omega
            rw [b1] at hok
            rcases hh with ⟨g1, g2⟩ | ⟨g1, g2, g3⟩ | ⟨g1, g2, g3⟩ | ⟨g1, g2, g3⟩ | ⟨g1, g2⟩
            case inr.inl =>
              have HY := HY (by rw [b1, hok]; simp only [Bool.not_false, Bool.true_and, decide_eq_true_eq]; omega)
              clear HN hok b1 hk0
              go_wp2
              go_round
              case rel => exact ⟨k + 1, by omega, by go_num, HY⟩
              case measure => simp [intOf]; omega
            all_goals
              have HN := HN (by rw [b1, hok]; simp only [Bool.not_false, Bool.true_and, decide_eq_false_iff_not]; omega)
              clear HY hok b1 hk0
              go_wp2
              try (case roundEnd => exfalso; rename_i q; simp at q; omega)
              go_ret
              exact ⟨by rw [HN.out]; rfl, rfl⟩
      · have HB : Hid (b = true) := by
          have h2 := HK.out
          rw [List.drop_eq_nil_iff.2 (by simp; omega)] at h2
          exact h2.symm
        clear HK H0
        go_wp2
        go_ret
        exact ⟨by rw [HB.out]; rfl, rfl⟩
  · have hf := Lab.named_short o s.data.toList (by omega)
    rw [hf] at h
    subst h
    clear hf hl
    by_cases h2 : s.size < 1
    · go_enter Tryd.func111, Tryd.ntmps111
      go_wp2
      go_ret
      exact ⟨rfl, rfl⟩
    · have h3 : 128 < s.size := by omega
      clear h1
      go_enter Tryd.func111, Tryd.ntmps111
      go_wp2
      go_ret
      exact ⟨rfl, rfl⟩
end Go.Proofs.YthnaninhbofeoaaDoor
