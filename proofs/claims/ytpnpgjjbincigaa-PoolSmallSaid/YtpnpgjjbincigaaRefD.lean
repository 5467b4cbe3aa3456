/- Contracts of the reference's labels: Name, Value, wrong, Less. (Printed by gen_refd.py.) -/
import Derived.Test.YtpnpgjjbincigaaRefC
import Derived.Test.YtpnpgjjbincigaaLabC
namespace Go.Proofs.Ytpnpgjjbincigaa
open Go.RowKit

/-- the classes of a byte, as the reference asks -/
theorem Lab.sorts (o c : UInt8) (ho : o = 95 ∨ o = 58) :
    ((97 ≤ (c.toNat : Int) ∧ (c.toNat : Int) ≤ 122) ∧ Lab.okByte o false c = true) ∨
    ((65 ≤ (c.toNat : Int) ∧ (c.toNat : Int) ≤ 90) ∧ Lab.okByte o false c = true) ∨
    ((48 ≤ (c.toNat : Int) ∧ (c.toNat : Int) ≤ 57) ∧ Lab.okByte o false c = true) ∨
    ((90 < (c.toNat : Int) ∧ (c.toNat : Int) < 97) ∧ (((c.toNat : Int) == 95) = true) ∧ Lab.okByte o false c = true) ∨
    ((57 < (c.toNat : Int) ∧ (c.toNat : Int) < 65) ∧ (((c.toNat : Int) == 58) = true) ∧ Lab.okByte o false c = (o == 58)) ∨
    (((c.toNat : Int) < 48) ∧ Lab.okByte o false c = false) ∨
    ((57 < (c.toNat : Int) ∧ (c.toNat : Int) < 65) ∧ (((c.toNat : Int) == 58) = false) ∧ Lab.okByte o false c = false) ∨
    ((90 < (c.toNat : Int) ∧ (c.toNat : Int) < 97) ∧ (((c.toNat : Int) == 95) = false) ∧ Lab.okByte o false c = false) ∨
    (122 < (c.toNat : Int) ∧ Lab.okByte o false c = false) := by
  have e : ∀ k : UInt8, (c == k) = ((c.toNat : Int) == (k.toNat : Int)) := by
    intro k
    rw [Bool.eq_iff_iff]; simp only [beq_iff_eq]; rw [← UInt8.toNat_inj]; omega
  have ho' : (o.toNat : Int) = 95 ∨ (o.toNat : Int) = 58 := by rcases ho with rfl | rfl <;> simp
  have e58 : (o == 58) = ((o.toNat : Int) == 58) := by rcases ho with rfl | rfl <;> rfl
  rw [e58]
  unfold Lab.okByte Lab.letter Lab.digit
  simp only [e, le_u8]
  have hc : (c.toNat : Int) < 256 := by have := c.toNat_lt; omega
  generalize (o.toNat : Int) = y at *
  generalize (c.toNat : Int) = z at *
  have n95 : ((95 : UInt8).toNat : Int) = 95 := rfl
  have n97 : ((97 : UInt8).toNat : Int) = 97 := rfl
  have n122 : ((122 : UInt8).toNat : Int) = 122 := rfl
  have n65 : ((65 : UInt8).toNat : Int) = 65 := rfl
  have n90 : ((90 : UInt8).toNat : Int) = 90 := rfl
  have n48 : ((48 : UInt8).toNat : Int) = 48 := rfl
  have n57 : ((57 : UInt8).toNat : Int) = 57 := rfl
  rw [n95, n97, n122, n65, n90, n48, n57]
  by_cases h1 : 97 ≤ z ∧ z ≤ 122
  · exact .inl ⟨h1, by simp [h1.1, h1.2]⟩
  by_cases h2 : 65 ≤ z ∧ z ≤ 90
  · exact .inr (.inl ⟨h2, by simp [h2.1, h2.2]⟩)
  by_cases h3 : 48 ≤ z ∧ z ≤ 57
  · exact .inr (.inr (.inl ⟨h3, by simp [h3.1, h3.2]⟩))
  have b1 : (decide (97 ≤ z) && decide (z ≤ 122)) = false := by simp; omega
  have b2 : (decide (65 ≤ z) && decide (z ≤ 90)) = false := by simp; omega
  have b3 : (decide (48 ≤ z) && decide (z ≤ 57)) = false := by simp; omega
  rw [b1, b2, b3]
  by_cases h4 : z = 95
  · subst h4
    exact .inr (.inr (.inr (.inl ⟨by omega, by simp, by simp⟩)))
  have b4 : (z == 95) = false := by simpa using h4
  rw [b4]
  by_cases h5 : z = 58
  · subst h5
    refine .inr (.inr (.inr (.inr (.inl ⟨by omega, by simp, ?_⟩))))
    rcases ho' with rfl | rfl <;> simp
  have b5 : (z == 58) = false := by simpa using h5
  have b6 : (z == y) = false := by rcases ho' with rfl | rfl <;> simp <;> omega
  rw [b6]
  refine .inr (.inr (.inr (.inr (.inr ?_))))
  by_cases z < 48
  · exact .inl ⟨by omega, rfl⟩
  by_cases z < 65
  · exact .inr (.inl ⟨by omega, b5, rfl⟩)
  by_cases z < 97
  · exact .inr (.inr (.inl ⟨by omega, rfl, rfl⟩))
  · exact .inr (.inr (.inr ⟨by omega, rfl⟩))

theorem Lab.bytesOk_first (o c : UInt8) (r : List UInt8) (h : ¬ (48 ≤ (c.toNat : Int) ∧ (c.toNat : Int) ≤ 57)) : Lab.bytesOk o true (c :: r) = Lab.bytesOk o false (c :: r) := by
  have hd : Lab.digit c = false := by
    unfold Lab.digit
    simp only [le_u8]
    simp only [Bool.and_eq_false_iff, decide_eq_false_iff_not]
    have n48 : ((48 : UInt8).toNat : Int) = 48 := rfl
    have n57 : ((57 : UInt8).toNat : Int) = 57 := rfl
    rw [n48, n57]
    omega
  simp [Lab.bytesOk, Lab.okByte, hd]
theorem Lab.bytesOk_digit (o c : UInt8) (r : List UInt8) (ho : o = 95 ∨ o = 58) (h : 48 ≤ (c.toNat : Int) ∧ (c.toNat : Int) ≤ 57) : Lab.bytesOk o true (c :: r) = false := by
  apply Lab.bytesOk_no
  unfold Lab.okByte Lab.letter
  have e : ∀ k : UInt8, (c == k) = ((c.toNat : Int) == (k.toNat : Int)) := by
    intro k
    rw [Bool.eq_iff_iff]; simp only [beq_iff_eq]; rw [← UInt8.toNat_inj]; omega
  simp only [e, le_u8]
  have ho' : (o.toNat : Int) = 95 ∨ (o.toNat : Int) = 58 := by rcases ho with rfl | rfl <;> simp
  generalize (o.toNat : Int) = y at *
  generalize (c.toNat : Int) = z at *
  have n95 : ((95 : UInt8).toNat : Int) = 95 := rfl
  have n97 : ((97 : UInt8).toNat : Int) = 97 := rfl
  have n122 : ((122 : UInt8).toNat : Int) = 122 := rfl
  have n65 : ((65 : UInt8).toNat : Int) = 65 := rfl
  have n90 : ((90 : UInt8).toNat : Int) = 90 := rfl
  rw [n95, n97, n122, n65, n90]
  rcases ho' with rfl | rfl <;> simp <;> omega

set_option maxHeartbeats 3200000 in
set_option maxRecDepth 100000 in
theorem rname_is (s : ByteArray) (col : Bool) (o : UInt8) (ho : o = if col = true then 58 else 95) (b : Bool) (h : Lab.named o s.data.toList = b) (w : World) (hs : s.size ≤ maxLen) :
    Calls Try.prog 125 #[.string s, .bool col] w fun e w' => e = .returned (.bool b) ∧ ∃ n, w' = w.drewN n := by
  unfold maxLen at hs
  have ho2 : o = 95 ∨ o = 58 := by cases col <;> simp at ho <;> simp [ho]
  have ho3 : (o == 58) = col := by cases col <;> simp at ho <;> subst ho <;> rfl
  by_cases h1 : 1 ≤ s.size ∧ s.size ≤ 128
  · rw [Lab.named_mid o _ (by rw [Utf.len_is]; omega) (by rw [Utf.len_is]; omega)] at h
    have h2 := h1.1
    have h3 := h1.2
    have hD := Utf.drop_cons s 0 h2
    rw [List.drop_zero] at hD
    have z0 : ((s.size : Int) == 0) = false := beq_eq_false_iff_ne.2 (by omega)
    have hc : (s[0].toNat : Int) < 256 := by have := s[0].toNat_lt; omega
    clear h1
    by_cases hg : 48 ≤ (s[0].toNat : Int) ∧ (s[0].toNat : Int) ≤ 57
    · have hb : b = false := by rw [← h, hD]; exact Lab.bytesOk_digit _ _ _ ho2 hg
      subst hb
      obtain ⟨g1, g2⟩ := hg
      clear h hD ho2 ho3 ho
      go_enter Try.func125, Try.ntmps125
      go_wp2_with fail
      go_ret
      exact ⟨rfl, 0, rfl⟩
    · have H0 : Hid (Lab.bytesOk o false (s.data.toList.drop 0) = b) := by
        show Lab.bytesOk o false (s.data.toList.drop 0) = b
        rw [List.drop_zero, ← h, hD, Lab.bytesOk_first _ _ _ hg]
      clear h hD
      have go : ∀ (_ : (s[0].toNat : Int) < 48 ∨ 57 < (s[0].toNat : Int)), Calls Try.prog 125 #[.string s, .bool col] w fun e w' => e = .returned (.bool b) ∧ ∃ n, w' = w.drewN n := by
        intro hgg
        rcases hgg with g1 | g1
        all_goals
          clear hg
          go_enter Try.func125, Try.ntmps125
          go_wp2_with fail
          go_loopw [5] (fun i wr => ∃ k : Nat, k ≤ s.size ∧ i = .int .i64 k ∧ Hid (Lab.bytesOk o false (s.data.toList.drop k) = b) ∧ ∃ n, wr = w.drewN n) (fun i _ => s.size - (intOf i).toNat)
          case atStart => exact ⟨0, Nat.zero_le _, rfl, H0, 0, rfl⟩
          case round =>
            obtain ⟨k, hk, rfl, HK, nw, rfl⟩ := hrel
            by_cases hlt : k < s.size
            · have HD := Lib.hid (Utf.drop_cons s k hlt)
              have HY : Lab.okByte o false s[k] = true → Hid (Lab.bytesOk o false (s.data.toList.drop (k + 1)) = b) := by
                intro h
                have h2 := HK.out
                rw [HD.out, Lab.bytesOk_yes _ _ _ _ h] at h2
                exact h2
              have HN : Lab.okByte o false s[k] = false → Hid (b = false) := by
                intro h
                have h2 := HK.out
                rw [HD.out, Lab.bytesOk_no _ _ _ _ h] at h2
                exact h2.symm
              clear HK HD H0
              have hck : (s[k].toNat : Int) < 256 := by have := s[k].toNat_lt; omega
              have HS := Lab.sorts o s[k] ho2
              clear ho ho2
              rcases HS with ⟨⟨f1, f2⟩, ok⟩ | ⟨⟨f1, f2⟩, ok⟩ | ⟨⟨f1, f2⟩, ok⟩ | ⟨⟨f1, f2⟩, f3, ok⟩ | ⟨⟨f1, f2⟩, f3, ok⟩ | ⟨f1, ok⟩ | ⟨⟨f1, f2⟩, f3, ok⟩ | ⟨⟨f1, f2⟩, f3, ok⟩ | ⟨f1, ok⟩
              · have HY := HY ok
                have a0 : decide ((97 : Int) ≤ (s[k].toNat : Int)) = true := decide_eq_true (by omega)
                have a1 : decide ((s[k].toNat : Int) ≤ 122) = true := decide_eq_true (by omega)
                have a2 : decide ((65 : Int) ≤ (s[k].toNat : Int)) = true := decide_eq_true (by omega)
                have a3 : decide ((s[k].toNat : Int) ≤ 90) = false := decide_eq_false (by omega)
                have a4 : decide ((48 : Int) ≤ (s[k].toNat : Int)) = true := decide_eq_true (by omega)
                have a5 : decide ((s[k].toNat : Int) ≤ 57) = false := decide_eq_false (by omega)
                clear HN ok ho3
                go_wp2_with fail
                go_quiet (fail)
                go_wp2_with fail
                go_roundw
                case rel => exact ⟨k + 1, by omega, by go_num, HY, _, rfl⟩
                case measure => simp [intOf]; omega
              · have HY := HY ok
                have a0 : decide ((97 : Int) ≤ (s[k].toNat : Int)) = false := decide_eq_false (by omega)
                have a1 : decide ((s[k].toNat : Int) ≤ 122) = true := decide_eq_true (by omega)
                have a2 : decide ((65 : Int) ≤ (s[k].toNat : Int)) = true := decide_eq_true (by omega)
                have a3 : decide ((s[k].toNat : Int) ≤ 90) = true := decide_eq_true (by omega)
                have a4 : decide ((48 : Int) ≤ (s[k].toNat : Int)) = true := decide_eq_true (by omega)
                have a5 : decide ((s[k].toNat : Int) ≤ 57) = false := decide_eq_false (by omega)
                clear HN ok ho3
                go_wp2_with fail
                go_quiet (fail)
                go_wp2_with fail
                go_roundw
                case rel => exact ⟨k + 1, by omega, by go_num, HY, _, rfl⟩
                case measure => simp [intOf]; omega
              · have HY := HY ok
                have a0 : decide ((97 : Int) ≤ (s[k].toNat : Int)) = false := decide_eq_false (by omega)
                have a1 : decide ((s[k].toNat : Int) ≤ 122) = true := decide_eq_true (by omega)
                have a2 : decide ((65 : Int) ≤ (s[k].toNat : Int)) = false := decide_eq_false (by omega)
                have a3 : decide ((s[k].toNat : Int) ≤ 90) = true := decide_eq_true (by omega)
                have a4 : decide ((48 : Int) ≤ (s[k].toNat : Int)) = true := decide_eq_true (by omega)
                have a5 : decide ((s[k].toNat : Int) ≤ 57) = true := decide_eq_true (by omega)
                clear HN ok ho3
                go_wp2_with fail
                go_quiet (fail)
                go_wp2_with fail
                go_roundw
                case rel => exact ⟨k + 1, by omega, by go_num, HY, _, rfl⟩
                case measure => simp [intOf]; omega
              · have HY := HY ok
                have a0 : decide ((97 : Int) ≤ (s[k].toNat : Int)) = false := decide_eq_false (by omega)
                have a1 : decide ((s[k].toNat : Int) ≤ 122) = true := decide_eq_true (by omega)
                have a2 : decide ((65 : Int) ≤ (s[k].toNat : Int)) = true := decide_eq_true (by omega)
                have a3 : decide ((s[k].toNat : Int) ≤ 90) = false := decide_eq_false (by omega)
                have a4 : decide ((48 : Int) ≤ (s[k].toNat : Int)) = true := decide_eq_true (by omega)
                have a5 : decide ((s[k].toNat : Int) ≤ 57) = false := decide_eq_false (by omega)
                clear HN ok ho3
                go_wp2_with fail
                go_quiet (fail)
                go_wp2_with fail
                go_roundw
                case rel => exact ⟨k + 1, by omega, by go_num, HY, _, rfl⟩
                case measure => simp [intOf]; omega
              · rw [ho3] at ok
                have a0 : decide ((97 : Int) ≤ (s[k].toNat : Int)) = false := decide_eq_false (by omega)
                have a1 : decide ((s[k].toNat : Int) ≤ 122) = true := decide_eq_true (by omega)
                have a2 : decide ((65 : Int) ≤ (s[k].toNat : Int)) = false := decide_eq_false (by omega)
                have a3 : decide ((s[k].toNat : Int) ≤ 90) = true := decide_eq_true (by omega)
                have a4 : decide ((48 : Int) ≤ (s[k].toNat : Int)) = true := decide_eq_true (by omega)
                have a5 : decide ((s[k].toNat : Int) ≤ 57) = false := decide_eq_false (by omega)
                have b95 : ((s[k].toNat : Int) == 95) = false := by simp; omega
                cases col
                · have HN := HN ok
                  clear HY ok ho3
                  go_wp2_with fail
                  go_quiet (fail)
                  go_wp2_with fail
                  go_ret
                  exact ⟨by rw [HN.out]; rfl, _, rfl⟩
                · have HY := HY ok
                  clear HN ok ho3
                  go_wp2_with fail
                  go_quiet (fail)
                  go_wp2_with fail
                  go_roundw
                  case rel => exact ⟨k + 1, by omega, by go_num, HY, _, rfl⟩
                  case measure => simp [intOf]; omega
              · have HN := HN ok
                have a0 : decide ((97 : Int) ≤ (s[k].toNat : Int)) = false := decide_eq_false (by omega)
                have a1 : decide ((s[k].toNat : Int) ≤ 122) = true := decide_eq_true (by omega)
                have a2 : decide ((65 : Int) ≤ (s[k].toNat : Int)) = false := decide_eq_false (by omega)
                have a3 : decide ((s[k].toNat : Int) ≤ 90) = true := decide_eq_true (by omega)
                have a4 : decide ((48 : Int) ≤ (s[k].toNat : Int)) = false := decide_eq_false (by omega)
                have a5 : decide ((s[k].toNat : Int) ≤ 57) = true := decide_eq_true (by omega)
                have b95 : ((s[k].toNat : Int) == 95) = false := by simp; omega
                have b58 : ((s[k].toNat : Int) == 58) = false := by simp; omega
                clear HY ok ho3
                go_wp2_with fail
                go_quiet (fail)
                go_wp2_with fail
                go_ret
                exact ⟨by rw [HN.out]; rfl, _, rfl⟩
              · have HN := HN ok
                have a0 : decide ((97 : Int) ≤ (s[k].toNat : Int)) = false := decide_eq_false (by omega)
                have a1 : decide ((s[k].toNat : Int) ≤ 122) = true := decide_eq_true (by omega)
                have a2 : decide ((65 : Int) ≤ (s[k].toNat : Int)) = false := decide_eq_false (by omega)
                have a3 : decide ((s[k].toNat : Int) ≤ 90) = true := decide_eq_true (by omega)
                have a4 : decide ((48 : Int) ≤ (s[k].toNat : Int)) = true := decide_eq_true (by omega)
                have a5 : decide ((s[k].toNat : Int) ≤ 57) = false := decide_eq_false (by omega)
                have b95 : ((s[k].toNat : Int) == 95) = false := by simp; omega
                have m58 : ¬ ((s[k].toNat : Int) = 58) := by simpa using f3
                clear HY ok ho3
                go_wp2_with fail
                go_quiet (fail)
                go_wp2_with fail
                go_ret
                exact ⟨by rw [HN.out]; rfl, _, rfl⟩
              · have HN := HN ok
                have a0 : decide ((97 : Int) ≤ (s[k].toNat : Int)) = false := decide_eq_false (by omega)
                have a1 : decide ((s[k].toNat : Int) ≤ 122) = true := decide_eq_true (by omega)
                have a2 : decide ((65 : Int) ≤ (s[k].toNat : Int)) = true := decide_eq_true (by omega)
                have a3 : decide ((s[k].toNat : Int) ≤ 90) = false := decide_eq_false (by omega)
                have a4 : decide ((48 : Int) ≤ (s[k].toNat : Int)) = true := decide_eq_true (by omega)
                have a5 : decide ((s[k].toNat : Int) ≤ 57) = false := decide_eq_false (by omega)
                have b58 : ((s[k].toNat : Int) == 58) = false := by simp; omega
                have m95 : ¬ ((s[k].toNat : Int) = 95) := by simpa using f3
                clear HY ok ho3
                go_wp2_with fail
                go_quiet (fail)
                go_wp2_with fail
                go_ret
                exact ⟨by rw [HN.out]; rfl, _, rfl⟩
              · have HN := HN ok
                have a0 : decide ((97 : Int) ≤ (s[k].toNat : Int)) = true := decide_eq_true (by omega)
                have a1 : decide ((s[k].toNat : Int) ≤ 122) = false := decide_eq_false (by omega)
                have a2 : decide ((65 : Int) ≤ (s[k].toNat : Int)) = true := decide_eq_true (by omega)
                have a3 : decide ((s[k].toNat : Int) ≤ 90) = false := decide_eq_false (by omega)
                have a4 : decide ((48 : Int) ≤ (s[k].toNat : Int)) = true := decide_eq_true (by omega)
                have a5 : decide ((s[k].toNat : Int) ≤ 57) = false := decide_eq_false (by omega)
                have b95 : ((s[k].toNat : Int) == 95) = false := by simp; omega
                have b58 : ((s[k].toNat : Int) == 58) = false := by simp; omega
                clear HY ok ho3
                go_wp2_with fail
                go_quiet (fail)
                go_wp2_with fail
                go_ret
                exact ⟨by rw [HN.out]; rfl, _, rfl⟩
            · have HB : Hid (b = true) := by
                have h2 := HK.out
                rw [List.drop_eq_nil_iff.2 (by simp; omega)] at h2
                exact h2.symm
              clear HK H0
              go_wp2_with fail
              go_ret
              exact ⟨by rw [HB.out]; rfl, _, rfl⟩
      exact go (by omega)
  · rw [Lab.named_short o _ (by rw [Utf.len_is]; omega)] at h
    subst h
    clear ho ho2 ho3
    by_cases h2 : s.size < 1
    · have z0 : ((s.size : Int) == 0) = true := beq_iff_eq.2 (by omega)
      clear h1
      go_enter Try.func125, Try.ntmps125
      go_wp2_with fail
      go_ret
      exact ⟨rfl, 0, rfl⟩
    · have h3 : 128 < s.size := by omega
      have z0 : ((s.size : Int) == 0) = false := beq_eq_false_iff_ne.2 (by omega)
      clear h1
      go_enter Try.func125, Try.ntmps125
      go_wp2_with fail
      go_ret
      exact ⟨rfl, 0, rfl⟩
end Go.Proofs.Ytpnpgjjbincigaa
