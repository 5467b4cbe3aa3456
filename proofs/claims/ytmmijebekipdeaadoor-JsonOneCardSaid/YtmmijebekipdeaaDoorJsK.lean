/- Plain words: a code point that has been read is written as it stood; how a string is quoted. -/
import Derived.Test.YtmmijebekipdeaaDoorJsU
namespace Go.Proofs.YtmmijebekipdeaaDoor

set_option maxHeartbeats 8000000 in
theorem Js.runeN_point (n b0 b1 b2 b3 r c d2 : Nat) (h0 : b0 < 256) (h1 : b1 < 256) (h2 : b2 < 256) (h3 : b3 < 256) (g1 : 128 ≤ b1 → 1 < n) (g2 : 128 ≤ b2 → 2 < n) (g3 : 128 ≤ b3 → 3 < n)
    (hr : Js.runeN b0 b1 b2 b3 = r) (hd : Lib.decodeN n b0 b1 b2 b3 = (c, d2)) (_hz : r ≠ 0) :
    (r = 1 → c = b0 ∧ c < 128) ∧ (r = 2 → 128 ≤ c ∧ c < 2048 ∧ 192 + c / 64 = b0 ∧ 128 + c % 64 = b1) ∧
    (r = 3 → 2048 ≤ c ∧ c < 65536 ∧ ¬ (55296 ≤ c ∧ c ≤ 57343) ∧ 224 + c / 4096 = b0 ∧ 128 + c / 64 % 64 = b1 ∧ 128 + c % 64 = b2) ∧
    (r = 4 → 65536 ≤ c ∧ c ≤ 1114111 ∧ 240 + c / 262144 = b0 ∧ 128 + c / 4096 % 64 = b1 ∧ 128 + c / 64 % 64 = b2 ∧ 128 + c % 64 = b3) ∧ r ≤ 4 := by
  unfold Js.runeN at hr
  unfold Lib.decodeN at hd
  split at hr
  case isTrue hlt =>
    rw [if_pos hlt] at hd
    simp only [Prod.mk.injEq] at hd
    omega
  case isFalse hge =>
    rw [if_neg hge] at hd
    split at hr
    case isTrue h =>
      split at hr
      case isFalse => omega
      case isTrue h' =>
        rw [if_pos ⟨by omega, g1 h'.1, by omega⟩, if_pos (by omega)] at hd
        simp only [Prod.mk.injEq] at hd
        omega
    case isFalse h =>
      split at hr
      case isTrue h' =>
        split at hr
        case isFalse => omega
        case isTrue h'' =>
          rw [if_neg (by omega), if_pos ⟨by omega, ⟨g1 h''.1, by omega⟩, g2 h''.2.2.1, by omega⟩, if_pos (by omega)] at hd
          simp only [Prod.mk.injEq] at hd
          omega
      case isFalse h' =>
        split at hr
        case isFalse => omega
        case isTrue h'' =>
          split at hr
          case isFalse => omega
          case isTrue h4 =>
            rw [if_neg (by omega), if_neg (by omega), if_pos ⟨by omega, ⟨g1 h4.1, by omega⟩, ⟨g2 h4.2.2.1, by omega⟩, g3 h4.2.2.2.2.1, by omega⟩, if_pos (by omega)] at hd
            simp only [Prod.mk.injEq] at hd
            omega
theorem Js.decode_point (s : ByteArray) (i : Nat) (h : Js.rune s i ≠ 0) :
    (Js.rune s i = 1 → (Utf8.decode s i).1 = Js.nx s i ∧ (Utf8.decode s i).1 < 128) ∧
    (Js.rune s i = 2 → 128 ≤ (Utf8.decode s i).1 ∧ (Utf8.decode s i).1 < 2048 ∧ 192 + (Utf8.decode s i).1 / 64 = Js.nx s i ∧ 128 + (Utf8.decode s i).1 % 64 = Js.nx s (i + 1)) ∧
    (Js.rune s i = 3 → 2048 ≤ (Utf8.decode s i).1 ∧ (Utf8.decode s i).1 < 65536 ∧ ¬ (55296 ≤ (Utf8.decode s i).1 ∧ (Utf8.decode s i).1 ≤ 57343) ∧ 224 + (Utf8.decode s i).1 / 4096 = Js.nx s i ∧ 128 + (Utf8.decode s i).1 / 64 % 64 = Js.nx s (i + 1) ∧ 128 + (Utf8.decode s i).1 % 64 = Js.nx s (i + 2)) ∧
    (Js.rune s i = 4 → 65536 ≤ (Utf8.decode s i).1 ∧ (Utf8.decode s i).1 ≤ 1114111 ∧ 240 + (Utf8.decode s i).1 / 262144 = Js.nx s i ∧ 128 + (Utf8.decode s i).1 / 4096 % 64 = Js.nx s (i + 1) ∧ 128 + (Utf8.decode s i).1 / 64 % 64 = Js.nx s (i + 2) ∧ 128 + (Utf8.decode s i).1 % 64 = Js.nx s (i + 3)) ∧ Js.rune s i ≤ 4 := by
  have hn : ∀ k, 128 ≤ Js.nx s k → k < s.size := fun k h => Nat.lt_of_not_le fun hh => by have := Js.nx_end s k hh; omega
  obtain ⟨d, hd⟩ : ∃ d, Utf8.decode s i = d := ⟨_, rfl⟩
  have hd2 := hd
  rw [Lib.decode_at, ← Js.nx_get!, ← Js.nx_get!, ← Js.nx_get!, ← Js.nx_get!] at hd2
  rw [hd]
  rw [Js.rune_eq] at h ⊢
  exact Js.runeN_point (s.size - i) _ _ _ _ _ d.1 d.2 (Js.nx_lt s _) (Js.nx_lt s _) (Js.nx_lt s _) (Js.nx_lt s _) (fun h => by have := hn _ h; omega) (fun h => by have := hn _ h; omega) (fun h => by have := hn _ h; omega) rfl hd2 h

/-- what is written for a byte of a string -/
def Js.qc (c : UInt8) : List UInt8 :=
  if c = 34 ∨ c = 92 then [92, c] else if 32 ≤ c.toNat then [c] else if c = 8 then [92, 98] else if c = 9 then [92, 116] else if c = 10 then [92, 110] else if c = 12 then [92, 102] else if c = 13 then [92, 114]
  else [92, 117, 48, 48, UInt8.ofNat (48 + c.toNat / 16), UInt8.ofNat (if c.toNat % 16 < 10 then 48 + c.toNat % 16 else 87 + c.toNat % 16)]
/-- the text of a string -/
def Js.quo (l : List UInt8) : List UInt8 := 34 :: (l.flatMap Js.qc ++ [34])
theorem Js.qc_high (c : UInt8) (h : 128 ≤ c.toNat) : Js.qc c = [c] := by
  unfold Js.qc
  rw [if_neg (fun e => by rcases e with rfl | rfl <;> revert h <;> decide), if_pos (by omega)]
theorem Js.qc_le (c : UInt8) : (Js.qc c).length ≤ 6 := by
  unfold Js.qc
  (repeat' split) <;> simp
end Go.Proofs.YtmmijebekipdeaaDoor
