/- Contracts of utf: head, second, Read, Check, Valid. -/
import Derived.Test.YthnaninhbofeoaaGreatDoorShelf
import Derived.WalkKit
import Derived.WalkSpells
import Derived.WalkLawsBesides
import Derived.Test.YthnaninhbofeoaaGreatDoorUtfP
import Derived.Lib.Hide
import Derived.Laws.BytesArg
namespace Go.Proofs.YthnaninhbofeoaaGreatDoor
open Go.RowKit

theorem lt_u8 (c k : UInt8) : c < k ↔ (c.toNat : Int) < (k.toNat : Int) := by rw [UInt8.lt_iff_toNat_lt]; omega
theorem le_u8 (c k : UInt8) : c ≤ k ↔ (c.toNat : Int) ≤ (k.toNat : Int) := by rw [UInt8.le_iff_toNat_le]; omega

theorem Utf.head_cases (c : UInt8) :
    ((c.toNat : Int) < 128 ∧ Utf.head c = 1) ∨ (128 ≤ (c.toNat : Int) ∧ (c.toNat : Int) < 194 ∧ Utf.head c = 0) ∨ (194 ≤ (c.toNat : Int) ∧ (c.toNat : Int) < 224 ∧ Utf.head c = 2) ∨
    (224 ≤ (c.toNat : Int) ∧ (c.toNat : Int) < 240 ∧ Utf.head c = 3) ∨ (240 ≤ (c.toNat : Int) ∧ (c.toNat : Int) < 245 ∧ Utf.head c = 4) ∨ (245 ≤ (c.toNat : Int) ∧ Utf.head c = 0) := by
  have hc : (c.toNat : Int) < 256 := by have := c.toNat_lt; omega
  unfold Utf.head
  simp only [lt_u8, le_u8]
  repeat' split
  all_goals simp_all
  all_goals omega

set_option maxHeartbeats 400000 in
theorem head_is (c : UInt8) (n : Nat) (h : Utf.head c = n) (w : World) :
    Calls Tryz.prog 148 #[.int .u8 c.toNat] w fun e w' => (∃ x : Int, e = .returned (.tuple #[.int .i64 n, .int .i64 x])) ∧ w = w' := by
  subst h
  have hc : (c.toNat : Int) < 256 := by have := c.toNat_lt; omega
  have h0 : 0 ≤ (c.toNat : Int) := by omega
  generalize hd : Utf.head c = n
  have HD := Utf.head_cases c
  rw [hd] at HD
  clear hd
  generalize (c.toNat : Int) = z at *
  rcases HD with ⟨h1, rfl⟩ | ⟨h1, h2, rfl⟩ | ⟨h1, h2, rfl⟩ | ⟨h1, h2, rfl⟩ | ⟨h1, h2, rfl⟩ | ⟨h1, rfl⟩
  all_goals
    go_enter Tryz.func148, Tryz.ntmps148
    go_wp2
    go_ret2
    exact ⟨⟨_, rfl⟩, rfl⟩

theorem Utf.second_cases (f c : UInt8) :
    ((c.toNat : Int) < 128 ∧ Utf.second f c = false) ∨ (192 ≤ (c.toNat : Int) ∧ Utf.second f c = false) ∨
    (128 ≤ (c.toNat : Int) ∧ (c.toNat : Int) < 192 ∧
      ((((f.toNat : Int) == 224) = true ∧ ((c.toNat : Int) < 160 ∧ Utf.second f c = false ∨ 160 ≤ (c.toNat : Int) ∧ Utf.second f c = true)) ∨
       (((f.toNat : Int) == 224) = false ∧ ((f.toNat : Int) == 237) = true ∧ ((c.toNat : Int) < 160 ∧ Utf.second f c = true ∨ 160 ≤ (c.toNat : Int) ∧ Utf.second f c = false)) ∨
       (((f.toNat : Int) == 224) = false ∧ ((f.toNat : Int) == 237) = false ∧ ((f.toNat : Int) == 240) = true ∧ ((c.toNat : Int) < 144 ∧ Utf.second f c = false ∨ 144 ≤ (c.toNat : Int) ∧ Utf.second f c = true)) ∨
       (((f.toNat : Int) == 224) = false ∧ ((f.toNat : Int) == 237) = false ∧ ((f.toNat : Int) == 240) = false ∧ ((f.toNat : Int) == 244) = true ∧ ((c.toNat : Int) < 144 ∧ Utf.second f c = true ∨ 144 ≤ (c.toNat : Int) ∧ Utf.second f c = false)) ∨
       (((f.toNat : Int) == 224) = false ∧ ((f.toNat : Int) == 237) = false ∧ ((f.toNat : Int) == 240) = false ∧ ((f.toNat : Int) == 244) = false ∧ Utf.second f c = true))) := by
  have e : ∀ k : UInt8, f = k ↔ (f.toNat : Int) = (k.toNat : Int) := by
    intro k; rw [← UInt8.toNat_inj]; omega
  have hc : (c.toNat : Int) < 256 := by have := c.toNat_lt; omega
  by_cases h1 : (c.toNat : Int) < 128
  · left; refine ⟨h1, ?_⟩
    unfold Utf.second; rw [if_pos (.inl ((lt_u8 _ _).2 h1))]
  by_cases h2 : 192 ≤ (c.toNat : Int)
  · right; left; refine ⟨h2, ?_⟩
    unfold Utf.second; rw [if_pos (.inr ((le_u8 _ _).2 h2))]
  right; right; refine ⟨by omega, by omega, ?_⟩
  have h3 : ¬ (c < 128 ∨ 192 ≤ c) := by
    rw [lt_u8, le_u8]; simp; omega
  unfold Utf.second
  rw [if_neg h3]
  simp only [e, lt_u8, le_u8]
  generalize (c.toNat : Int) = y at *
  generalize (f.toNat : Int) = z at *
  simp only [beq_iff_eq, beq_eq_false_iff_ne]
  repeat' split
  all_goals simp_all
  all_goals omega

set_option maxHeartbeats 400000 in
theorem second_is (f c : UInt8) (b : Bool) (h : Utf.second f c = b) (w : World) :
    Calls Tryz.prog 149 #[.int .u8 f.toNat, .int .u8 c.toNat] w fun e w' => e = .returned (.bool b) ∧ w = w' := by
  have HD := Utf.second_cases f c
  rw [h] at HD
  clear h
  generalize (c.toNat : Int) = y at *
  generalize (f.toNat : Int) = z at *
  rcases HD with ⟨h1, rfl⟩ | ⟨h1, rfl⟩ | ⟨h1, h2, ⟨h3, ⟨h4, rfl⟩ | ⟨h4, rfl⟩⟩ | ⟨h3, h4, ⟨h5, rfl⟩ | ⟨h5, rfl⟩⟩ | ⟨h3, h4, h5, ⟨h6, rfl⟩ | ⟨h6, rfl⟩⟩ | ⟨h3, h4, h5, h6, ⟨h7, rfl⟩ | ⟨h7, rfl⟩⟩ | ⟨h3, h4, h5, h6, rfl⟩⟩
  all_goals
    go_enter Tryz.func149, Tryz.ntmps149
    go_wp2
    go_ret
    first | exact ⟨rfl, rfl⟩ | exact ⟨by simp; omega, rfl⟩
end Go.Proofs.YthnaninhbofeoaaGreatDoor
