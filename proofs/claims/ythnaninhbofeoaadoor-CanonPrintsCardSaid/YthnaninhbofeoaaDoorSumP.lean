/- Plain laws: prints differ where one byte differs. No program in sight. -/
import Derived.Test.YthnaninhbofeoaaDoorMadeP
namespace Go.Proofs.YthnaninhbofeoaaDoor

theorem Can.mul_inj (a b : Nat) (ha : a < 18446744073709551616) (hb : b < 18446744073709551616) (h : a * 1099511628211 % 18446744073709551616 = b * 1099511628211 % 18446744073709551616) : a = b := by
  have key : ∀ x, x < 18446744073709551616 → (x * 1099511628211 % 18446744073709551616) * 14886173955864302971 % 18446744073709551616 = x := by
    intro x hx
    rw [Nat.mod_mul_mod]
    have e : x * 1099511628211 * 14886173955864302971 = x + 18446744073709551616 * (x * 887285111055) := by omega
    rw [e, Nat.add_mul_mod_self_left, Nat.mod_eq_of_lt hx]
  rw [← key a ha, ← key b hb, h]
theorem Can.xor_back (h c : Nat) : (h ^^^ c) ^^^ c = h := by rw [Nat.xor_assoc, Nat.xor_self, Nat.xor_zero]
theorem Can.xor_lt (h : Nat) (c : UInt8) (hh : h < 18446744073709551616) : h ^^^ c.toNat < 18446744073709551616 := by
  have h1 : h < 2 ^ 64 := hh
  have h2 : c.toNat < 2 ^ 64 := Nat.lt_trans c.toNat_lt (by decide)
  exact Nat.xor_lt_two_pow h1 h2
theorem Can.step_state (h k : Nat) (c : UInt8) (hh : h < 18446744073709551616) (hk : k < 18446744073709551616) (e : Can.step h c = Can.step k c) : h = k := by
  have := Can.mul_inj _ _ (Can.xor_lt h c hh) (Can.xor_lt k c hk) e
  rw [← Can.xor_back h c.toNat, this, Can.xor_back]
theorem Can.step_byte (h : Nat) (c d : UInt8) (hh : h < 18446744073709551616) (e : Can.step h c = Can.step h d) : c = d := by
  have := Can.mul_inj _ _ (Can.xor_lt h c hh) (Can.xor_lt h d hh) e
  have h2 : c.toNat = d.toNat := by
    rw [← Can.xor_back c.toNat h, Nat.xor_comm c.toNat h, this, Nat.xor_comm h d.toNat, Can.xor_back]
  exact UInt8.toNat_inj.1 h2
theorem Can.sum_state (l : List UInt8) : ∀ (h k : Nat), h < 18446744073709551616 → k < 18446744073709551616 → Can.sum h l = Can.sum k l → h = k := by
  induction l with
  | nil => intro h k _ _ e; exact e
  | cons c r ih =>
    intro h k hh hk e
    exact Can.step_state h k c hh hk (ih _ _ (Can.step_lt h c) (Can.step_lt k c) e)
theorem Can.sum_append (h : Nat) (a b : List UInt8) : Can.sum h (a ++ b) = Can.sum (Can.sum h a) b := by
  unfold Can.sum
  rw [List.foldl_append]
/-- one byte changed: another print -/
theorem Can.sum_ne (h : Nat) (hh : h < 18446744073709551616) (a r : List UInt8) (c d : UInt8) (hcd : c ≠ d) : Can.sum h (a ++ c :: r) ≠ Can.sum h (a ++ d :: r) := by
  intro e
  rw [Can.sum_append, Can.sum_append] at e
  have h1 := Can.sum_lt h a hh
  exact hcd (Can.step_byte _ c d h1 (Can.sum_state r _ _ (Can.step_lt _ c) (Can.step_lt _ d) e))
end Go.Proofs.YthnaninhbofeoaaDoor
