/- Plain laws of the forms and of reading. -/
import Derived.Test.YtnognmgmhhbbiaaEscP
namespace Go.Proofs.Ytnognmgmhhbbiaa.Esc

/-- what is right of every reading -/
def ok (l : List UInt8) : Out → Prop
  | .bad e => e ≠ 0
  | .good x n => n ≤ l.length ∧ x.length ≤ n

theorem ok_cons {x : UInt8} {r : List UInt8} {o : Out} {k : Nat} {l : List UInt8} (h : ok r o) (hk : 1 ≤ k) (hl : r.length + k ≤ l.length) : ok l (o.cons x k) := by
  cases o with
  | bad e => exact h
  | good y n => simp only [ok, Out.cons, List.length_cons] at *; omega

theorem rd_ok (v q : Bool) (m : Nat) : ∀ l : List UInt8, l.length ≤ m → ok l (rd v q l) := by
  induction m with
  | zero =>
    intro l hl
    obtain rfl : l = [] := List.length_eq_zero_iff.1 (by omega)
    rw [rd_nil]; cases q <;> simp [ok]
  | succ m ih =>
    intro l hl
    cases l with
    | nil => rw [rd_nil]; cases q <;> simp [ok]
    | cons c r =>
      simp only [List.length_cons] at hl
      by_cases h10 : c = 10
      · subst h10; rw [rd_feed]; simp [ok]
      by_cases hq : v = true ∧ c = 34
      · obtain ⟨rfl, rfl⟩ := hq; rw [rd_quote]; cases q <;> simp [ok]
      by_cases h92 : c = 92
      · subst h92
        cases r with
        | nil => rw [rd_last]; cases q <;> simp [ok]
        | cons d r' =>
          simp only [List.length_cons] at hl
          cases hd : dec v d with
          | none => rw [rd_bad _ _ _ _ hd]; simp [ok]
          | some x => rw [rd_two _ _ _ _ _ hd]; exact ok_cons (ih r' (by omega)) (by omega) (by simp)
      · rw [rd_plain _ _ _ _ h10 hq h92]; exact ok_cons (ih r (by omega)) (by omega) (by simp)

end Go.Proofs.Ytnognmgmhhbbiaa.Esc
