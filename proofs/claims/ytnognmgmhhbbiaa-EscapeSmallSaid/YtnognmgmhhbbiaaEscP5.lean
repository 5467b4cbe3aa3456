/- Plain laws: the errors of a reading. -/
import Derived.Test.YtnognmgmhhbbiaaEscP4
namespace Go.Proofs.Ytnognmgmhhbbiaa.Esc

/-- the errors of a reading -/
def errOk : Out → Prop
  | .bad e => 220 ≤ e ∧ e ≤ 223
  | .good _ _ => True
theorem errOk_cons (x : UInt8) (k : Nat) (o : Out) (h : errOk o) : errOk (o.cons x k) := by cases o <;> exact h
theorem rd_err (v q : Bool) (m : Nat) : ∀ l : List UInt8, l.length ≤ m → errOk (rd v q l) := by
  induction m with
  | zero =>
    intro l hl
    obtain rfl : l = [] := List.length_eq_zero_iff.1 (by omega)
    rw [rd_nil]; cases q <;> simp [errOk]
  | succ m ih =>
    intro l hl
    cases l with
    | nil => rw [rd_nil]; cases q <;> simp [errOk]
    | cons c r =>
      simp only [List.length_cons] at hl
      by_cases h10 : c = 10
      · subst h10; rw [rd_feed]; simp [errOk]
      by_cases hq : v = true ∧ c = 34
      · obtain ⟨rfl, rfl⟩ := hq; rw [rd_quote]; cases q <;> simp [errOk]
      by_cases h92 : c = 92
      · subst h92
        cases r with
        | nil => rw [rd_last]; cases q <;> simp [errOk]
        | cons d r' =>
          simp only [List.length_cons] at hl
          cases hd : dec v d with
          | none => rw [rd_bad _ _ _ _ hd]; simp [errOk]
          | some x => rw [rd_two _ _ _ _ _ hd]; exact errOk_cons _ _ _ (ih r' (by omega))
      · rw [rd_plain _ _ _ _ h10 hq h92]; exact errOk_cons _ _ _ (ih r (by omega))
end Go.Proofs.Ytnognmgmhhbbiaa.Esc
