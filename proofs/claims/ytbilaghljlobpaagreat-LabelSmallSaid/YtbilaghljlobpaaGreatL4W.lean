/- Plain laws: the labels that Made makes. Contract of gaugerlaw04.right: the right labels of small numbers. -/
import Derived.Test.YtbilaghljlobpaaGreatL4M
import Derived.Test.YtbilaghljlobpaaGreatL4O
import Derived.Test.YtbilaghljlobpaaGreatL4V
namespace Go.Proofs.YtbilaghljlobpaaGreat.Lab

theorem made1_one (x : Sm) : one (made1 x) = 0 := by
  have h : ∀ i, i < 16 → ∀ j, j < 8 → one ⟨nameL.getD i ⟨#[]⟩, valueL.getD j ⟨#[]⟩⟩ = 0 := by decide +kernel
  exact h _ (Nat.mod_lt _ (by omega)) _ (Nat.mod_lt _ (by omega))
theorem push1_names (out : List L) (y : L) : names (push1 out y) = (names out).erase (bs y.n) ++ [bs y.n] := by
  unfold push1 names
  rw [List.map_append, List.erase_eq_eraseP, List.eraseP_map]
  congr 2
  refine congrArg (fun q => List.eraseP q out) (funext fun z => ?_)
  show (bs z.n == bs y.n) = (bs y.n == bs z.n)
  exact Bool.beq_comm
theorem push1_nodup (out : List L) (y : L) (h : (names out).Nodup) : (names (push1 out y)).Nodup := by
  rw [push1_names, List.nodup_append]
  refine ⟨h.erase _, by simp, fun a ha b hb e => ?_⟩
  rw [List.mem_singleton] at hb
  subst e
  subst hb
  exact h.not_mem_erase ha
theorem push1_mem (out : List L) (y x : L) (h : x ∈ push1 out y) : x ∈ out ∨ x = y := by
  unfold push1 at h
  rw [List.mem_append, List.mem_singleton] at h
  rcases h with h | h
  · exact .inl (List.mem_of_mem_eraseP h)
  · exact .inr h
theorem madeF_ok (xs : List Sm) : ∀ out, (names out).Nodup → (∀ x ∈ out, one x = 0) → (names (madeF out xs)).Nodup ∧ (∀ x ∈ madeF out xs, one x = 0) ∧ (madeF out xs).length ≤ out.length + xs.length := by
  induction xs with
  | nil => intro out h1 h2; exact ⟨h1, h2, by simp [madeF]⟩
  | cons y r ih =>
    intro out h1 h2
    have := ih (push1 out (made1 y)) (push1_nodup _ _ h1) (fun x hx => by
      rcases push1_mem _ _ _ hx with h | rfl
      · exact h2 x h
      · exact made1_one y)
    refine ⟨this.1, this.2.1, ?_⟩
    have h3 := this.2.2
    have h4 := push1_length out (made1 y)
    show (madeF (push1 out (made1 y)) r).length ≤ _
    simp only [List.length_cons]
    omega
theorem made_ok (xs : List Sm) : (names (made xs)).Nodup ∧ (∀ x ∈ made xs, one x = 0) ∧ (made xs).length ≤ 40 := by
  have := madeF_ok (xs.take 40) [] List.nodup_nil (fun x hx => by simp at hx)
  refine ⟨this.1, this.2.1, ?_⟩
  have h3 := this.2.2
  rw [List.length_take] at h3
  show (madeF [] (xs.take 40)).length ≤ 40
  simp only [List.length_nil] at h3
  omega
/-- the right labels that small numbers make -/
def tl (xs : List Sm) : List L := full (srt (made xs))
theorem made_of (xs : List Sm) : of (made xs) = (tl xs, 0) := by
  obtain ⟨h1, h2, h3⟩ := made_ok xs
  unfold of
  rw [if_pos (oneAll_of _ h2), if_pos h1]
  have h4 : (full (srt (made xs))).length ≤ 64 := by
    have := List.length_filter_le (fun x : L => !(bs x.v).isEmpty) (srt (made xs))
    rw [srt_length] at this
    show (List.filter _ _).length ≤ 64
    omega
  rw [if_neg (by omega)]
  rfl
theorem tl_right (xs : List Sm) : right (tl xs) = true := (of_right _ _ (made_of xs)).1

theorem one_fit (x : L) (h : one x = 0) : x.n.size ≤ 128 ∧ x.v.size ≤ 1024 := by
  unfold one at h
  split at h
  · rename_i h1
    split at h
    · rename_i h2
      unfold named at h1
      unfold value at h2
      simp only [Bool.and_eq_true, decide_eq_true_eq] at h1 h2
      have e1 : (bs x.n).length = x.n.size := Array.length_toList
      have e2 : (bs x.v).length = x.v.size := Array.length_toList
      omega
    · simp at h
  · simp at h
theorem made_fit (xs : List Sm) : Fit maxLen (made xs) := fun x hx => by
  have := one_fit x ((made_ok xs).2.1 x hx)
  unfold maxLen
  omega
theorem right_fit (ls : List L) (h : right ls = true) : Fit 1100 ls ∧ ls.length ≤ 64 := ⟨fun x hx => by
  have := one_fit x ((right_parts ls h).2 x hx)
  omega, (right_parts ls h).1⟩
end Go.Proofs.YtbilaghljlobpaaGreat.Lab
namespace Go.Proofs.YtbilaghljlobpaaGreat
open Go.RowKit

end Go.Proofs.YtbilaghljlobpaaGreat
