/- Plain functions: the labels that Made makes, step by step. No program in sight. -/
import Derived.Test.YthnaninhbofeoaaGreatDoorOfP
namespace Go.Proofs.YthnaninhbofeoaaGreatDoor.Lab
/-- a label in small numbers -/
structure Sm where
  a : Nat
  b : Nat
def nameL : List ByteArray := [⟨#[97]⟩, ⟨#[98]⟩, ⟨#[99]⟩, ⟨#[106, 111, 98]⟩, ⟨#[105, 110, 115, 116, 97, 110, 99, 101]⟩, ⟨#[95, 95, 110, 97, 109, 101, 95, 95]⟩, ⟨#[95, 95, 97, 100, 100, 114, 101, 115, 115, 95, 95]⟩, ⟨#[95, 95, 109, 101, 116, 97, 95, 120]⟩, ⟨#[101, 120, 112, 111, 114, 116, 101, 100, 95, 97]⟩, ⟨#[101, 120, 112, 111, 114, 116, 101, 100, 95, 98]⟩, ⟨#[101, 120, 112, 111, 114, 116, 101, 100, 95, 106, 111, 98]⟩, ⟨#[101, 120, 112, 111, 114, 116, 101, 100, 95, 101, 120, 112, 111, 114, 116, 101, 100, 95, 97]⟩, ⟨#[108, 101]⟩, ⟨#[65]⟩, ⟨#[95]⟩, ⟨#[120, 57]⟩]
def valueL : List ByteArray := [⟨#[]⟩, ⟨#[49]⟩, ⟨#[50]⟩, ⟨#[195, 169]⟩, ⟨#[117, 112]⟩, ⟨#[97, 32, 98]⟩, ⟨#[10]⟩, ⟨#[57]⟩]
def jobL : List ByteArray := [⟨#[97]⟩, ⟨#[97, 98]⟩, ⟨#[98]⟩, ⟨#[195, 169]⟩, ⟨#[119, 101, 98]⟩, ⟨#[97, 32, 98]⟩, ⟨#[48]⟩, ⟨#[65]⟩]
def made1 (x : Sm) : L := ⟨nameL.getD (x.a % 16) ⟨#[]⟩, valueL.getD (x.b % 8) ⟨#[]⟩⟩
def push1 (out : List L) (y : L) : List L := (out.eraseP fun z => bs z.n == bs y.n) ++ [y]
def madeF (out : List L) : List Sm → List L
  | [] => out
  | x :: r => madeF (push1 out (made1 x)) r
def made (xs : List Sm) : List L := madeF [] (xs.take 40)

/-- where the first one goes -/
theorem erase_at (p : L → Bool) (l : List L) : ∀ (i : Nat) (hi : i < l.length), (∀ j (hj : j < l.length), j < i → p l[j] = false) → p l[i] = true → l.eraseP p = l.take i ++ l.drop (i + 1) := by
  induction l with
  | nil => intro i hi; simp at hi
  | cons x r ih =>
    intro i hi hno hyes
    cases i with
    | zero =>
      have hx : p x = true := hyes
      rw [List.eraseP_cons_of_pos hx]
      simp
    | succ i =>
      have hx : p x = false := hno 0 (by simp) (by omega)
      rw [List.eraseP_cons_of_neg (by simp [hx]), ih i (by simpa using hi) (fun j hj hji => hno (j + 1) (by simpa using hj) (by omega)) hyes]
      simp
theorem erase_none (p : L → Bool) (l : List L) (h : ∀ j (hj : j < l.length), p l[j] = false) : l.eraseP p = l := by
  refine List.eraseP_of_forall_not fun a ha => ?_
  obtain ⟨j, hj, rfl⟩ := List.getElem_of_mem ha
  simp [h j hj]
theorem madeF_drop (out : List L) (xs : List Sm) (k : Nat) (h : k < xs.length) : madeF out (xs.drop k) = madeF (push1 out (made1 xs[k])) (xs.drop (k + 1)) := by
  rw [List.drop_eq_getElem_cons h]
  rfl
theorem push1_length (out : List L) (y : L) : (push1 out y).length ≤ out.length + 1 := by
  unfold push1
  rw [List.length_append]
  have := List.length_eraseP_le (p := fun z => bs z.n == bs y.n) (l := out)
  simp only [List.length_cons, List.length_nil]
  omega
end Go.Proofs.YthnaninhbofeoaaGreatDoor.Lab
