/- Plain functions: the bytes of labels. No program in sight. -/
import Derived.Test.YtpnpgjjbincigaaLabM
import Derived.Lib.Join
namespace Go.Proofs.Ytpnpgjjbincigaa.Can

def raw (ls : List Lab.L) : List UInt8 := ls.flatMap fun x => Lab.bs x.n ++ [255] ++ (Lab.bs x.v ++ [255])
def bytes (ls : List Lab.L) : List UInt8 × Int := if Lab.right ls = true then (raw ls, 0) else ([], 44)

theorem join_end (e : List UInt8) (xs : List (List UInt8)) (h : xs ≠ []) : Lib.join xs e ++ e = xs.flatMap (fun x => x ++ e) := by
  cases xs with
  | nil => exact absurd rfl h
  | cons x r =>
    rw [Lib.join_cons]
    unfold Lib.joinTail
    rw [List.flatMap_cons, List.append_assoc, List.append_assoc]
    congr 1
    clear h
    induction r with
    | nil => simp
    | cons y r ih => simp only [List.map_cons, List.flatten_cons, List.flatMap_cons, List.append_assoc] at ih ⊢; rw [ih]

/-- the pieces between bytes 255 -/
def split : List UInt8 → List UInt8 → List (List UInt8)
  | cur, [] => [cur]
  | cur, c :: r => if c = 255 then cur :: split [] r else split (cur ++ [c]) r
def mk (l : List UInt8) : ByteArray := ⟨l.toArray⟩
/-- the labels that pieces are, two by two -/
def pairs : List (List UInt8) → List Lab.L
  | a :: b :: r => ⟨mk a, mk b⟩ :: pairs r
  | _ => []
def read (l : List UInt8) : List Lab.L × Int :=
  let all := split [] l
  if all.length % 2 = 0 ∨ all.getLast? ≠ some [] ∨ 129 < all.length then ([], 50)
  else if Lab.right (pairs all) = true then (pairs all, 0) else ([], 50)

theorem split_ne (cur l : List UInt8) : split cur l ≠ [] := by
  induction l generalizing cur with
  | nil => simp [split]
  | cons c r ih =>
    unfold split
    split
    · simp
    · exact ih _
theorem pairs_length : ∀ (all : List (List UInt8)), (pairs all).length = all.length / 2
  | a :: b :: r => by
    unfold pairs
    rw [List.length_cons, pairs_length r]
    simp only [List.length_cons]
    omega
  | [] => rfl
  | [_] => by simp [pairs]
theorem right_many (ls : List Lab.L) (h : 64 < ls.length) : Lab.right ls = false := by
  unfold Lab.right Lab.check
  rw [if_pos h]
  rfl
/-- the reference reads piece by piece -/
def refEnd (all : List (List UInt8)) : List Lab.L × Int :=
  if all.length % 2 = 0 ∨ all.getLast? ≠ some [] ∨ Lab.right (pairs all) = false then ([], 50) else (pairs all, 0)
theorem read_refEnd (l : List UInt8) : read l = refEnd (split [] l) := by
  unfold read refEnd
  simp only []
  by_cases h1 : (split [] l).length % 2 = 0
  · rw [if_pos (.inl h1), if_pos (.inl h1)]
  by_cases h2 : (split [] l).getLast? ≠ some []
  · rw [if_pos (.inr (.inl h2)), if_pos (.inr (.inl h2))]
  by_cases h3 : 129 < (split [] l).length
  · rw [if_pos (.inr (.inr h3)), if_pos (.inr (.inr (right_many _ (by rw [pairs_length]; omega))))]
  · rw [if_neg (by simp only [not_or]; exact ⟨h1, h2, h3⟩)]
    cases hr : Lab.right (pairs (split [] l)) with
    | true => rw [if_pos rfl, if_neg (by simp only [not_or]; exact ⟨h1, h2, by simp⟩)]
    | false => rw [if_neg (by simp), if_pos (.inr (.inr rfl))]

/-- the hash, byte by byte -/
def step (h : Nat) (c : UInt8) : Nat := ((h ^^^ c.toNat) * 1099511628211) % 18446744073709551616
def sum (h : Nat) (l : List UInt8) : Nat := l.foldl step h
theorem xor_low (h c : Nat) (hc : c < 256) : h ^^^ c = h - h % 256 + ((h % 256) ^^^ c) := by
  have e1 : (h ^^^ c) % 2 ^ 8 = (h % 2 ^ 8) ^^^ (c % 2 ^ 8) := Nat.xor_mod_two_pow
  have e2 : (h ^^^ c) / 2 ^ 8 = (h / 2 ^ 8) ^^^ (c / 2 ^ 8) := Nat.xor_div_two_pow
  have e3 : c / 2 ^ 8 = 0 := by omega
  have e4 : c % 2 ^ 8 = c := by omega
  rw [e3, Nat.xor_zero] at e2
  rw [e4] at e1
  have e5 : (2 : Nat) ^ 8 = 256 := rfl
  rw [e5] at e1 e2
  omega
theorem step_lt (h : Nat) (c : UInt8) : step h c < 18446744073709551616 := Nat.mod_lt _ (by omega)
theorem sum_lt (h : Nat) (l : List UInt8) (hh : h < 18446744073709551616) : sum h l < 18446744073709551616 := by
  induction l generalizing h with
  | nil => exact hh
  | cons c r ih => exact ih _ (step_lt h c)
end Go.Proofs.Ytpnpgjjbincigaa.Can
