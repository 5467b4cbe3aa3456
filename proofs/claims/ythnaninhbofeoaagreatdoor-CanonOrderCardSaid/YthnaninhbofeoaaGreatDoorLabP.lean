/- Plain functions: names, values, labels. No program in sight. -/
import Derived.Test.YthnaninhbofeoaaGreatDoorUtfP
namespace Go.Proofs.YthnaninhbofeoaaGreatDoor.Lab

def letter (c : UInt8) : Bool := decide (97 ≤ c) && decide (c ≤ 122) || decide (65 ≤ c) && decide (c ≤ 90)
def digit (c : UInt8) : Bool := decide (48 ≤ c) && decide (c ≤ 57)
/-- a byte that can stand in a name, where one more is allowed; first: at its begin -/
def okByte (o : UInt8) (first : Bool) (c : UInt8) : Bool := letter c || c == 95 || c == o || !first && digit c
def bytesOk (o : UInt8) : Bool → List UInt8 → Bool
  | _, [] => true
  | f, c :: r => okByte o f c && bytesOk o false r
def named (o : UInt8) (l : List UInt8) : Bool := !l.isEmpty && decide (l.length ≤ 128) && bytesOk o true l
def value (l : List UInt8) : Bool := decide (l.length ≤ 1024) && Utf.valid l

/-- a label: its name and its value -/
structure L where
  n : ByteArray
  v : ByteArray

def bs (s : ByteArray) : List UInt8 := s.data.toList
/-- what is wrong with a label by itself -/
def one (x : L) : Int := if named 95 (bs x.n) = true then (if value (bs x.v) = true then 0 else 41) else 40
/-- what is wrong with a label behind another one (none: it is the first) -/
def oneAt (p : Option L) (x : L) : Int :=
  if one x = 0 then (if bs x.v = [] then 42 else match p with | none => 0 | some y => if bs x.n ≤ bs y.n then 42 else 0) else one x
/-- the first label that is wrong, with what is wrong -/
def chk (k : Nat) (p : Option L) : List L → Int × Int
  | [] => (-1, 0)
  | x :: r => if oneAt p x = 0 then chk (k + 1) (some x) r else (k, oneAt p x)
def check (l : List L) : Int × Int := if 64 < l.length then (-1, 5) else chk 0 none l
def right (l : List L) : Bool := (check l).2 == 0

theorem named_short (o : UInt8) (l : List UInt8) (h : l.length < 1 ∨ 128 < l.length) : named o l = false := by
  unfold named
  rcases h with h | h
  · obtain rfl : l = [] := List.length_eq_zero_iff.1 (by omega)
    rfl
  · rw [decide_eq_false (by omega)]; simp
theorem named_mid (o : UInt8) (l : List UInt8) (h : 1 ≤ l.length) (h2 : l.length ≤ 128) : named o l = bytesOk o true l := by
  unfold named
  cases l with
  | nil => simp at h
  | cons c r => rw [decide_eq_true h2]; simp
theorem bytesOk_yes (o : UInt8) (f : Bool) (c : UInt8) (r : List UInt8) (h : okByte o f c = true) : bytesOk o f (c :: r) = bytesOk o false r := by simp [bytesOk, h]
theorem bytesOk_no (o : UInt8) (f : Bool) (c : UInt8) (r : List UInt8) (h : okByte o f c = false) : bytesOk o f (c :: r) = false := by simp [bytesOk, h]
end Go.Proofs.YthnaninhbofeoaaGreatDoor.Lab
