/- Plain functions: which bytes are UTF-8. No program in sight. -/
namespace Go.Proofs.YthnaninhbofeoaaGreatDoor.Utf

def head (c : UInt8) : Nat := if c < 128 then 1 else if 194 ≤ c ∧ c < 224 then 2 else if 224 ≤ c ∧ c < 240 then 3 else if 240 ≤ c ∧ c < 245 then 4 else 0
def cont (c : UInt8) : Bool := decide (128 ≤ c) && decide (c < 192)
def second (f c : UInt8) : Bool :=
  if c < 128 ∨ 192 ≤ c then false else if f = 224 then decide (160 ≤ c) else if f = 237 then decide (c < 160) else if f = 240 then decide (144 ≤ c) else if f = 244 then decide (c < 144) else true
/-- the j-th byte of a form can stand there -/
def okAt (l : List UInt8) (j : Nat) : Bool := match l[j]? with
  | none => false
  | some d => cont d && (j != 1 || second (l.getD 0 0) d)
/-- the length of the form that some bytes begin with; 0 if they begin with none -/
def rdLen (l : List UInt8) : Nat := match l with
  | [] => 0
  | c :: _ => if (List.range (head c)).all (fun j => j == 0 || okAt l j) then head c else 0
def validF : Nat → List UInt8 → Bool
  | 0, l => l.isEmpty
  | k + 1, l => match l with
    | [] => true
    | c :: r => rdLen (c :: r) != 0 && validF k ((c :: r).drop (rdLen (c :: r)))
def valid (l : List UInt8) : Bool := validF l.length l

theorem head_le (c : UInt8) : head c ≤ 4 := by unfold head; (repeat' split) <;> omega
theorem rdLen_le (l : List UInt8) : rdLen l ≤ 4 := by
  unfold rdLen; split
  · omega
  · rename_i c _; have := head_le c; split <;> omega
theorem validF_nil (k : Nat) : validF k [] = true := by cases k <;> rfl
theorem validF_more (k : Nat) : ∀ (m : Nat) (l : List UInt8), l.length ≤ k → l.length ≤ m → validF k l = validF m l := by
  induction k with
  | zero =>
    intro m l h _
    obtain rfl : l = [] := List.length_eq_zero_iff.1 (by omega)
    rw [validF_nil, validF_nil]
  | succ k ih =>
    intro m l h hm
    cases l with
    | nil => rw [validF_nil, validF_nil]
    | cons c r =>
      cases m with
      | zero => simp at hm
      | succ m =>
        simp only [validF]
        by_cases h0 : rdLen (c :: r) = 0
        · simp [h0]
        · have hd : ((c :: r).drop (rdLen (c :: r))).length ≤ r.length := by simp; omega
          simp only [List.length_cons] at h hm
          rw [ih m _ (by omega) (by omega)]
theorem valid_nil : valid [] = true := rfl
theorem valid_bad (l : List UInt8) (h : l ≠ []) (h0 : rdLen l = 0) : valid l = false := by
  cases l with
  | nil => exact absurd rfl h
  | cons c r => simp [valid, validF, h0]
theorem valid_step (l : List UInt8) (h : l ≠ []) (h0 : rdLen l ≠ 0) : valid l = valid (l.drop (rdLen l)) := by
  cases l with
  | nil => exact absurd rfl h
  | cons c r =>
    unfold valid
    simp only [List.length_cons, validF]
    have hb : (rdLen (c :: r) != 0) = true := by simpa using h0
    rw [hb, Bool.true_and]
    exact validF_more _ _ _ (by simp; omega) (Nat.le_refl _)
theorem rdLen_good (c : UInt8) (l : List UInt8) (h : ∀ j, 1 ≤ j → j < head c → okAt (c :: l) j = true) : rdLen (c :: l) = head c := by
  show (if (List.range (head c)).all (fun j => j == 0 || okAt (c :: l) j) then head c else 0) = head c
  rw [if_pos]
  rw [List.all_eq_true]
  intro j hj
  rw [List.mem_range] at hj
  by_cases h0 : j = 0
  · simp [h0]
  · simp [h j (by omega) hj]
theorem rdLen_bad (c : UInt8) (l : List UInt8) (j : Nat) (h1 : 1 ≤ j) (h2 : j < head c) (h : okAt (c :: l) j = false) : rdLen (c :: l) = 0 := by
  show (if (List.range (head c)).all (fun j => j == 0 || okAt (c :: l) j) then head c else 0) = 0
  rw [if_neg]
  intro hc
  rw [List.all_eq_true] at hc
  have := hc j (List.mem_range.2 h2)
  rw [h] at this
  simp at this
  omega
theorem rdLen_none (c : UInt8) (l : List UInt8) (h : head c = 0) : rdLen (c :: l) = 0 := by
  unfold rdLen; split <;> simp_all
end Go.Proofs.YthnaninhbofeoaaGreatDoor.Utf
