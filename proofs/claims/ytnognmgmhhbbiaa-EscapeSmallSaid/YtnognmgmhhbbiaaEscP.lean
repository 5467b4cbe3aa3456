/- Plain functions and their laws: the forms of a string, and how they are read. No program in sight. -/
namespace Go.Proofs.Ytnognmgmhhbbiaa.Esc

/-- what is written for a byte: v says whether a quote has an escape -/
def enc (v : Bool) (c : UInt8) : List UInt8 :=
  if c = 92 then [92, 92] else if c = 10 then [92, 110] else if v = true ∧ c = 34 then [92, 34] else [c]

/-- the help form (v false), the value form (v true) -/
def form (v : Bool) (l : List UInt8) : List UInt8 := l.flatMap (enc v)

/-- what a letter behind a backslash stands for -/
def dec (v : Bool) (d : UInt8) : Option UInt8 :=
  if d = 92 then some 92 else if d = 110 then some 10 else if v = true ∧ d = 34 then some 34 else none

/-- what reading gives: an error's number, or the bytes and how many were read (of the quote that ends a quoted form nothing) -/
inductive Out where
  | bad (e : Int)
  | good (l : List UInt8) (n : Nat)

def Out.cons (x : UInt8) (k : Nat) : Out → Out
  | .bad e => .bad e
  | .good l n => .good (x :: l) (n + k)

def rd (v q : Bool) : List UInt8 → Out
  | [] => if q then .bad 222 else .good [] 0
  | c :: r =>
    if c = 10 then .bad 223
    else if v = true ∧ c = 34 then (if q then .good [] 0 else .bad 221)
    else if c ≠ 92 then (rd v q r).cons c 1
    else match r with
      | [] => if q then .bad 222 else .bad 220
      | d :: r' => match dec v d with
        | none => .bad 220
        | some x => (rd v q r').cons x 2

theorem form_nil (v : Bool) : form v [] = [] := rfl
theorem form_cons (v : Bool) (c : UInt8) (l : List UInt8) : form v (c :: l) = enc v c ++ form v l := rfl
theorem form_append (v : Bool) (l r : List UInt8) : form v (l ++ r) = form v l ++ form v r := by simp [form]
theorem enc_le (v : Bool) (c : UInt8) : 1 ≤ (enc v c).length ∧ (enc v c).length ≤ 2 := by
  unfold enc; (repeat' split) <;> simp
theorem form_le (v : Bool) (l : List UInt8) : l.length ≤ (form v l).length ∧ (form v l).length ≤ 2 * l.length := by
  induction l with
  | nil => simp [form]
  | cons c r ih => have := enc_le v c; rw [form_cons, List.length_append, List.length_cons]; omega


def Out.pre (acc : List UInt8) (k : Nat) : Out → Out
  | .bad e => .bad e
  | .good l n => .good (acc ++ l) (k + n)
theorem Out.pre_nil (o : Out) : o.pre [] 0 = o := by cases o <;> simp [Out.pre]
theorem Out.pre_cons (acc : List UInt8) (k j : Nat) (x : UInt8) (o : Out) : (o.cons x j).pre acc k = o.pre (acc ++ [x]) (k + j) := by
  cases o <;> simp [Out.pre, Out.cons]; omega

theorem rd_nil (v q : Bool) : rd v q [] = if q then .bad 222 else .good [] 0 := by rw [rd]
theorem rd_feed (v q : Bool) (r : List UInt8) : rd v q (10 :: r) = .bad 223 := by rw [rd.eq_def]; dsimp only; rw [if_pos rfl]
theorem rd_quote (q : Bool) (r : List UInt8) : rd true q (34 :: r) = if q then .good [] 0 else .bad 221 := by
  rw [rd.eq_def]; dsimp only; rw [if_neg (by decide), if_pos ⟨rfl, rfl⟩]
theorem rd_plain (v q : Bool) (c : UInt8) (r : List UInt8) (h1 : c ≠ 10) (h2 : ¬ (v = true ∧ c = 34)) (h3 : c ≠ 92) : rd v q (c :: r) = (rd v q r).cons c 1 := by
  rw [rd.eq_def]; dsimp only; rw [if_neg h1, if_neg h2, if_pos h3]
theorem rd_last (v q : Bool) : rd v q [92] = if q then .bad 222 else .bad 220 := by
  rw [rd.eq_def]; dsimp only; rw [if_neg (by decide), if_neg (by simp), if_neg (by simp)]
theorem rd_bad (v q : Bool) (d : UInt8) (r : List UInt8) (h : dec v d = none) : rd v q (92 :: d :: r) = .bad 220 := by
  rw [rd.eq_def]; dsimp only; rw [if_neg (by decide), if_neg (by simp), if_neg (by simp)]; simp only [h]
theorem rd_two (v q : Bool) (d x : UInt8) (r : List UInt8) (h : dec v d = some x) : rd v q (92 :: d :: r) = (rd v q r).cons x 2 := by
  rw [rd.eq_def]; dsimp only; rw [if_neg (by decide), if_neg (by simp), if_neg (by simp)]; simp only [h]

/-- what the first j pairs make of a letter -/
def part (j : Nat) (d : UInt8) : List UInt8 :=
  if 1 ≤ j ∧ d = 92 then [92] else if 2 ≤ j ∧ d = 110 then [10] else if 3 ≤ j ∧ d = 34 then [34] else []
def hit (j : Nat) (d : UInt8) : Bool := decide ((1 ≤ j ∧ d = 92) ∨ (2 ≤ j ∧ d = 110) ∨ (3 ≤ j ∧ d = 34))
theorem part_le (j : Nat) (d : UInt8) : (part j d).length ≤ 1 := by unfold part; (repeat' split) <;> simp
theorem part_zero (d : UInt8) : part 0 d = [] ∧ hit 0 d = false := by simp [part, hit]
theorem part_hit0 : part 1 92 = [92] ∧ hit 1 92 = true := by decide
theorem part_hit1 : part 1 110 = [] ∧ part 2 110 = [10] ∧ hit 2 110 = true := by decide
theorem part_hit2 : part 2 34 = [] ∧ part 3 34 = [34] ∧ hit 3 34 = true := by decide
theorem part_miss0 (d : UInt8) (h : d ≠ 92) : part 1 d = part 0 d ∧ hit 1 d = hit 0 d := by simp [part, hit, h]
theorem part_miss1 (d : UInt8) (h : d ≠ 110) : part 2 d = part 1 d ∧ hit 2 d = hit 1 d := by simp [part, hit, h]
theorem part_miss2 (d : UInt8) (h : d ≠ 34) : part 3 d = part 2 d ∧ hit 3 d = hit 2 d := by simp [part, hit, h]
theorem part_end (v : Bool) (d : UInt8) (j : Nat) (hj : j = if v then 3 else 2) : (hit j d = false ∧ dec v d = none) ∨ (hit j d = true ∧ ∃ x, dec v d = some x ∧ part j d = [x]) := by
  subst hj
  unfold hit dec part
  by_cases h1 : d = 92
  · right; subst h1; cases v <;> decide
  by_cases h2 : d = 110
  · right; subst h2; cases v <;> decide
  by_cases h3 : d = 34
  · subst h3; cases v <;> decide
  · left; cases v <;> simp [h1, h2, h3]


/-- the error that stands when the bytes end -/
def e0 (q : Bool) : Int := if q then 222 else 0
theorem beq_byte (c k : UInt8) : ((c.toNat : Int) == (k.toNat : Int)) = decide (c = k) := by
  rw [Bool.eq_iff_iff]
  simp only [beq_iff_eq, decide_eq_true_eq]
  constructor
  · intro h; exact UInt8.toNat_inj.1 (by omega)
  · intro h; rw [h]
theorem bne_byte (c k : UInt8) : ((c.toNat : Int) != (k.toNat : Int)) = decide (c ≠ k) := by
  rw [bne, beq_byte]; simp
theorem beq_yes {c k : UInt8} {n : Int} (hn : n = (k.toNat : Int)) (h : c = k) : ((c.toNat : Int) == n) = true := by rw [hn, beq_byte]; simpa using h
theorem beq_no {c k : UInt8} {n : Int} (hn : n = (k.toNat : Int)) (h : c ≠ k) : ((c.toNat : Int) == n) = false := by rw [hn, beq_byte]; simpa using h
theorem bne_yes {c k : UInt8} {n : Int} (hn : n = (k.toNat : Int)) (h : c ≠ k) : ((c.toNat : Int) != n) = true := by rw [hn, bne_byte]; simpa using h
theorem bne_no {c k : UInt8} {n : Int} (hn : n = (k.toNat : Int)) (h : c = k) : ((c.toNat : Int) != n) = false := by rw [hn, bne_byte]; simpa using h
theorem drop_one (s : ByteArray) (k : Nat) (h : k < s.size) : s.data.toList.drop k = s[k] :: s.data.toList.drop (k + 1) := by
  rw [List.drop_eq_getElem_cons (by simpa using h)]; rfl

end Go.Proofs.Ytnognmgmhhbbiaa.Esc
