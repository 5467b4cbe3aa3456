/- Plain laws: the forms of code points, as the reference makes them. No program in sight. -/
import Derived.Test.YtpnpgjjbincigaaUtfC
namespace Go.Proofs.Ytpnpgjjbincigaa.Utf

theorem rdLen_eq (c : UInt8) (r : List UInt8) (n : Nat) (h1 : 1 ≤ n) : rdLen (c :: r) = n ↔ head c = n ∧ ∀ j, 1 ≤ j → j < n → okAt (c :: r) j = true := by
  constructor
  · intro h
    have e : (if (List.range (head c)).all (fun j => j == 0 || okAt (c :: r) j) then head c else 0) = n := h
    split at e
    · rename_i hc
      refine ⟨e, fun j hj hn => ?_⟩
      rw [List.all_eq_true] at hc
      have := hc j (List.mem_range.2 (by omega))
      have h0 : (j == 0) = false := by simp; omega
      rw [h0] at this
      simpa using this
    · omega
  · rintro ⟨rfl, h⟩
    exact rdLen_good c r h
theorem okAt_take (l : List UInt8) (n j : Nat) (h : j < n) : okAt (l.take n) j = okAt l j := by
  unfold okAt
  have e : (l.take n).getD 0 0 = l.getD 0 0 := by
    simp only [List.getD_eq_getElem?_getD]
    rw [List.getElem?_take_of_lt (by omega)]
  rw [List.getElem?_take_of_lt h, e]
theorem rdLen_take (l : List UInt8) (n : Nat) (h1 : 1 ≤ n) : rdLen (l.take n) = n ↔ rdLen l = n := by
  cases l with
  | nil => simp
  | cons c r =>
    obtain ⟨m, rfl⟩ : ∃ m, n = m + 1 := ⟨n - 1, by omega⟩
    have e : (c :: r).take (m + 1) = c :: r.take m := rfl
    rw [e, rdLen_eq _ _ _ h1, rdLen_eq _ _ _ h1, ← e]
    constructor
    · rintro ⟨a, b⟩
      exact ⟨a, fun j x y => by rw [← okAt_take _ _ _ y]; exact b j x y⟩
    · rintro ⟨a, b⟩
      exact ⟨a, fun j x y => by rw [okAt_take _ _ _ y]; exact b j x y⟩

theorem okAt_lt (l : List UInt8) (j : Nat) (h : okAt l j = true) : j < l.length := by
  unfold okAt at h
  rcases Nat.lt_or_ge j l.length with h2 | h2
  · exact h2
  · rw [List.getElem?_eq_none h2] at h; simp at h
theorem rdLen_len (l : List UInt8) : rdLen l ≤ l.length := by
  cases l with
  | nil => simp [rdLen]
  | cons c r =>
    rcases Nat.lt_or_ge (rdLen (c :: r)) 2 with h | h
    · simp only [List.length_cons]; omega
    · have := ((rdLen_eq c r _ (by omega)).1 rfl).2 (rdLen (c :: r) - 1) (by omega) (by omega)
      have := okAt_lt _ _ this
      omega

/-- the bytes are the form of some code point -/
def isForm (l : List UInt8) : Bool := decide (1 ≤ l.length) && rdLen l == l.length
def point (x : Int) : Bool := decide (0 ≤ x) && decide (x < 55296) || decide (57343 < x) && decide (x < 1114112)
/-- the form of a code point -/
def form (x : Nat) : List UInt8 :=
  if x < 128 then [UInt8.ofNat x]
  else if x < 2048 then [UInt8.ofNat (192 + x / 64), UInt8.ofNat (128 + x % 64)]
  else if x < 65536 then [UInt8.ofNat (224 + x / 4096), UInt8.ofNat (128 + x / 64 % 64), UInt8.ofNat (128 + x % 64)]
  else [UInt8.ofNat (240 + x / 262144), UInt8.ofNat (128 + x / 4096 % 64), UInt8.ofNat (128 + x / 64 % 64), UInt8.ofNat (128 + x % 64)]
/-- the number that some bytes would be -/
def num (l : List UInt8) : Int := match l with
  | [a] => a.toNat
  | [a, b] => 64 * ((a.toNat : Int) - 192) + b.toNat - 128
  | [a, b, c] => 4096 * ((a.toNat : Int) - 224) + 64 * ((b.toNat : Int) - 128) + c.toNat - 128
  | [a, b, c, d] => 262144 * ((a.toNat : Int) - 240) + 4096 * ((b.toNat : Int) - 128) + 64 * ((c.toNat : Int) - 128) + d.toNat - 128
  | _ => -1

theorem okAt_one (c b : UInt8) (r : List UInt8) : okAt (c :: b :: r) 1 = (cont b && second c b) := by simp [okAt]
theorem okAt_two (c b d : UInt8) (r : List UInt8) : okAt (c :: b :: d :: r) 2 = cont d := by simp [okAt]
theorem okAt_three (c b d e : UInt8) (r : List UInt8) : okAt (c :: b :: d :: e :: r) 3 = cont e := by simp [okAt]
theorem u8_eq (n : Nat) (a : UInt8) (h : n < 256) : UInt8.ofNat n = a ↔ n = a.toNat := by
  rw [← UInt8.toNat_inj, UInt8.toNat_ofNat']
  omega

theorem cont_is (b : UInt8) : cont b = decide (128 ≤ b.toNat ∧ b.toNat < 192) := by
  unfold cont
  rw [Bool.eq_iff_iff]
  simp [UInt8.le_iff_toNat_le, UInt8.lt_iff_toNat_lt]
theorem head_is (c : UInt8) : head c = if c.toNat < 128 then 1 else if 194 ≤ c.toNat ∧ c.toNat < 224 then 2 else if 224 ≤ c.toNat ∧ c.toNat < 240 then 3 else if 240 ≤ c.toNat ∧ c.toNat < 245 then 4 else 0 := by
  unfold head
  simp [UInt8.le_iff_toNat_le, UInt8.lt_iff_toNat_lt]
theorem second_is (f c : UInt8) : second f c = decide (128 ≤ c.toNat ∧ c.toNat < 192 ∧ (f.toNat = 224 → 160 ≤ c.toNat) ∧ (f.toNat = 237 → c.toNat < 160) ∧ (f.toNat = 240 → 144 ≤ c.toNat) ∧ (f.toNat = 244 → c.toNat < 144)) := by
  unfold second
  rw [Bool.eq_iff_iff]
  simp only [UInt8.le_iff_toNat_le, UInt8.lt_iff_toNat_lt, ← UInt8.toNat_inj, decide_eq_true_eq]
  have e1 : (128 : UInt8).toNat = 128 := rfl
  have e2 : (192 : UInt8).toNat = 192 := rfl
  have e3 : (224 : UInt8).toNat = 224 := rfl
  have e4 : (237 : UInt8).toNat = 237 := rfl
  have e5 : (240 : UInt8).toNat = 240 := rfl
  have e6 : (244 : UInt8).toNat = 244 := rfl
  have e7 : (160 : UInt8).toNat = 160 := rfl
  have e8 : (144 : UInt8).toNat = 144 := rfl
  rw [e1, e2, e3, e4, e5, e6, e7, e8]
  generalize f.toNat = x
  generalize c.toNat = y
  (repeat' split) <;> simp <;> omega

theorem isForm_1 (a : UInt8) : isForm [a] = (point (num [a]) && form (num [a]).toNat == [a]) := by
  have ha := a.toNat_lt
  rw [Bool.eq_iff_iff]
  simp only [isForm, Bool.and_eq_true, decide_eq_true_eq, beq_iff_eq, num, Int.toNat_natCast, List.length_cons, List.length_nil, rdLen_eq a [] 1 (by omega), head_is]
  unfold point form
  constructor
  · rintro ⟨-, h, -⟩
    have h2 : a.toNat < 128 := by (repeat' split at h) <;> omega
    rw [if_pos h2]
    refine ⟨by simp; omega, ?_⟩
    rw [List.cons.injEq, u8_eq _ _ (by omega)]; simp
  · rintro ⟨-, h⟩
    refine ⟨by omega, ?_, fun j h1 h2 => by omega⟩
    by_cases h2 : a.toNat < 128
    · rw [if_pos h2]
    · rw [if_neg h2, if_pos (by omega)] at h; simp at h
theorem isForm_2 (a b : UInt8) : isForm [a, b] = (point (num [a, b]) && form (num [a, b]).toNat == [a, b]) := by
  have ha := a.toNat_lt
  have hb := b.toNat_lt
  rw [Bool.eq_iff_iff]
  have key : isForm [a, b] = true ↔ 194 ≤ a.toNat ∧ a.toNat < 224 ∧ 128 ≤ b.toNat ∧ b.toNat < 192 := by
    simp only [isForm, Bool.and_eq_true, decide_eq_true_eq, beq_iff_eq, List.length_cons, List.length_nil, rdLen_eq a [b] 2 (by omega), head_is]
    constructor
    · rintro ⟨-, h, h2⟩
      have := h2 1 (by omega) (by omega)
      rw [okAt_one, cont_is] at this
      simp only [Bool.and_eq_true, decide_eq_true_eq] at this
      refine ⟨?_, ?_, this.1.1, this.1.2⟩ <;> (repeat' split at h) <;> omega
    · rintro ⟨h1, h2, h3, h4⟩
      refine ⟨by omega, by rw [if_neg (by omega), if_pos (by omega)], fun j hj hj2 => ?_⟩
      obtain rfl : j = 1 := by omega
      rw [okAt_one, cont_is, second_is]
      simp only [Bool.and_eq_true, decide_eq_true_eq]
      omega
  rw [key]
  simp only [Bool.and_eq_true, beq_iff_eq, num]
  generalize hx : 64 * ((a.toNat : Int) - 192) + (b.toNat : Int) - 128 = x
  unfold point form
  simp only [Bool.or_eq_true, Bool.and_eq_true, decide_eq_true_eq]
  constructor
  · intro h
    refine ⟨by omega, ?_⟩
    rw [if_neg (by omega), if_pos (by omega), List.cons.injEq, List.cons.injEq, u8_eq _ _ (by omega), u8_eq _ _ (by omega)]
    refine ⟨by omega, by omega, rfl⟩
  · rintro ⟨h1, h⟩
    split at h
    · simp at h
    split at h
    · rw [List.cons.injEq, List.cons.injEq, u8_eq _ _ (by omega), u8_eq _ _ (by omega)] at h
      omega
    split at h
    · simp at h
    · simp at h
theorem isForm_3 (a b c : UInt8) : isForm [a, b, c] = (point (num [a, b, c]) && form (num [a, b, c]).toNat == [a, b, c]) := by
  have ha := a.toNat_lt
  have hb := b.toNat_lt
  have hc := c.toNat_lt
  rw [Bool.eq_iff_iff]
  have key : isForm [a, b, c] = true ↔ 224 ≤ a.toNat ∧ a.toNat < 240 ∧ 128 ≤ b.toNat ∧ b.toNat < 192 ∧ 128 ≤ c.toNat ∧ c.toNat < 192 ∧ (a.toNat = 224 → 160 ≤ b.toNat) ∧ (a.toNat = 237 → b.toNat < 160) := by
    simp only [isForm, Bool.and_eq_true, decide_eq_true_eq, beq_iff_eq, List.length_cons, List.length_nil, rdLen_eq a [b, c] 3 (by omega), head_is]
    constructor
    · rintro ⟨-, h, h2⟩
      have g1 := h2 1 (by omega) (by omega)
      have g2 := h2 2 (by omega) (by omega)
      rw [okAt_one, cont_is, second_is] at g1
      rw [okAt_two, cont_is] at g2
      simp only [Bool.and_eq_true, decide_eq_true_eq] at g1 g2
      have : 224 ≤ a.toNat ∧ a.toNat < 240 := by (repeat' split at h) <;> omega
      omega
    · rintro ⟨h1, h2, h3, h4, h5, h6, h7, h8⟩
      refine ⟨by omega, by rw [if_neg (by omega), if_neg (by omega), if_pos (by omega)], fun j hj hj2 => ?_⟩
      obtain rfl | rfl : j = 1 ∨ j = 2 := by omega
      · rw [okAt_one, cont_is, second_is]
        simp only [Bool.and_eq_true, decide_eq_true_eq]
        omega
      · rw [okAt_two, cont_is]
        simp only [decide_eq_true_eq]
        omega
  rw [key]
  simp only [Bool.and_eq_true, beq_iff_eq, num]
  generalize hx : 4096 * ((a.toNat : Int) - 224) + 64 * ((b.toNat : Int) - 128) + (c.toNat : Int) - 128 = x
  unfold point form
  simp only [Bool.or_eq_true, Bool.and_eq_true, decide_eq_true_eq]
  constructor
  · intro h
    refine ⟨by omega, ?_⟩
    rw [if_neg (by omega), if_neg (by omega), if_pos (by omega), List.cons.injEq, List.cons.injEq, List.cons.injEq, u8_eq _ _ (by omega), u8_eq _ _ (by omega), u8_eq _ _ (by omega)]
    refine ⟨by omega, by omega, by omega, rfl⟩
  · rintro ⟨h1, h⟩
    split at h
    · simp at h
    split at h
    · simp at h
    split at h
    · rw [List.cons.injEq, List.cons.injEq, List.cons.injEq, u8_eq _ _ (by omega), u8_eq _ _ (by omega), u8_eq _ _ (by omega)] at h
      omega
    · simp at h
theorem isForm_4 (a b c d : UInt8) : isForm [a, b, c, d] = (point (num [a, b, c, d]) && form (num [a, b, c, d]).toNat == [a, b, c, d]) := by
  have ha := a.toNat_lt
  have hb := b.toNat_lt
  have hc := c.toNat_lt
  have hd := d.toNat_lt
  rw [Bool.eq_iff_iff]
  have key : isForm [a, b, c, d] = true ↔ 240 ≤ a.toNat ∧ a.toNat < 245 ∧ 128 ≤ b.toNat ∧ b.toNat < 192 ∧ 128 ≤ c.toNat ∧ c.toNat < 192 ∧ 128 ≤ d.toNat ∧ d.toNat < 192 ∧ (a.toNat = 240 → 144 ≤ b.toNat) ∧ (a.toNat = 244 → b.toNat < 144) := by
    simp only [isForm, Bool.and_eq_true, decide_eq_true_eq, beq_iff_eq, List.length_cons, List.length_nil, rdLen_eq a [b, c, d] 4 (by omega), head_is]
    constructor
    · rintro ⟨-, h, h2⟩
      have g1 := h2 1 (by omega) (by omega)
      have g2 := h2 2 (by omega) (by omega)
      have g3 := h2 3 (by omega) (by omega)
      rw [okAt_one, cont_is, second_is] at g1
      rw [okAt_two, cont_is] at g2
      rw [okAt_three, cont_is] at g3
      simp only [Bool.and_eq_true, decide_eq_true_eq] at g1 g2 g3
      have : 240 ≤ a.toNat ∧ a.toNat < 245 := by (repeat' split at h) <;> omega
      omega
    · rintro ⟨h1, h2, h3, h4, h5, h6, h7, h8, h9, h10⟩
      refine ⟨by omega, by rw [if_neg (by omega), if_neg (by omega), if_neg (by omega), if_pos (by omega)], fun j hj hj2 => ?_⟩
      obtain rfl | rfl | rfl : j = 1 ∨ j = 2 ∨ j = 3 := by omega
      · rw [okAt_one, cont_is, second_is]
        simp only [Bool.and_eq_true, decide_eq_true_eq]
        omega
      · rw [okAt_two, cont_is]
        simp only [decide_eq_true_eq]
        omega
      · rw [okAt_three, cont_is]
        simp only [decide_eq_true_eq]
        omega
  rw [key]
  simp only [Bool.and_eq_true, beq_iff_eq, num]
  generalize hx : 262144 * ((a.toNat : Int) - 240) + 4096 * ((b.toNat : Int) - 128) + 64 * ((c.toNat : Int) - 128) + (d.toNat : Int) - 128 = x
  unfold point form
  simp only [Bool.or_eq_true, Bool.and_eq_true, decide_eq_true_eq]
  constructor
  · intro h
    refine ⟨by omega, ?_⟩
    rw [if_neg (by omega), if_neg (by omega), if_neg (by omega), List.cons.injEq, List.cons.injEq, List.cons.injEq, List.cons.injEq, u8_eq _ _ (by omega), u8_eq _ _ (by omega), u8_eq _ _ (by omega), u8_eq _ _ (by omega)]
    refine ⟨by omega, by omega, by omega, by omega, rfl⟩
  · rintro ⟨h1, h⟩
    split at h
    · simp at h
    split at h
    · simp at h
    split at h
    · simp at h
    · rw [List.cons.injEq, List.cons.injEq, List.cons.injEq, List.cons.injEq, u8_eq _ _ (by omega), u8_eq _ _ (by omega), u8_eq _ _ (by omega), u8_eq _ _ (by omega)] at h
      omega
end Go.Proofs.Ytpnpgjjbincigaa.Utf
