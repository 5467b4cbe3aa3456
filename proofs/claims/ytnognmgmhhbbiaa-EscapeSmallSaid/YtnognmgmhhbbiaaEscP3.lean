/- Plain laws: what is written is read; where a form is cut; what is wrong is found. -/
import Derived.Test.YtnognmgmhhbbiaaEscP2
namespace Go.Proofs.Ytnognmgmhhbbiaa.Esc

theorem dec_enc (v : Bool) : dec v 92 = some 92 ∧ dec v 110 = some 10 := by cases v <;> decide
theorem Out.pre_pre (a b : List UInt8) (i j : Nat) (o : Out) : (o.pre b j).pre a i = o.pre (a ++ b) (i + j) := by
  cases o <;> simp [Out.pre, Nat.add_assoc]
theorem Out.cons_pre (x : UInt8) (k : Nat) (b : List UInt8) (j : Nat) (o : Out) : (o.pre b j).cons x k = o.pre (x :: b) (j + k) := by
  cases o <;> simp [Out.pre, Out.cons]; omega

theorem rd_enc (v q : Bool) (c : UInt8) (r : List UInt8) (h : (enc v c ++ r) = enc v c ++ r) (hq : v = true ∨ c ≠ 34 ∨ True) : rd v q (enc v c ++ r) = (rd v q r).cons c (enc v c).length := by
  by_cases h92 : c = 92
  · subst h92
    have e : enc v 92 = [92, 92] := rfl
    rw [e]
    exact rd_two v q 92 92 r (dec_enc v).1
  by_cases h10 : c = 10
  · subst h10
    have e : enc v 10 = [92, 110] := rfl
    rw [e]
    exact rd_two v q 110 10 r (dec_enc v).2
  by_cases h34 : v = true ∧ c = 34
  · obtain ⟨rfl, rfl⟩ := h34
    have e : enc true 34 = [92, 34] := rfl
    rw [e]
    exact rd_two true q 34 34 r rfl
  · have e : enc v c = [c] := by unfold enc; rw [if_neg h92, if_neg h10, if_neg h34]
    rw [e]
    exact rd_plain v q c r h10 h34 h92

/-- what is written is read, and what stands behind it is read on -/
theorem rd_form (v q : Bool) (l r : List UInt8) : rd v q (form v l ++ r) = (rd v q r).pre l (form v l).length := by
  induction l with
  | nil => simp [form, Out.pre_nil]
  | cons c l ih =>
    rw [form_cons, List.append_assoc, rd_enc v q c _ rfl (.inr (.inr trivial)), ih, Out.cons_pre, List.length_append, Nat.add_comm]
theorem rd_whole (v : Bool) (l : List UInt8) : rd v false (form v l) = .good l (form v l).length := by
  have h := rd_form v false l []
  rw [List.append_nil, rd_nil] at h
  rw [h]; simp [Out.pre]
theorem rd_quoted (l r : List UInt8) : rd true true (form true l ++ 34 :: r) = .good l (form true l).length := by
  rw [rd_form, rd_quote]; simp [Out.pre]

theorem enc_cases (v : Bool) (c : UInt8) : enc v c = [c] ∨ ∃ d, enc v c = [92, d] := by
  unfold enc
  split
  · exact .inr ⟨_, rfl⟩
  · split
    · exact .inr ⟨_, rfl⟩
    · split
      · exact .inr ⟨_, rfl⟩
      · exact .inl rfl

/-- a form that is cut is a form, or a form and a backslash -/
theorem form_take (v : Bool) (l : List UInt8) : ∀ j, ∃ l' t, (form v l).take j = form v l' ++ t ∧ (t = [] ∨ t = [92]) := by
  induction l with
  | nil => intro j; exact ⟨[], [], by simp [form], .inl rfl⟩
  | cons c l ih =>
    intro j
    rw [form_cons]
    rcases enc_cases v c with h | ⟨d, h⟩
    · rw [h]
      cases j with
      | zero => exact ⟨[], [], by simp [form], .inl rfl⟩
      | succ j =>
        obtain ⟨l', t, h1, h2⟩ := ih j
        exact ⟨c :: l', t, by rw [form_cons, h]; simp [h1], h2⟩
    · rw [h]
      match j with
      | 0 => exact ⟨[], [], by simp [form], .inl rfl⟩
      | 1 => exact ⟨[], [92], by simp [form], .inr rfl⟩
      | j + 2 =>
        obtain ⟨l', t, h1, h2⟩ := ih j
        exact ⟨c :: l', t, by rw [form_cons, h]; simp [h1], h2⟩
theorem rd_cut (l : List UInt8) (j : Nat) : rd true true ((form true l).take j) = .bad 222 := by
  obtain ⟨l', t, h1, h2⟩ := form_take true l j
  rw [h1, rd_form]
  rcases h2 with rfl | rfl
  · rw [rd_nil]; rfl
  · rw [rd_last]; rfl

end Go.Proofs.Ytnognmgmhhbbiaa.Esc
