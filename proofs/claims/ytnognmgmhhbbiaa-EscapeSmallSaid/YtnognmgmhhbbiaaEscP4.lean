/- Plain laws: which forms are wrong, where; clean strings; how long forms are; forms and their readings. -/
import Derived.Test.YtnognmgmhhbbiaaEscP3
namespace Go.Proofs.Ytnognmgmhhbbiaa.Esc

theorem rd_form_feed (v q : Bool) (l t : List UInt8) : rd v q (form v l ++ 10 :: t) = .bad 223 := by rw [rd_form, rd_feed]; rfl
theorem rd_form_bad (v q : Bool) (l t : List UInt8) (d : UInt8) (h : dec v d = none) : rd v q (form v l ++ 92 :: d :: t) = .bad 220 := by rw [rd_form, rd_bad _ _ _ _ h]; rfl
theorem rd_form_quote (l t : List UInt8) : rd true false (form true l ++ 34 :: t) = .bad 221 := by rw [rd_form, rd_quote]; rfl
theorem rd_form_last (v : Bool) (l : List UInt8) : rd v false (form v l ++ [92]) = .bad 220 := by rw [rd_form, rd_last]; rfl
theorem dec_none (v : Bool) (d : UInt8) (h1 : d ≠ 92) (h2 : d ≠ 110) (h3 : v = true → d ≠ 34) : dec v d = none := by
  unfold dec; rw [if_neg h1, if_neg h2, if_neg (fun h => h3 h.1 h.2)]

/-- a byte of a clean string -/
def okB (c : UInt8) : Bool := !((decide (c < 32) && c != 9) || c == 127)
def clean (l : List UInt8) : Bool := l.all okB
theorem clean_nil : clean [] = true := rfl
theorem clean_cons (c : UInt8) (l : List UInt8) : clean (c :: l) = (okB c && clean l) := rfl
theorem clean_append (a b : List UInt8) : clean (a ++ b) = (clean a && clean b) := by simp [clean]
/-- all that is wrong are line feeds -/
def feeds (l : List UInt8) : Bool := l.all fun c => okB c || c == 10
theorem feeds_append (a b : List UInt8) : feeds (a ++ b) = (feeds a && feeds b) := by simp [feeds]
theorem clean_form (l : List UInt8) : clean (form false l) = feeds l := by
  induction l with
  | nil => rfl
  | cons c l ih =>
    rw [form_cons, clean_append, ih]
    show _ = ((okB c || c == 10) && feeds l)
    congr 1
    by_cases h1 : c = 92
    · subst h1; decide
    by_cases h2 : c = 10
    · subst h2; decide
    have e : enc false c = [c] := by unfold enc; rw [if_neg h1, if_neg h2, if_neg (by simp)]
    rw [e]; simp [clean, h2]
theorem clean_feeds (l : List UInt8) (h : clean l = true) : feeds l = true := by
  induction l with
  | nil => rfl
  | cons c l ih =>
    simp only [clean, feeds, List.all_cons, Bool.and_eq_true, Bool.or_eq_true] at *
    exact ⟨.inl h.1, ih h.2⟩
theorem clean_or_feeds (l : List UInt8) : (clean l || feeds l) = feeds l := by
  cases h : clean l
  · rfl
  · rw [clean_feeds l h]; rfl

/-- a reading that goes well has this form -/
theorem form_of_rd (v : Bool) (m : Nat) : ∀ (l x : List UInt8) (n : Nat), l.length ≤ m → rd v false l = .good x n → form v x = l := by
  induction m with
  | zero =>
    intro l x n hl h
    obtain rfl : l = [] := List.length_eq_zero_iff.1 (by omega)
    rw [rd_nil] at h
    simp at h
    rw [h.1]; rfl
  | succ m ih =>
    intro l x n hl h
    cases l with
    | nil => rw [rd_nil] at h; simp at h; rw [h.1]; rfl
    | cons c r =>
      simp only [List.length_cons] at hl
      by_cases h10 : c = 10
      · subst h10; rw [rd_feed] at h; cases h
      by_cases hq : v = true ∧ c = 34
      · obtain ⟨rfl, rfl⟩ := hq; rw [rd_quote] at h; simp at h
      by_cases h92 : c = 92
      · subst h92
        cases r with
        | nil => rw [rd_last] at h; simp at h
        | cons d r' =>
          simp only [List.length_cons] at hl
          cases hd : dec v d with
          | none => rw [rd_bad _ _ _ _ hd] at h; cases h
          | some y =>
            rw [rd_two _ _ _ _ _ hd] at h
            cases hr : rd v false r' with
            | bad e => rw [hr] at h; cases h
            | good z k =>
              rw [hr] at h
              simp only [Out.cons, Out.good.injEq] at h
              obtain ⟨rfl, _⟩ := h
              rw [form_cons, ih r' z k (by omega) hr]
              unfold dec at hd
              split at hd
              · rename_i e; subst e; cases hd; rfl
              · split at hd
                · rename_i e; subst e; cases hd; rfl
                · split at hd
                  · rename_i e; obtain ⟨rfl, rfl⟩ := e; cases hd; rfl
                  · cases hd
      · rw [rd_plain _ _ _ _ h10 hq h92] at h
        cases hr : rd v false r with
        | bad e => rw [hr] at h; cases h
        | good z k =>
          rw [hr] at h
          simp only [Out.cons, Out.good.injEq] at h
          obtain ⟨rfl, _⟩ := h
          have e : enc v c = [c] := by unfold enc; rw [if_neg h92, if_neg h10, if_neg hq]
          rw [form_cons, e, ih r z k (by omega) hr]; rfl
theorem form_inj (v : Bool) (a b : List UInt8) : form v a = form v b ↔ a = b := by
  constructor
  · intro h
    have h1 := rd_whole v a
    rw [h, rd_whole] at h1
    simp only [Out.good.injEq] at h1
    exact h1.1.symm
  · intro h; rw [h]
theorem feed_not_mem (v : Bool) (l : List UInt8) : (10 : UInt8) ∉ form v l := by
  induction l with
  | nil => simp [form]
  | cons c l ih =>
    rw [form_cons, List.mem_append, not_or]
    refine ⟨?_, ih⟩
    by_cases h1 : c = 92
    · subst h1; show (10 : UInt8) ∉ [92, 92]; decide
    by_cases h2 : c = 10
    · subst h2; show (10 : UInt8) ∉ [92, 110]; decide
    by_cases h3 : v = true ∧ c = 34
    · obtain ⟨rfl, rfl⟩ := h3; show (10 : UInt8) ∉ [92, 34]; decide
    have e : enc v c = [c] := by unfold enc; rw [if_neg h1, if_neg h2, if_neg h3]
    rw [e]; simp; exact fun h => h2 h.symm

/-- how many bytes of a string are c -/
def cnt (c : UInt8) (l : List UInt8) : Nat := l.count c
theorem form_len_help (l : List UInt8) : (form false l).length = l.length + (l.count 92 + l.count 10) := by
  induction l with
  | nil => rfl
  | cons c l ih =>
    rw [form_cons, List.length_append, ih, List.length_cons, List.count_cons, List.count_cons]
    by_cases h1 : c = 92
    · subst h1; have : (enc false 92).length = 2 := rfl
      simp [this]; omega
    by_cases h2 : c = 10
    · subst h2; have : (enc false 10).length = 2 := rfl
      simp [this]; omega
    have e : enc false c = [c] := by unfold enc; rw [if_neg h1, if_neg h2, if_neg (by simp)]
    rw [e]; simp [h1, h2]; omega
theorem form_len_value (l : List UInt8) : (form true l).length = l.length + (l.count 92 + l.count 10 + l.count 34) := by
  induction l with
  | nil => rfl
  | cons c l ih =>
    rw [form_cons, List.length_append, ih, List.length_cons, List.count_cons, List.count_cons, List.count_cons]
    by_cases h1 : c = 92
    · subst h1; have : (enc true 92).length = 2 := rfl
      simp [this]; omega
    by_cases h2 : c = 10
    · subst h2; have : (enc true 10).length = 2 := rfl
      simp [this]; omega
    by_cases h3 : c = 34
    · subst h3; have : (enc true 34).length = 2 := rfl
      simp [this]; omega
    have e : enc true c = [c] := by unfold enc; rw [if_neg h1, if_neg h2, if_neg (by simp [h3])]
    rw [e]; simp [h1, h2, h3]; omega
/-- a form is its string just if it is as long -/
theorem form_eq_iff (v : Bool) (l : List UInt8) : form v l = l ↔ (form v l).length = l.length := by
  constructor
  · intro h; rw [h]
  · intro h
    induction l with
    | nil => rfl
    | cons c l ih =>
      rw [form_cons, List.length_append, List.length_cons] at h
      have h1 := enc_le v c
      have h2 := form_le v l
      have h3 : (enc v c).length = 1 := by omega
      have h4 : enc v c = [c] := by
        rcases enc_cases v c with e | ⟨d, e⟩
        · exact e
        · rw [e] at h3; simp at h3
      rw [form_cons, h4, ih (by omega)]; rfl
end Go.Proofs.Ytnognmgmhhbbiaa.Esc
