/- Plain laws: right labels. No program in sight. -/
import Derived.Test.YtbilaghljlobpaaGreatMadeD
namespace Go.Proofs.YtbilaghljlobpaaGreat

theorem Utf.head_lt (c : UInt8) (h : Utf.head c ≠ 0) : c < 245 := by
  unfold Utf.head at h
  rw [UInt8.lt_iff_toNat_lt]
  have e : (245 : UInt8).toNat = 245 := rfl
  split at h
  · rename_i h1
    rw [UInt8.lt_iff_toNat_lt] at h1
    have e1 : (128 : UInt8).toNat = 128 := rfl
    omega
  · split at h
    · rename_i h1
      have h2 := h1.2
      rw [UInt8.lt_iff_toNat_lt] at h2
      have e1 : (224 : UInt8).toNat = 224 := rfl
      omega
    · split at h
      · rename_i h1
        have h2 := h1.2
        rw [UInt8.lt_iff_toNat_lt] at h2
        have e1 : (240 : UInt8).toNat = 240 := rfl
        omega
      · split at h
        · rename_i h1
          have h2 := h1.2
          rw [UInt8.lt_iff_toNat_lt] at h2
          omega
        · exact absurd rfl h
theorem Utf.cont_lt (c : UInt8) (h : Utf.cont c = true) : c < 245 := by
  unfold Utf.cont at h
  simp only [Bool.and_eq_true, decide_eq_true_eq] at h
  have h2 := h.2
  rw [UInt8.lt_iff_toNat_lt] at h2 ⊢
  have e : (245 : UInt8).toNat = 245 := rfl
  have e1 : (192 : UInt8).toNat = 192 := rfl
  omega
theorem Utf.valid_lt (k : Nat) : ∀ (l : List UInt8), l.length ≤ k → Utf.valid l = true → ∀ c ∈ l, c < 245 := by
  induction k with
  | zero =>
    intro l h _ c hc
    obtain rfl : l = [] := List.length_eq_zero_iff.1 (by omega)
    simp at hc
  | succ k ih =>
    intro l h hv c hc
    cases l with
    | nil => simp at hc
    | cons a r =>
      have h0 : Utf.rdLen (a :: r) ≠ 0 := fun e => by
        rw [Utf.valid_bad _ (by simp) e] at hv
        exact absurd hv (by simp)
      have hv2 := hv
      rw [Utf.valid_step _ (by simp) h0] at hv2
      have hr : Utf.rdLen (a :: r) = if (List.range (Utf.head a)).all (fun j => j == 0 || Utf.okAt (a :: r) j) then Utf.head a else 0 := rfl
      by_cases hall : (List.range (Utf.head a)).all (fun j => j == 0 || Utf.okAt (a :: r) j) = true
      · rw [if_pos hall] at hr
        rw [← List.take_append_drop (Utf.rdLen (a :: r)) (a :: r), List.mem_append] at hc
        rcases hc with hc | hc
        · obtain ⟨j, hj, e⟩ := List.getElem_of_mem hc
          rw [List.length_take] at hj
          rw [List.getElem_take] at e
          rw [List.all_eq_true] at hall
          have := hall j (List.mem_range.2 (by omega))
          cases j with
          | zero =>
            simp at e
            subst e
            exact Utf.head_lt _ (by omega)
          | succ j =>
            simp only [Nat.add_eq_zero_iff, Bool.or_eq_true, beq_iff_eq] at this
            have h2 : Utf.okAt (a :: r) (j + 1) = true := by
              rcases this with h | h
              · omega
              · exact h
            unfold Utf.okAt at h2
            rw [List.getElem?_eq_getElem (by omega), e] at h2
            simp only [Bool.and_eq_true] at h2
            exact Utf.cont_lt _ h2.1
        · exact ih _ (by rw [List.length_drop]; simp only [List.length_cons] at h ⊢; omega) hv2 c hc
      · rw [if_neg hall] at hr
        exact absurd hr h0

theorem Lab.letter_lt (c : UInt8) (h : Lab.letter c = true) : c < 245 := by
  unfold Lab.letter at h
  simp only [Bool.or_eq_true, Bool.and_eq_true, decide_eq_true_eq] at h
  rw [UInt8.lt_iff_toNat_lt]
  have e : (245 : UInt8).toNat = 245 := rfl
  rcases h with h | h
  · have h2 := h.2
    rw [UInt8.le_iff_toNat_le] at h2
    have e1 : (122 : UInt8).toNat = 122 := rfl
    omega
  · have h2 := h.2
    rw [UInt8.le_iff_toNat_le] at h2
    have e1 : (90 : UInt8).toNat = 90 := rfl
    omega
theorem Lab.digit_lt (c : UInt8) (h : Lab.digit c = true) : c < 245 := by
  unfold Lab.digit at h
  simp only [Bool.and_eq_true, decide_eq_true_eq] at h
  have h2 := h.2
  rw [UInt8.le_iff_toNat_le] at h2
  rw [UInt8.lt_iff_toNat_lt]
  have e : (245 : UInt8).toNat = 245 := rfl
  have e1 : (57 : UInt8).toNat = 57 := rfl
  omega
theorem Lab.bytesOk_lt (l : List UInt8) : ∀ (f : Bool), Lab.bytesOk 95 f l = true → ∀ c ∈ l, c < 245 := by
  induction l with
  | nil => intro f _ c hc; simp at hc
  | cons a r ih =>
    intro f h c hc
    unfold Lab.bytesOk at h
    rw [Bool.and_eq_true] at h
    rw [List.mem_cons] at hc
    rcases hc with rfl | hc
    · have h1 := h.1
      unfold Lab.okByte at h1
      simp only [Bool.or_eq_true, beq_iff_eq, Bool.and_eq_true] at h1
      rcases h1 with ((h1 | h1) | h1) | h1
      · exact Lab.letter_lt _ h1
      · subst h1; decide
      · subst h1; decide
      · exact Lab.digit_lt _ h1.2
    · exact ih _ h.2 c hc
theorem Lab.named_lt (l : List UInt8) (h : Lab.named 95 l = true) : ∀ c ∈ l, c < 245 := by
  unfold Lab.named at h
  simp only [Bool.and_eq_true] at h
  exact Lab.bytesOk_lt l _ h.2
theorem Lab.value_lt (l : List UInt8) (h : Lab.value l = true) : ∀ c ∈ l, c < 245 := by
  unfold Lab.value at h
  simp only [Bool.and_eq_true] at h
  exact Utf.valid_lt _ l (Nat.le_refl _) h.2

/-- a label whose bytes are plain -/
def Lab.Calm (x : Lab.L) : Prop := (∀ c ∈ Lab.bs x.n, c < 245) ∧ ∀ c ∈ Lab.bs x.v, c < 245
theorem Lab.one_calm (x : Lab.L) (h : Lab.one x = 0) : Lab.Calm x := by
  unfold Lab.one at h
  split at h
  · rename_i h1
    split at h
    · rename_i h2
      exact ⟨Lab.named_lt _ h1, Lab.value_lt _ h2⟩
    · simp at h
  · simp at h
theorem Lab.oneAt_one (p : Option Lab.L) (x : Lab.L) (h : Lab.oneAt p x = 0) : Lab.one x = 0 := by
  unfold Lab.oneAt at h
  split at h
  · assumption
  · assumption
theorem Lab.chk_one (ls : List Lab.L) : ∀ (k : Nat) (p : Option Lab.L), (Lab.chk k p ls).2 = 0 → ∀ x ∈ ls, Lab.one x = 0 := by
  induction ls with
  | nil => intro k p _ x hx; simp at hx
  | cons y r ih =>
    intro k p h x hx
    unfold Lab.chk at h
    split at h
    · rename_i h1
      rw [List.mem_cons] at hx
      rcases hx with rfl | hx
      · exact Lab.oneAt_one _ _ h1
      · exact ih _ _ h x hx
    · rename_i h1
      exact absurd h h1
theorem Lab.right_parts (ls : List Lab.L) (h : Lab.right ls = true) : ls.length ≤ 64 ∧ ∀ x ∈ ls, Lab.one x = 0 := by
  unfold Lab.right Lab.check at h
  split at h
  · simp at h
  · exact ⟨by omega, Lab.chk_one ls _ _ (by simpa using h)⟩
theorem Lab.right_calm (ls : List Lab.L) (h : Lab.right ls = true) : ∀ x ∈ ls, Lab.Calm x := fun x hx => Lab.one_calm x ((Lab.right_parts ls h).2 x hx)

/-- labels in order, with values, each right by itself, are right -/
theorem Lab.chk_strict (ls : List Lab.L) : ∀ (k : Nat) (p : Option Lab.L), (∀ x ∈ ls, Lab.one x = 0 ∧ Lab.bs x.v ≠ []) → Lab.Strict (p.toList ++ ls) → (Lab.chk k p ls).2 = 0 := by
  induction ls with
  | nil => intro k p _ _; rfl
  | cons y r ih =>
    intro k p h hs
    have hy := h y List.mem_cons_self
    have h0 : Lab.oneAt p y = 0 := by
      unfold Lab.oneAt
      rw [if_pos hy.1, if_neg hy.2]
      cases p with
      | none => rfl
      | some z =>
        unfold Lab.Strict at hs
        have hs2 : (z :: y :: r).Pairwise fun a b => Lab.bs a.n < Lab.bs b.n := hs
        rw [List.pairwise_cons] at hs2
        have hz := hs2.1 y List.mem_cons_self
        show (if Lab.bs y.n ≤ Lab.bs z.n then (42 : Int) else 0) = 0
        rw [if_neg (fun hle => hle hz)]
    unfold Lab.chk
    rw [if_pos h0]
    refine ih _ _ (fun x hx => h x (List.mem_cons_of_mem _ hx)) ?_
    unfold Lab.Strict at hs ⊢
    cases p with
    | none => exact hs
    | some z =>
      have hs2 : (z :: y :: r).Pairwise fun a b => Lab.bs a.n < Lab.bs b.n := hs
      rw [List.pairwise_cons] at hs2
      exact hs2.2
theorem Lab.right_of_strict (ls : List Lab.L) (hl : ls.length ≤ 64) (h : ∀ x ∈ ls, Lab.one x = 0 ∧ Lab.bs x.v ≠ []) (hs : Lab.Strict ls) : Lab.right ls = true := by
  unfold Lab.right Lab.check
  rw [if_neg (by omega), Lab.chk_strict ls 0 none h hs]
  rfl
theorem Lab.oneAll_one (ls : List Lab.L) (h : Lab.oneAll ls = 0) : ∀ x ∈ ls, Lab.one x = 0 := by
  induction ls with
  | nil => intro x hx; simp at hx
  | cons y r ih =>
    intro x hx
    unfold Lab.oneAll at h
    split at h
    · rename_i h1
      rw [List.mem_cons] at hx
      rcases hx with rfl | hx
      · exact h1
      · exact ih h x hx
    · rename_i h1
      exact absurd h h1
theorem Lab.oneAll_of (ls : List Lab.L) (h : ∀ x ∈ ls, Lab.one x = 0) : Lab.oneAll ls = 0 := by
  induction ls with
  | nil => rfl
  | cons y r ih =>
    unfold Lab.oneAll
    rw [if_pos (h y List.mem_cons_self)]
    exact ih fun x hx => h x (List.mem_cons_of_mem _ hx)
theorem Lab.full_mem (ls : List Lab.L) (x : Lab.L) : x ∈ Lab.full ls ↔ x ∈ ls ∧ Lab.bs x.v ≠ [] := by
  unfold Lab.full
  rw [List.mem_filter]
  simp
theorem Lab.of_right (ls r : List Lab.L) (h : Lab.of ls = (r, 0)) : Lab.right r = true ∧ ∀ x, x ∈ r ↔ x ∈ ls ∧ Lab.bs x.v ≠ [] := by
  unfold Lab.of at h
  split at h
  · rename_i h1
    split at h
    · rename_i h2
      split at h
      · simp at h
      · rename_i h3
        simp only [Prod.mk.injEq, and_true] at h
        have hm : ∀ x, x ∈ r ↔ x ∈ ls ∧ Lab.bs x.v ≠ [] := fun x => by
          rw [← h, Lab.full_mem, (Lab.srt_perm ls).mem_iff]
        refine ⟨Lab.right_of_strict r (by rw [← h]; omega) (fun x hx => ⟨Lab.oneAll_one ls h1 x ((hm x).1 hx).1, ((hm x).1 hx).2⟩) ?_, hm⟩
        rw [← h]
        have hs := Lab.strict_of_asc (Lab.srt_asc ls) (((Lab.names_perm (Lab.srt_perm ls)).nodup_iff).2 h2)
        exact List.Pairwise.sublist (List.filter_sublist) hs
    · simp at h
  · rename_i h1
    simp only [Prod.mk.injEq] at h
    exact absurd h.2 h1

/-- a byte that stands nowhere in front -/
theorem Lab.chk_full (ls : List Lab.L) : ∀ (k : Nat) (p : Option Lab.L), (Lab.chk k p ls).2 = 0 → ∀ x ∈ ls, Lab.bs x.v ≠ [] := by
  induction ls with
  | nil => intro k p _ x hx; simp at hx
  | cons y r ih =>
    intro k p h x hx
    unfold Lab.chk at h
    split at h
    · rename_i h1
      rw [List.mem_cons] at hx
      rcases hx with rfl | hx
      · intro hv
        have h2 := Lab.oneAt_one _ _ h1
        unfold Lab.oneAt at h1
        rw [if_pos h2, if_pos hv] at h1
        exact absurd h1 (by decide)
      · exact ih _ _ h x hx
    · rename_i h1
      exact absurd h h1
theorem Lab.right_full (ls : List Lab.L) (h : Lab.right ls = true) : ∀ x ∈ ls, Lab.bs x.v ≠ [] := by
  unfold Lab.right Lab.check at h
  split at h
  · simp at h
  · exact Lab.chk_full ls _ _ (by simpa using h)
theorem Lab.bytes_beq (a b : ByteArray) : (a.toList == b.toList) = decide (Lab.bs a = Lab.bs b) := by
  rw [ByteArray.toList_eq, ByteArray.toList_eq]
  rw [Bool.eq_iff_iff]; simp [Lab.bs]
theorem Lab.bs_inj {a b : ByteArray} (h : Lab.bs a = Lab.bs b) : a = b := by
  cases a; cases b
  unfold Lab.bs at h
  simp at h
  rw [h]
theorem Can.cmp_law (x y : List UInt8) : Lib.compareBytes x y = if x < y then -1 else if x = y then 0 else 1 := by
  induction x generalizing y with
  | nil =>
    cases y with
    | nil => simp [Lib.compareBytes]
    | cons c r => simp [Lib.compareBytes]
  | cons a x ih =>
    cases y with
    | nil => simp [Lib.compareBytes]
    | cons b y =>
      unfold Lib.compareBytes
      have hc : (a :: x < b :: y) ↔ (a < b ∨ a = b ∧ x < y) := List.cons_lt_cons_iff
      rw [ih y]
      by_cases h1 : a < b
      · rw [if_pos h1, if_pos (hc.2 (.inl h1))]
      · rw [if_neg h1]
        by_cases h2 : b < a
        · have hne : a ≠ b := fun e => by subst e; exact h1 h2
          rw [if_pos h2, if_neg (fun h => (hc.1 h).elim h1 (fun q => hne q.1)), if_neg (by intro e; exact hne (List.cons.inj e).1)]
        · have he : a = b := UInt8.toNat_inj.1 (by rw [UInt8.lt_iff_toNat_lt] at h1 h2; omega)
          subst he
          rw [if_neg h2]
          by_cases h3 : x < y
          · rw [if_pos h3, if_pos (hc.2 (.inr ⟨rfl, h3⟩))]
          · rw [if_neg h3, if_neg (fun h => (hc.1 h).elim h1 (fun q => h3 q.2))]
            simp
end Go.Proofs.YtbilaghljlobpaaGreat
