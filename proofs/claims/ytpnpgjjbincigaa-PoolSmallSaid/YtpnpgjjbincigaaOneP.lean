/- Plain laws: what is written of right labels is read back, and what is read is written back; so are keys. No program in sight. -/
import Derived.Test.YtpnpgjjbincigaaMadeD
import Derived.Test.YtpnpgjjbincigaaCnW
namespace Go.Proofs.Ytpnpgjjbincigaa

theorem Utf.head_lt (c : UInt8) (h : Utf.head c ≠ 0) : c < 245 := by
  unfold Utf.head at h
  rw [UInt8.lt_iff_toNat_lt]
  have e : (245 : UInt8).toNat = 245 := rfl
  split at h
  · rename_i h1
    rw [UInt8.lt_iff_toNat_lt] at h1
    have e1 : (128 : UInt8).toNat = 128 := rfl
    omega
  · split at h
    · rename_i h1
      have h2 := h1.2
      rw [UInt8.lt_iff_toNat_lt] at h2
      have e1 : (224 : UInt8).toNat = 224 := rfl
      omega
    · split at h
      · rename_i h1
        have h2 := h1.2
        rw [UInt8.lt_iff_toNat_lt] at h2
        have e1 : (240 : UInt8).toNat = 240 := rfl
        omega
      · split at h
        · rename_i h1
          have h2 := h1.2
          rw [UInt8.lt_iff_toNat_lt] at h2
          omega
        · exact absurd rfl h
theorem Utf.cont_lt (c : UInt8) (h : Utf.cont c = true) : c < 245 := by
  unfold Utf.cont at h
  simp only [Bool.and_eq_true, decide_eq_true_eq] at h
  have h2 := h.2
  rw [UInt8.lt_iff_toNat_lt] at h2 ⊢
  have e : (245 : UInt8).toNat = 245 := rfl
  have e1 : (192 : UInt8).toNat = 192 := rfl
  omega
theorem Utf.valid_lt (k : Nat) : ∀ (l : List UInt8), l.length ≤ k → Utf.valid l = true → ∀ c ∈ l, c < 245 := by
  induction k with
  | zero =>
    intro l h _ c hc
    obtain rfl : l = [] := List.length_eq_zero_iff.1 (by omega)
    simp at hc
  | succ k ih =>
    intro l h hv c hc
    cases l with
    | nil => simp at hc
    | cons a r =>
      have h0 : Utf.rdLen (a :: r) ≠ 0 := fun e => by
        rw [Utf.valid_bad _ (by simp) e] at hv
        exact absurd hv (by simp)
      have hv2 := hv
      rw [Utf.valid_step _ (by simp) h0] at hv2
      have hr : Utf.rdLen (a :: r) = if (List.range (Utf.head a)).all (fun j => j == 0 || Utf.okAt (a :: r) j) then Utf.head a else 0 := rfl
      by_cases hall : (List.range (Utf.head a)).all (fun j => j == 0 || Utf.okAt (a :: r) j) = true
      · rw [if_pos hall] at hr
        rw [← List.take_append_drop (Utf.rdLen (a :: r)) (a :: r), List.mem_append] at hc
        rcases hc with hc | hc
        · obtain ⟨j, hj, e⟩ := List.getElem_of_mem hc
          rw [List.length_take] at hj
          rw [List.getElem_take] at e
          rw [List.all_eq_true] at hall
          have := hall j (List.mem_range.2 (by omega))
          cases j with
          | zero =>
            simp at e
            subst e
            exact Utf.head_lt _ (by omega)
          | succ j =>
            simp only [Nat.add_eq_zero_iff, Bool.or_eq_true, beq_iff_eq] at this
            have h2 : Utf.okAt (a :: r) (j + 1) = true := by
              rcases this with h | h
              · omega
              · exact h
            unfold Utf.okAt at h2
            rw [List.getElem?_eq_getElem (by omega), e] at h2
            simp only [Bool.and_eq_true] at h2
            exact Utf.cont_lt _ h2.1
        · exact ih _ (by rw [List.length_drop]; simp only [List.length_cons] at h ⊢; omega) hv2 c hc
      · rw [if_neg hall] at hr
        exact absurd hr h0

theorem Lab.letter_lt (c : UInt8) (h : Lab.letter c = true) : c < 245 := by
  unfold Lab.letter at h
  simp only [Bool.or_eq_true, Bool.and_eq_true, decide_eq_true_eq] at h
  rw [UInt8.lt_iff_toNat_lt]
  have e : (245 : UInt8).toNat = 245 := rfl
  rcases h with h | h
  · have h2 := h.2
    rw [UInt8.le_iff_toNat_le] at h2
    have e1 : (122 : UInt8).toNat = 122 := rfl
    omega
  · have h2 := h.2
    rw [UInt8.le_iff_toNat_le] at h2
    have e1 : (90 : UInt8).toNat = 90 := rfl
    omega
theorem Lab.digit_lt (c : UInt8) (h : Lab.digit c = true) : c < 245 := by
  unfold Lab.digit at h
  simp only [Bool.and_eq_true, decide_eq_true_eq] at h
  have h2 := h.2
  rw [UInt8.le_iff_toNat_le] at h2
  rw [UInt8.lt_iff_toNat_lt]
  have e : (245 : UInt8).toNat = 245 := rfl
  have e1 : (57 : UInt8).toNat = 57 := rfl
  omega
theorem Lab.bytesOk_lt (l : List UInt8) : ∀ (f : Bool), Lab.bytesOk 95 f l = true → ∀ c ∈ l, c < 245 := by
  induction l with
  | nil => intro f _ c hc; simp at hc
  | cons a r ih =>
    intro f h c hc
    unfold Lab.bytesOk at h
    rw [Bool.and_eq_true] at h
    rw [List.mem_cons] at hc
    rcases hc with rfl | hc
    · have h1 := h.1
      unfold Lab.okByte at h1
      simp only [Bool.or_eq_true, beq_iff_eq, Bool.and_eq_true] at h1
      rcases h1 with ((h1 | h1) | h1) | h1
      · exact Lab.letter_lt _ h1
      · subst h1; decide
      · subst h1; decide
      · exact Lab.digit_lt _ h1.2
    · exact ih _ h.2 c hc
theorem Lab.named_lt (l : List UInt8) (h : Lab.named 95 l = true) : ∀ c ∈ l, c < 245 := by
  unfold Lab.named at h
  simp only [Bool.and_eq_true] at h
  exact Lab.bytesOk_lt l _ h.2
theorem Lab.value_lt (l : List UInt8) (h : Lab.value l = true) : ∀ c ∈ l, c < 245 := by
  unfold Lab.value at h
  simp only [Bool.and_eq_true] at h
  exact Utf.valid_lt _ l (Nat.le_refl _) h.2

/-- a label whose bytes are plain -/
def Lab.Calm (x : Lab.L) : Prop := (∀ c ∈ Lab.bs x.n, c < 245) ∧ ∀ c ∈ Lab.bs x.v, c < 245
theorem Lab.one_calm (x : Lab.L) (h : Lab.one x = 0) : Lab.Calm x := by
  unfold Lab.one at h
  split at h
  · rename_i h1
    split at h
    · rename_i h2
      exact ⟨Lab.named_lt _ h1, Lab.value_lt _ h2⟩
    · simp at h
  · simp at h
theorem Lab.oneAt_one (p : Option Lab.L) (x : Lab.L) (h : Lab.oneAt p x = 0) : Lab.one x = 0 := by
  unfold Lab.oneAt at h
  split at h
  · assumption
  · assumption
theorem Lab.chk_one (ls : List Lab.L) : ∀ (k : Nat) (p : Option Lab.L), (Lab.chk k p ls).2 = 0 → ∀ x ∈ ls, Lab.one x = 0 := by
  induction ls with
  | nil => intro k p _ x hx; simp at hx
  | cons y r ih =>
    intro k p h x hx
    unfold Lab.chk at h
    split at h
    · rename_i h1
      rw [List.mem_cons] at hx
      rcases hx with rfl | hx
      · exact Lab.oneAt_one _ _ h1
      · exact ih _ _ h x hx
    · rename_i h1
      exact absurd h h1
theorem Lab.right_parts (ls : List Lab.L) (h : Lab.right ls = true) : ls.length ≤ 64 ∧ ∀ x ∈ ls, Lab.one x = 0 := by
  unfold Lab.right Lab.check at h
  split at h
  · simp at h
  · exact ⟨by omega, Lab.chk_one ls _ _ (by simpa using h)⟩
theorem Lab.right_calm (ls : List Lab.L) (h : Lab.right ls = true) : ∀ x ∈ ls, Lab.Calm x := fun x hx => Lab.one_calm x ((Lab.right_parts ls h).2 x hx)

/-- labels in order, with values, each right by itself, are right -/
theorem Lab.chk_strict (ls : List Lab.L) : ∀ (k : Nat) (p : Option Lab.L), (∀ x ∈ ls, Lab.one x = 0 ∧ Lab.bs x.v ≠ []) → Lab.Strict (p.toList ++ ls) → (Lab.chk k p ls).2 = 0 := by
  induction ls with
  | nil => intro k p _ _; rfl
  | cons y r ih =>
    intro k p h hs
    have hy := h y List.mem_cons_self
    have h0 : Lab.oneAt p y = 0 := by
      unfold Lab.oneAt
      rw [if_pos hy.1, if_neg hy.2]
      cases p with
      | none => rfl
      | some z =>
        unfold Lab.Strict at hs
        have hs2 : (z :: y :: r).Pairwise fun a b => Lab.bs a.n < Lab.bs b.n := hs
        rw [List.pairwise_cons] at hs2
        have hz := hs2.1 y List.mem_cons_self
        show (if Lab.bs y.n ≤ Lab.bs z.n then (42 : Int) else 0) = 0
        rw [if_neg (fun hle => hle hz)]
    unfold Lab.chk
    rw [if_pos h0]
    refine ih _ _ (fun x hx => h x (List.mem_cons_of_mem _ hx)) ?_
    unfold Lab.Strict at hs ⊢
    cases p with
    | none => exact hs
    | some z =>
      have hs2 : (z :: y :: r).Pairwise fun a b => Lab.bs a.n < Lab.bs b.n := hs
      rw [List.pairwise_cons] at hs2
      exact hs2.2
theorem Lab.right_of_strict (ls : List Lab.L) (hl : ls.length ≤ 64) (h : ∀ x ∈ ls, Lab.one x = 0 ∧ Lab.bs x.v ≠ []) (hs : Lab.Strict ls) : Lab.right ls = true := by
  unfold Lab.right Lab.check
  rw [if_neg (by omega), Lab.chk_strict ls 0 none h hs]
  rfl
theorem Lab.oneAll_one (ls : List Lab.L) (h : Lab.oneAll ls = 0) : ∀ x ∈ ls, Lab.one x = 0 := by
  induction ls with
  | nil => intro x hx; simp at hx
  | cons y r ih =>
    intro x hx
    unfold Lab.oneAll at h
    split at h
    · rename_i h1
      rw [List.mem_cons] at hx
      rcases hx with rfl | hx
      · exact h1
      · exact ih h x hx
    · rename_i h1
      exact absurd h h1
theorem Lab.oneAll_of (ls : List Lab.L) (h : ∀ x ∈ ls, Lab.one x = 0) : Lab.oneAll ls = 0 := by
  induction ls with
  | nil => rfl
  | cons y r ih =>
    unfold Lab.oneAll
    rw [if_pos (h y List.mem_cons_self)]
    exact ih fun x hx => h x (List.mem_cons_of_mem _ hx)
theorem Lab.full_mem (ls : List Lab.L) (x : Lab.L) : x ∈ Lab.full ls ↔ x ∈ ls ∧ Lab.bs x.v ≠ [] := by
  unfold Lab.full
  rw [List.mem_filter]
  simp
theorem Lab.of_right (ls r : List Lab.L) (h : Lab.of ls = (r, 0)) : Lab.right r = true ∧ ∀ x, x ∈ r ↔ x ∈ ls ∧ Lab.bs x.v ≠ [] := by
  unfold Lab.of at h
  split at h
  · rename_i h1
    split at h
    · rename_i h2
      split at h
      · simp at h
      · rename_i h3
        simp only [Prod.mk.injEq, and_true] at h
        have hm : ∀ x, x ∈ r ↔ x ∈ ls ∧ Lab.bs x.v ≠ [] := fun x => by
          rw [← h, Lab.full_mem, (Lab.srt_perm ls).mem_iff]
        refine ⟨Lab.right_of_strict r (by rw [← h]; omega) (fun x hx => ⟨Lab.oneAll_one ls h1 x ((hm x).1 hx).1, ((hm x).1 hx).2⟩) ?_, hm⟩
        rw [← h]
        have hs := Lab.strict_of_asc (Lab.srt_asc ls) (((Lab.names_perm (Lab.srt_perm ls)).nodup_iff).2 h2)
        exact List.Pairwise.sublist (List.filter_sublist) hs
    · simp at h
  · rename_i h1
    simp only [Prod.mk.injEq] at h
    exact absurd h.2 h1

/-- a byte that stands nowhere in front -/
theorem Can.split_plain (x : List UInt8) (hx : ∀ c ∈ x, c ≠ 255) : ∀ (cur r : List UInt8), Can.split cur (x ++ 255 :: r) = (cur ++ x) :: Can.split [] r := by
  induction x with
  | nil => intro cur r; show (if (255 : UInt8) = 255 then cur :: Can.split [] r else _) = _; rw [if_pos rfl, List.append_nil]
  | cons a x ih =>
    intro cur r
    have ha : a ≠ 255 := hx a List.mem_cons_self
    show (if a = 255 then _ else Can.split (cur ++ [a]) (x ++ 255 :: r)) = _
    rw [if_neg ha, ih (fun c hc => hx c (List.mem_cons_of_mem _ hc)), List.append_assoc]
    rfl
def Can.parts (ls : List Lab.L) : List (List UInt8) := ls.flatMap fun x => [Lab.bs x.n, Lab.bs x.v]
theorem Can.ne255 {c : UInt8} (h : c < 245) : c ≠ 255 := fun e => by subst e; exact absurd h (by decide)
theorem Can.ne254 {c : UInt8} (h : c < 245) : c ≠ 254 := fun e => by subst e; exact absurd h (by decide)
theorem Can.raw_cons (x : Lab.L) (ls : List Lab.L) : Can.raw (x :: ls) = Lab.bs x.n ++ 255 :: (Lab.bs x.v ++ 255 :: Can.raw ls) := by
  simp [Can.raw]
theorem Can.split_raw (ls : List Lab.L) (h : ∀ x ∈ ls, Lab.Calm x) : Can.split [] (Can.raw ls) = Can.parts ls ++ [[]] := by
  induction ls with
  | nil => rfl
  | cons x r ih =>
    have hx := h x List.mem_cons_self
    rw [Can.raw_cons, Can.split_plain _ (fun c hc => Can.ne255 (hx.1 c hc)), Can.split_plain _ (fun c hc => Can.ne255 (hx.2 c hc)), ih fun y hy => h y (List.mem_cons_of_mem _ hy)]
    simp [Can.parts]
theorem Can.parts_length (ls : List Lab.L) : (Can.parts ls).length = ls.length * 2 := by
  unfold Can.parts
  induction ls with
  | nil => rfl
  | cons x r ih => simp only [List.flatMap_cons, List.length_append, ih, List.length_cons, List.length_nil]; omega
theorem Can.mk_bs (s : ByteArray) : Can.mk (Lab.bs s) = s := by
  unfold Can.mk Lab.bs
  rfl
theorem Can.bs_mk (l : List UInt8) : Lab.bs (Can.mk l) = l := rfl
theorem Can.pairs_parts (ls : List Lab.L) (e : List (List UInt8)) (he : e.length ≤ 1) : Can.pairs (Can.parts ls ++ e) = ls := by
  induction ls with
  | nil =>
    match e, he with
    | [], _ => rfl
    | [_], _ => rfl
  | cons x r ih =>
    have : Can.parts (x :: r) ++ e = Lab.bs x.n :: Lab.bs x.v :: (Can.parts r ++ e) := by simp [Can.parts]
    rw [this]
    show (⟨Can.mk (Lab.bs x.n), Can.mk (Lab.bs x.v)⟩ : Lab.L) :: Can.pairs (Can.parts r ++ e) = _
    rw [Can.mk_bs, Can.mk_bs, ih]
/-- what is written is read back -/
theorem Can.read_raw (ls : List Lab.L) (h : Lab.right ls = true) : Can.read (Can.raw ls) = (ls, 0) := by
  unfold Can.read
  rw [Can.split_raw ls (Lab.right_calm ls h)]
  have hl := (Lab.right_parts ls h).1
  have h1 : ¬ ((Can.parts ls ++ [[]]).length % 2 = 0 ∨ (Can.parts ls ++ [[]]).getLast? ≠ some [] ∨ 129 < (Can.parts ls ++ [[]]).length) := by
    rw [List.length_append, Can.parts_length]
    simp only [List.length_cons, List.length_nil, List.getLast?_append, List.getLast?_singleton]
    simp
    omega
  simp only []
  rw [if_neg h1, Can.pairs_parts ls [[]] (by simp), if_pos h]
theorem Can.raw_inj (a b : List Lab.L) (ha : Lab.right a = true) (hb : Lab.right b = true) (h : Can.raw a = Can.raw b) : a = b := by
  have := Can.read_raw a ha
  rw [h, Can.read_raw b hb] at this
  exact (Prod.mk.inj this).1.symm

theorem Can.split_join (l : List UInt8) : ∀ cur, (Can.split cur l).flatMap (fun x => x ++ [255]) = cur ++ l ++ [255] := by
  induction l with
  | nil => intro cur; simp [Can.split]
  | cons a l ih =>
    intro cur
    unfold Can.split
    split
    · rename_i h
      subst h
      rw [List.flatMap_cons, ih]
      simp
    · rw [ih]
      simp
theorem Can.raw_pairs : ∀ (all : List (List UInt8)), all.length % 2 = 1 → all.getLast? = some [] → Can.raw (Can.pairs all) ++ [255] = all.flatMap (fun x => x ++ [255])
  | a :: b :: r, h, he => by
    have hr : r.length % 2 = 1 := by simp only [List.length_cons] at h; omega
    have hne : r ≠ [] := fun e => by subst e; simp at hr
    have he2 : r.getLast? = some [] := by
      rw [← he]
      cases r with
      | nil => exact absurd rfl hne
      | cons c r => simp
    have ih := Can.raw_pairs r hr he2
    show Can.raw (⟨Can.mk a, Can.mk b⟩ :: Can.pairs r) ++ [255] = _
    rw [Can.raw_cons, List.flatMap_cons, List.flatMap_cons, ← ih, Can.bs_mk, Can.bs_mk]
    simp
  | [], h, _ => by simp at h
  | [a], _, he => by
    simp at he
    subst he
    rfl
/-- what is read is written as it was -/
theorem Can.read_back (l : List UInt8) (ls : List Lab.L) (h : Can.read l = (ls, 0)) : Lab.right ls = true ∧ Can.raw ls = l := by
  unfold Can.read at h
  simp only [] at h
  split at h
  · simp at h
  · rename_i h1
    simp only [not_or] at h1
    split at h
    · rename_i h2
      simp only [Prod.mk.injEq, and_true] at h
      subst h
      refine ⟨h2, ?_⟩
      have e := Can.raw_pairs (Can.split [] l) (by omega) (by simpa using h1.2.1)
      rw [Can.split_join] at e
      simpa using e
    · simp at h
theorem Can.raw_no254 (ls : List Lab.L) (h : ∀ x ∈ ls, Lab.Calm x) : ∀ c ∈ Can.raw ls, c ≠ 254 := by
  intro c hc
  simp only [Can.raw, List.mem_flatMap, List.mem_append, List.mem_singleton] at hc
  obtain ⟨x, hx, hc⟩ := hc
  have := h x hx
  rcases hc with (hc | rfl) | (hc | rfl)
  · exact Can.ne254 (this.1 c hc)
  · decide
  · exact Can.ne254 (this.2 c hc)
  · decide
theorem Can.read_nil (l : List UInt8) (h : (Can.read l).2 = 50) : (Can.read l).1 = [] := by
  unfold Can.read at h ⊢
  simp only [] at h ⊢
  split
  · rfl
  · rename_i h1
    rw [if_neg h1] at h
    split
    · rename_i h2
      rw [if_pos h2] at h
      simp at h
    · rfl
/-- what has a byte 254 is read as no labels -/
theorem Can.read_254 (l : List UInt8) (h : 254 ∈ l) : Can.read l = ([], 50) := by
  rcases hq : Can.read l with ⟨ls, e⟩
  have h2 := Can.read_err l
  rw [hq] at h2
  have h3 : e = 0 ∨ e = 50 := h2
  rcases h3 with rfl | rfl
  · have := Can.read_back l ls hq
    exact absurd rfl (Can.raw_no254 ls (Lab.right_calm ls this.1) 254 (by rw [this.2]; exact h))
  · have := Can.read_nil l
    rw [hq] at this
    have h4 : ls = [] := this rfl
    rw [h4]

theorem Can.bytes_right (ls : List Lab.L) (h : Lab.right ls = true) : Can.bytes ls = (Can.raw ls, 0) := if_pos h
theorem Can.key_right (job : List UInt8) (ls : List Lab.L) (hj : Can.job job = true) (h : Lab.right ls = true) : Can.key job ls = (job ++ [254] ++ Can.raw ls, 0) := by
  unfold Can.key
  rw [if_pos hj, Can.bytes_right ls h, if_pos rfl]
theorem Can.job_no254 (l : List UInt8) (h : Can.job l = true) : ∀ c ∈ l, c ≠ 254 := by
  unfold Can.job at h
  simp only [Bool.and_eq_true] at h
  exact fun c hc => Can.ne254 (Utf.valid_lt _ l (Nat.le_refl _) h.2 c hc)
theorem Can.readKeyL_first (s : ByteArray) (post : List UInt8) : ∀ (pre : List UInt8) (k : Nat), (∀ c ∈ pre, c ≠ 254) → Can.readKeyL s k (pre ++ 254 :: post) = Can.keyAt s (k + pre.length)
  | [], k, _ => by
    show (if (254 : UInt8) = 254 then Can.keyAt s k else _) = _
    rw [if_pos rfl]; rfl
  | a :: pre, k, h => by
    show (if a = 254 then _ else Can.readKeyL s (k + 1) (pre ++ 254 :: post)) = _
    rw [if_neg (h a List.mem_cons_self), Can.readKeyL_first s post pre (k + 1) fun c hc => h c (List.mem_cons_of_mem _ hc)]
    congr 1
    simp only [List.length_cons]
    omega
/-- a key that is written is read back -/
theorem Can.readKey_key (j : ByteArray) (ls : List Lab.L) (hj : Can.job (Lab.bs j) = true) (h : Lab.right ls = true) (s : ByteArray) (hs : Lab.bs s = Lab.bs j ++ [254] ++ Can.raw ls) : Can.readKey s = (j, ls, 0) := by
  unfold Can.readKey
  have hs2 : s.data.toList = Lab.bs j ++ 254 :: Can.raw ls := by
    show Lab.bs s = _
    rw [hs]; simp
  rw [hs2, Can.readKeyL_first s _ _ 0 (Can.job_no254 _ hj)]
  unfold Can.keyAt
  rw [hs2]
  have e1 : (Lab.bs j ++ 254 :: Can.raw ls).take (0 + (Lab.bs j).length) = Lab.bs j := by simp
  have e2 : (Lab.bs j ++ 254 :: Can.raw ls).drop (0 + (Lab.bs j).length + 1) = Can.raw ls := by
    rw [Nat.zero_add, ← List.drop_drop, List.drop_left]
    rfl
  rw [e1, e2, Can.read_raw ls h, if_pos ⟨hj, rfl⟩]
  rfl
theorem Can.readKeyL_back (s : ByteArray) (j : ByteArray) (ls : List Lab.L) : ∀ (l pre : List UInt8), Lab.bs s = pre ++ l → Can.readKeyL s pre.length l = (j, ls, 0) → Can.job (Lab.bs j) = true ∧ Lab.right ls = true ∧ Lab.bs s = Lab.bs j ++ [254] ++ Can.raw ls
  | [], pre, _, h => by
    have h2 : Can.badKey = (j, ls, 0) := h
    unfold Can.badKey at h2
    simp at h2
  | c :: l, pre, hs, h => by
    have h2 : (if c = 254 then Can.keyAt s pre.length else Can.readKeyL s (pre.length + 1) l) = (j, ls, 0) := h
    split at h2
    · rename_i hc
      subst hc
      unfold Can.keyAt at h2
      have hs2 : s.data.toList = pre ++ 254 :: l := hs
      have e1 : (pre ++ 254 :: l).take pre.length = pre := by simp
      have e2 : (pre ++ 254 :: l).drop (pre.length + 1) = l := by
        rw [← List.drop_drop, List.drop_left]
        rfl
      rw [hs2, e1, e2] at h2
      split at h2
      · rename_i h3
        simp only [Prod.mk.injEq, and_true] at h2
        obtain ⟨hj, hl⟩ := h2
        have hj2 : Lab.bs j = pre := by rw [← hj]; rfl
        have hq : Can.read l = (ls, 0) := by rw [← hl, ← h3.2]
        have := Can.read_back l ls hq
        refine ⟨by rw [hj2]; exact h3.1, this.1, ?_⟩
        rw [hj2, this.2, hs]
        simp
      · unfold Can.badKey at h2
        simp at h2
    · refine Can.readKeyL_back s j ls l (pre ++ [c]) (by rw [hs]; simp) ?_
      rw [List.length_append]
      exact h2
/-- a key that is read is written as it was -/
theorem Can.readKey_back (s j : ByteArray) (ls : List Lab.L) (h : Can.readKey s = (j, ls, 0)) : Can.job (Lab.bs j) = true ∧ Lab.right ls = true ∧ Lab.bs s = Lab.bs j ++ [254] ++ Can.raw ls :=
  Can.readKeyL_back s j ls (Lab.bs s) [] rfl h
theorem Can.keyAt_or (s : ByteArray) (k : Nat) : (Can.keyAt s k).2.2 = 0 ∨ Can.keyAt s k = Can.badKey := by
  unfold Can.keyAt
  split
  · exact .inl rfl
  · exact .inr rfl
theorem Can.readKeyL_or (s : ByteArray) (l : List UInt8) : ∀ k, (Can.readKeyL s k l).2.2 = 0 ∨ Can.readKeyL s k l = Can.badKey := by
  induction l with
  | nil => intro k; exact .inr rfl
  | cons c r ih =>
    intro k
    unfold Can.readKeyL
    split
    · exact Can.keyAt_or s k
    · exact ih _
theorem Can.readKey_or (s : ByteArray) : (Can.readKey s).2.2 = 0 ∨ Can.readKey s = Can.badKey := Can.readKeyL_or s _ 0
/-- no string is both -/
theorem Can.not_both (s : ByteArray) (h : (Can.readKey s).2.2 = 0) : Can.read (Lab.bs s) = ([], 50) := by
  rcases hq : Can.readKey s with ⟨j, ls, e⟩
  rw [hq] at h
  have h2 : e = 0 := h
  subst h2
  have := (Can.readKey_back s j ls hq).2.2
  refine Can.read_254 _ ?_
  rw [this]
  simp
theorem Can.key_inj (i j : ByteArray) (a b : List Lab.L) (hi : Can.job (Lab.bs i) = true) (hj : Can.job (Lab.bs j) = true) (ha : Lab.right a = true) (hb : Lab.right b = true) (h : Lab.bs i ++ [254] ++ Can.raw a = Lab.bs j ++ [254] ++ Can.raw b) : i = j ∧ a = b := by
  have h1 := Can.readKey_key i a hi ha (Can.mk (Lab.bs i ++ [254] ++ Can.raw a)) rfl
  have h2 := Can.readKey_key j b hj hb (Can.mk (Lab.bs i ++ [254] ++ Can.raw a)) (by rw [← h]; rfl)
  rw [h1] at h2
  simp only [Prod.mk.injEq, and_true] at h2
  exact h2
end Go.Proofs.Ytpnpgjjbincigaa
