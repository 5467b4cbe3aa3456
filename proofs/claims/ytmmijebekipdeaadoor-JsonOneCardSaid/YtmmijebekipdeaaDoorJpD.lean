/- Plain laws of chapter 14, four: valid UTF-8; a right value's text is valid; read of it. -/
import Derived.Test.YtmmijebekipdeaaDoorJpC
namespace Go.Proofs.YtmmijebekipdeaaDoor
set_option linter.unusedVariables false
set_option linter.unusedSimpArgs false

/-- how many bytes the code point has that begins a text -/
def Js.runeL (l : List UInt8) : Nat := Js.runeN (l.getD 0 0).toNat (l.getD 1 0).toNat (l.getD 2 0).toNat (l.getD 3 0).toNat
theorem Js.nx_drop (s : ByteArray) (k i : Nat) : Js.nx s (k + i) = ((s.data.toList.drop k).getD i 0).toNat := by
  rw [List.getD_eq_getElem?_getD, List.getElem?_drop]
  by_cases h : k + i < s.size
  · rw [Js.nx_get s _ h, List.getElem?_eq_getElem (by simpa using h)]
    rfl
  · rw [Js.nx_end s _ (by omega), List.getElem?_eq_none (by simp; omega)]
    rfl
theorem Js.rune_drop (s : ByteArray) (k : Nat) : Js.rune s k = Js.runeL (s.data.toList.drop k) := by
  rw [Js.rune_eq]
  unfold Js.runeL
  rw [← Js.nx_drop, ← Js.nx_drop, ← Js.nx_drop, ← Js.nx_drop]
  rfl
/-- valid UTF-8 -/
inductive Js.V8 : List UInt8 → Prop where
  | nil : Js.V8 []
  | step (l : List UInt8) : l ≠ [] → Js.runeL l ≠ 0 → Js.runeL l ≤ l.length → Js.V8 (l.drop (Js.runeL l)) → Js.V8 l
set_option maxHeartbeats 2000000 in
theorem Js.runeN_app (n p0 p1 p2 p3 q0 q1 q2 q3 : Nat) (h : 1 ≤ n) (e0 : q0 = p0) (e1 : 1 < n → q1 = p1) (e2 : 2 < n → q2 = p2) (e3 : 3 < n → q3 = p3) (z1 : n ≤ 1 → p1 = 0) (z2 : n ≤ 2 → p2 = 0) (z3 : n ≤ 3 → p3 = 0) (hr : Js.runeN p0 p1 p2 p3 ≠ 0) :
    Js.runeN q0 q1 q2 q3 = Js.runeN p0 p1 p2 p3 ∧ Js.runeN p0 p1 p2 p3 ≤ n := by
  subst e0
  unfold Js.runeN at hr ⊢
  by_cases h1 : q0 < 128
  · rw [if_pos h1, if_pos h1]; exact ⟨rfl, h⟩
  simp only [if_neg h1] at hr ⊢
  by_cases h2 : 194 ≤ q0 ∧ q0 ≤ 223
  · simp only [if_pos h2] at hr ⊢
    (repeat' split at hr) <;> (repeat' split) <;> omega
  simp only [if_neg h2] at hr ⊢
  by_cases h3 : 224 ≤ q0 ∧ q0 ≤ 239
  · simp only [if_pos h3] at hr ⊢
    (repeat' split at hr) <;> (repeat' split) <;> omega
  simp only [if_neg h3] at hr ⊢
  (repeat' split at hr) <;> (repeat' split) <;> omega
theorem Js.runeL_app (a b : List UInt8) (h0 : a ≠ []) (hr : Js.runeL a ≠ 0) : Js.runeL (a ++ b) = Js.runeL a ∧ Js.runeL a ≤ a.length := by
  have hl : 1 ≤ a.length := List.length_pos_iff.2 h0
  have e : ∀ i, i < a.length → ((a ++ b).getD i 0).toNat = (a.getD i 0).toNat := fun i hi => by
    rw [List.getD_eq_getElem?_getD, List.getD_eq_getElem?_getD, List.getElem?_append_left hi]
  have z : ∀ i, a.length ≤ i → (a.getD i 0).toNat = 0 := fun i hi => by
    rw [List.getD_eq_getElem?_getD, List.getElem?_eq_none hi]; rfl
  exact Js.runeN_app a.length _ _ _ _ _ _ _ _ hl (e 0 hl) (e 1) (e 2) (e 3) (z 1) (z 2) (z 3) hr
theorem Js.V8.app {a b : List UInt8} (ha : Js.V8 a) (hb : Js.V8 b) : Js.V8 (a ++ b) := by
  induction ha with
  | nil => exact hb
  | step l h0 h1 h2 h3 ih =>
    obtain ⟨e1, e2⟩ := Js.runeL_app l b h0 h1
    refine .step _ (by simp [h0]) (by rw [e1]; exact h1) (by rw [e1, List.length_append]; omega) ?_
    rw [e1, List.drop_append_of_le_length e2]
    exact ih
theorem Js.V8.one (c : UInt8) (h : c.toNat < 128) : Js.V8 [c] := by
  have e : Js.runeL [c] = 1 := by
    unfold Js.runeL Js.runeN
    simp only [List.getD_eq_getElem?_getD, List.getElem?_cons_zero, Option.getD_some]
    rw [if_pos h]
  exact .step _ (by simp) (by rw [e]; decide) (by rw [e]; simp) (by rw [e]; exact .nil)
theorem Js.V8.ascii : ∀ (l : List UInt8), (∀ c ∈ l, c.toNat < 128) → Js.V8 l
  | [], _ => .nil
  | c :: l, h => (Js.V8.one c (h c (by simp))).app (b := l) (Js.V8.ascii l fun x hx => h x (List.mem_cons_of_mem _ hx))
theorem Js.V8.cons {c : UInt8} {l : List UInt8} (h : c.toNat < 128) (hl : Js.V8 l) : Js.V8 (c :: l) := (Js.V8.one c h).app hl
theorem Js.V8.ws {l : List UInt8} (h : Js.Ws l) : Js.V8 l := Js.V8.ascii l fun c hc => by
  have := h c hc
  unfold Js.isSp at this
  simp only [Bool.or_eq_true, beq_iff_eq] at this
  omega
theorem Js.V8.head {l : List UInt8} (h : Js.V8 l) (h0 : l ≠ []) : Js.runeL l ≠ 0 ∧ Js.runeL l ≤ l.length ∧ Js.V8 (l.drop (Js.runeL l)) := by
  cases h with
  | nil => contradiction
  | step l _ h1 h2 h3 => exact ⟨h1, h2, h3⟩
theorem Js.badF_v8 (s : ByteArray) : ∀ n k, s.size ≤ n + k → (Js.badF s n k = none ↔ Js.V8 (s.data.toList.drop k))
  | 0, k, h => by
    rw [Js.badF, List.drop_eq_nil_of_le (by simp; omega)]
    exact ⟨fun _ => .nil, fun _ => rfl⟩
  | n + 1, k, h => by
    rw [Js.badF]
    by_cases hk : s.size ≤ k
    · rw [if_pos hk, List.drop_eq_nil_of_le (by simpa using hk)]
      exact ⟨fun _ => .nil, fun _ => rfl⟩
    · rw [if_neg hk, Js.rune_drop]
      have hne : s.data.toList.drop k ≠ [] := fun e => by have := congrArg List.length e; simp at this; omega
      by_cases hr : Js.runeL (s.data.toList.drop k) = 0
      · rw [if_pos hr]
        exact ⟨fun e => (by cases e), fun e => absurd hr (e.head hne).1⟩
      · rw [if_neg hr]
        have hle := (Js.runeL_app _ [] hne hr).2
        rw [Js.badF_v8 s n _ (by omega), show s.data.toList.drop (k + Js.runeL (s.data.toList.drop k)) = (s.data.toList.drop k).drop (Js.runeL (s.data.toList.drop k)) by rw [List.drop_drop]]
        exact ⟨fun e => .step _ hne hr hle e, fun e => (e.head hne).2.2⟩
theorem Js.bad8_v8 (s : ByteArray) : Js.bad8 s = none ↔ Js.V8 s.data.toList := by
  have := Js.badF_v8 s s.size 0 (by omega)
  rw [List.drop_zero] at this
  exact this

theorem Js.runeN_cases (p0 p1 p2 p3 : Nat) : Js.runeN p0 p1 p2 p3 = 0 ∨ (Js.runeN p0 p1 p2 p3 = 1 ∧ p0 < 128) ∨ (Js.runeN p0 p1 p2 p3 = 2 ∧ 128 ≤ p0 ∧ 128 ≤ p1) ∨ (Js.runeN p0 p1 p2 p3 = 3 ∧ 128 ≤ p0 ∧ 128 ≤ p1 ∧ 128 ≤ p2) ∨ (Js.runeN p0 p1 p2 p3 = 4 ∧ 128 ≤ p0 ∧ 128 ≤ p1 ∧ 128 ≤ p2 ∧ 128 ≤ p3) := by
  unfold Js.runeN
  (repeat' split) <;> omega
theorem Js.runeN_only (p0 p1 p2 p3 q0 q1 q2 q3 n : Nat) (hn : Js.runeN p0 p1 p2 p3 = n) (h0 : n ≠ 0) (e0 : 0 < n → q0 = p0) (e1 : 1 < n → q1 = p1) (e2 : 2 < n → q2 = p2) (e3 : 3 < n → q3 = p3) : Js.runeN q0 q1 q2 q3 = n := by
  have e := e0 (by omega)
  subst e
  unfold Js.runeN at hn ⊢
  by_cases h1 : q0 < 128
  · rw [if_pos h1] at hn ⊢; exact hn
  rw [if_neg h1] at hn ⊢
  by_cases h2 : 194 ≤ q0 ∧ q0 ≤ 223
  · rw [if_pos h2] at hn ⊢
    (repeat' split at hn) <;> (repeat' split) <;> omega
  rw [if_neg h2] at hn ⊢
  by_cases h3 : 224 ≤ q0 ∧ q0 ≤ 239
  · rw [if_pos h3] at hn ⊢
    (repeat' split at hn) <;> (repeat' split) <;> omega
  rw [if_neg h3] at hn ⊢
  (repeat' split at hn) <;> (repeat' split) <;> omega
/-- bytes of a code point, as they lie -/
theorem Js.V8.ind {P : List UInt8 → Prop} (hn : P []) (h1 : ∀ c l, c.toNat < 128 → Js.V8 l → P l → P (c :: l)) (h2 : ∀ a l, (∀ c ∈ a, 128 ≤ c.toNat) → Js.V8 a → Js.V8 l → P l → P (a ++ l)) : ∀ l, Js.V8 l → P l := by
  intro l h
  induction h with
  | nil => exact hn
  | step l h0 hr hle hv ih =>
    have hcs := Js.runeN_cases (l.getD 0 0).toNat (l.getD 1 0).toNat (l.getD 2 0).toNat (l.getD 3 0).toNat
    obtain ⟨n, hnn⟩ : ∃ n, Js.runeL l = n := ⟨_, rfl⟩
    rw [show Js.runeN (l.getD 0 0).toNat (l.getD 1 0).toNat (l.getD 2 0).toNat (l.getD 3 0).toNat = n from hnn] at hcs
    rw [hnn] at hr hle hv ih
    by_cases hc : n = 1
    · subst hc
      cases l with
      | nil => contradiction
      | cons c l =>
        rw [List.drop_succ_cons, List.drop_zero] at hv ih
        refine h1 c l ?_ hv ih
        rcases hcs with h | ⟨_, h⟩ | ⟨h, _⟩ | ⟨h, _⟩ | ⟨h, _⟩
        · omega
        · exact h
        · omega
        · omega
        · omega
    · have hb : ∀ i, i < n → 128 ≤ (l.getD i 0).toNat := by
        intro i hi
        match i, hi with
        | 0, _ => omega
        | 1, _ => omega
        | 2, _ => omega
        | 3, _ => omega
        | i + 4, h => omega
      rw [← List.take_append_drop n l]
      refine h2 _ _ ?_ ?_ hv ih
      · intro c hcm
        obtain ⟨i, hi, rfl⟩ := List.getElem_of_mem hcm
        rw [List.length_take] at hi
        have := hb i (by omega)
        rw [List.getD_eq_getElem?_getD, List.getElem?_eq_getElem (by omega)] at this
        rw [List.getElem_take]
        exact this
      · have hlt : (l.take n).length = n := by rw [List.length_take]; omega
        have hne : l.take n ≠ [] := fun e => by rw [e] at hlt; simp at hlt; omega
        have hrt : Js.runeL (l.take n) = n := by
          have hg : ∀ i, i < n → ((l.take n).getD i 0).toNat = (l.getD i 0).toNat := fun i hi => by
            rw [List.getD_eq_getElem?_getD, List.getD_eq_getElem?_getD, List.getElem?_take_of_lt hi]
          exact Js.runeN_only _ _ _ _ _ _ _ _ n hnn hr (hg 0) (hg 1) (hg 2) (hg 3)
        refine .step _ hne (by rw [hrt]; exact hr) (by rw [hrt, hlt]; exact Nat.le_refl _) ?_
        rw [hrt, List.drop_eq_nil_of_le (by rw [hlt]; exact Nat.le_refl _)]
        exact .nil

theorem Js.V8.qc (c : UInt8) (h : c.toNat < 128) : Js.V8 (Js.qc c) := by
  refine Js.V8.ascii _ fun x hx => ?_
  have hlt := UInt8.toNat_lt c
  unfold Js.qc at hx
  (repeat' split at hx) <;> simp only [List.mem_cons, List.mem_nil_iff, or_false] at hx
  · rcases hx with rfl | rfl
    · decide
    · exact h
  · subst hx; exact h
  all_goals try (rcases hx with rfl | rfl <;> decide)
  all_goals
    rcases hx with rfl | rfl | rfl | rfl | rfl | rfl
    · decide
    · decide
    · decide
    · decide
    · rw [UInt8.toNat_ofNat', Nat.mod_eq_of_lt (by omega)]; omega
    · rw [UInt8.toNat_ofNat', Nat.mod_eq_of_lt (by omega)]; omega
theorem Js.V8.flat (l : List UInt8) (h : Js.V8 l) : Js.V8 (l.flatMap Js.qc) := by
  refine Js.V8.ind (P := fun l => Js.V8 (l.flatMap Js.qc)) .nil ?_ ?_ l h
  · intro c l hc _ ih
    rw [List.flatMap_cons]
    exact (Js.V8.qc c hc).app ih
  · intro a l ha hva _ ih
    rw [List.flatMap_append]
    have e : ∀ a : List UInt8, (∀ c ∈ a, 128 ≤ c.toNat) → a.flatMap Js.qc = a := by
      intro a
      induction a with
      | nil => intro _; rfl
      | cons c r ih2 => intro hh; rw [List.flatMap_cons, Js.qc_high c (hh c (by simp)), ih2 fun x hx => hh x (List.mem_cons_of_mem _ hx)]; rfl
    rw [e a ha]
    exact hva.app ih
theorem Js.V8.quo (l : List UInt8) (h : Js.V8 l) : Js.V8 (Js.quo l) := by
  unfold Js.quo
  exact .cons (by decide) ((Js.V8.flat l h).app (Js.V8.one 34 (by decide)))

/-- a number's bytes -/
theorem Js.dg_bytes (t : ByteArray) : ∀ n k, t.size - k ≤ n → ∀ j, k ≤ j → j < Js.dg t k → Js.spec (Js.nx t j) = true
  | 0, k, h, j, h1, h2 => by
    rw [Js.dg_stop t k (by rw [Js.nx_end t k (by omega)]; rfl)] at h2
    omega
  | n + 1, k, h, j, h1, h2 => by
    by_cases hd : Js.isDg (Js.nx t k) = true
    · by_cases he : j = k
      · subst he; unfold Js.spec; rw [hd]; rfl
      · rw [Js.dg_step t k hd] at h2
        exact Js.dg_bytes t n (k + 1) (by omega) j (by omega) h2
    · rw [Js.dg_stop t k (by simpa using hd)] at h2
      omega
theorem Js.numX_bytes (t : ByteArray) (a : Nat) (h : (Js.numX t a).2 = true) : ∀ j, a ≤ j → j < (Js.numX t a).1 → Js.spec (Js.nx t j) = true := by
  unfold Js.numX at h ⊢
  by_cases hx : Js.nx t a = 101 ∨ Js.nx t a = 69
  · rw [if_pos hx] at h ⊢
    dsimp only at h ⊢
    intro j h1 h2
    by_cases he : j = a
    · subst he; rcases hx with hx | hx <;> rw [hx] <;> rfl
    · by_cases hy : Js.nx t (a + 1) = 43 ∨ Js.nx t (a + 1) = 45
      · rw [if_pos hy] at h2
        by_cases he2 : j = a + 1
        · subst he2; rcases hy with hy | hy <;> rw [hy] <;> rfl
        · exact Js.dg_bytes t _ _ (Nat.le_refl _) j (by omega) h2
      · rw [if_neg hy] at h2
        exact Js.dg_bytes t _ _ (Nat.le_refl _) j (by omega) h2
  · rw [if_neg hx]
    intro j h1 h2
    dsimp only at h2
    omega
theorem Js.numF_bytes (t : ByteArray) (a : Nat) (h : (Js.numF t a).2 = true) : ∀ j, a ≤ j → j < (Js.numF t a).1 → Js.spec (Js.nx t j) = true := by
  unfold Js.numF at h ⊢
  by_cases hx : Js.nx t a = 46
  · rw [if_pos hx] at h ⊢
    by_cases hz : Js.dg t (a + 1) = a + 1
    · rw [if_pos hz] at h; cases h
    · rw [if_neg hz] at h ⊢
      intro j h1 h2
      by_cases he : j = a
      · subst he; rw [hx]; rfl
      · by_cases h3 : j < Js.dg t (a + 1)
        · exact Js.dg_bytes t _ _ (Nat.le_refl _) j (by omega) h3
        · exact Js.numX_bytes t _ h j (by omega) h2
  · rw [if_neg hx] at h ⊢
    exact Js.numX_bytes t a h
theorem Js.num_bytes (t : ByteArray) (k : Nat) (h : (Js.num t k).2 = true) : ∀ j, k ≤ j → j < (Js.num t k).1 → Js.spec (Js.nx t j) = true := by
  unfold Js.num at h ⊢
  obtain ⟨a, ha⟩ : ∃ a, a = (if Js.nx t k = 45 then k + 1 else k) := ⟨_, rfl⟩
  have h45 : ∀ j, k ≤ j → j < a → Js.spec (Js.nx t j) = true := by
    intro j h1 h2
    by_cases hx : Js.nx t k = 45
    · rw [if_pos hx] at ha
      obtain rfl : j = k := by omega
      rw [hx]; rfl
    · rw [if_neg hx] at ha; omega
  dsimp only at h ⊢
  rw [← ha] at h ⊢
  intro j h1 h2
  by_cases hja : j < a
  · exact h45 j h1 hja
  by_cases hx : Js.nx t a = 48
  · rw [if_pos hx] at h h2
    by_cases he : j = a
    · subst he; rw [hx]; rfl
    · exact Js.numF_bytes t _ h j (by omega) h2
  · rw [if_neg hx] at h h2
    by_cases hz : Js.dg t a = a
    · rw [if_pos hz] at h; cases h
    · rw [if_neg hz] at h h2
      by_cases h3 : j < Js.dg t a
      · exact Js.dg_bytes t _ _ (Nat.le_refl _) j (by omega) h3
      · exact Js.numF_bytes t _ h j (by omega) h2
theorem Js.V8.num (t : ByteArray) (h : Js.isNum t = true) : Js.V8 t.data.toList := by
  unfold Js.isNum at h
  rw [Bool.and_eq_true, Bool.and_eq_true, beq_iff_eq] at h
  refine Js.V8.ascii _ fun c hc => ?_
  obtain ⟨i, hi, rfl⟩ := List.getElem_of_mem hc
  have hi2 : i < t.size := by simpa using hi
  have hs := Js.num_bytes t 0 h.1.1 i (Nat.zero_le _) (by rw [h.1.2]; exact hi2)
  rw [Js.nx_get t i hi2] at hs
  have : (t.data.toList[i]).toNat = t[i].toNat := rfl
  rw [this]
  unfold Js.spec Js.isDg at hs
  simp only [Bool.or_eq_true, Bool.and_eq_true, decide_eq_true_eq, beq_iff_eq] at hs
  omega
/-- a right value's text is valid UTF-8 -/
theorem Js.wrS_v8 (g : Nat → List UInt8) (hg : ∀ i, Js.Ws (g i)) : ∀ (N : Nat) (v : Js.V), Js.cnt v ≤ N → Js.fit v = true → ∀ i, Js.V8 (Js.wrS g i v) := by
  intro N
  induction N with
  | zero => intro v hv; obtain ⟨k, t, ns, xs⟩ := v; unfold Js.cnt at hv; omega
  | succ N ih =>
    intro v hv hf i
    obtain ⟨k, t, ns, xs⟩ := v
    rw [Js.cnt] at hv
    rw [Js.fit] at hf
    rw [Js.wrS]
    have list : ∀ (obj : Bool) (hn : obj = true → Js.okNs [] ns = true) (r : List Js.V), (∀ x ∈ r, Js.fit x = true ∧ Js.cnt x ≤ N) → ∀ j i, j + r.length ≤ (if obj then ns.length else j + r.length) → Js.V8 (Js.wrSE g obj ns j i r) := by
      intro obj hn r
      induction r with
      | nil => intro _ j i _; rw [Js.wrSE]; exact .nil
      | cons x r ih2 =>
        intro hx j i hj
        rw [Js.wrSE]
        have hnm : Js.V8 (Js.nmT g obj ns j i) := by
          unfold Js.nmT
          cases obj with
          | false => exact .nil
          | true =>
            rw [if_pos rfl] at hj ⊢
            rw [List.length_cons] at hj
            have hjn : j < ns.length := by omega
            have h8 := Js.okNs_get ns [] j hjn (hn rfl)
            rw [List.getD_eq_getElem?_getD, List.getElem?_eq_getElem hjn]
            exact (Js.V8.quo _ ((Js.bad8_v8 _).1 h8)).app (.cons (by decide) (Js.V8.ws (hg _)))
        refine hnm.app ((ih x (hx x (by simp)).2 (hx x (by simp)).1 _).app (Js.V8.app ?_ ?_))
        · unfold Js.trail
          split
          · exact Js.V8.ws (hg _)
          · exact .nil
        · split
          · exact .nil
          · refine .cons (by decide) ((Js.V8.ws (hg _)).app (ih2 (fun y hy => hx y (List.mem_cons_of_mem _ hy)) _ _ ?_))
            cases obj with
            | false => simp
            | true => rw [if_pos rfl] at hj ⊢; rw [List.length_cons] at hj; omega
    have mem : Js.fitL xs = true → ∀ x ∈ xs, Js.fit x = true ∧ Js.cnt x ≤ N := by
      intro hfl x hx
      obtain ⟨n, hn, rfl⟩ := List.getElem_of_mem hx
      have := Js.cntL_part xs n hn
      exact ⟨Js.fitL_get xs n hn hfl, by omega⟩
    split
    · exact Js.V8.ascii _ (by decide)
    split
    · exact Js.V8.ascii _ (by decide)
    split
    · exact Js.V8.ascii _ (by decide)
    next h1 h2 h3 =>
    rw [if_neg (by omega)] at hf
    split
    · next h4 =>
      rw [if_pos h4, Bool.and_eq_true, Bool.and_eq_true] at hf
      exact Js.V8.num t hf.1.1
    next h4 =>
    rw [if_neg h4] at hf
    split
    · next h5 =>
      rw [if_pos h5, Bool.and_eq_true, Bool.and_eq_true] at hf
      exact Js.V8.quo _ ((Js.bad8_v8 t).1 (Option.isNone_iff_eq_none.1 hf.1.1))
    next h5 =>
    rw [if_neg h5] at hf
    split
    · next h7 =>
      rw [if_neg (by omega), if_pos h7, Bool.and_eq_true, Bool.and_eq_true, Bool.and_eq_true, beq_iff_eq, beq_iff_eq] at hf
      exact .cons (by decide) ((Js.V8.ws (hg _)).app ((list true (fun _ => hf.1.2) xs (mem hf.2) 0 _ (by rw [if_pos rfl, hf.1.1.2]; omega)).app (Js.V8.one _ (by decide))))
    · next h7 =>
      have hfl : Js.fitL xs = true := by
        by_cases h6 : k = 6
        · rw [if_pos h6, Bool.and_eq_true] at hf; exact hf.2
        · rw [if_neg h6, if_neg h7] at hf; cases hf
      exact .cons (by decide) ((Js.V8.ws (hg _)).app ((list false (fun e => by cases e) xs (mem hfl) 0 _ (by simp)).app (Js.V8.one _ (by decide))))
/-- THE TEXT OF A RIGHT VALUE IS READ AS THIS VALUE, also with white space ahead, within, behind -/
theorem Js.read_wrS (g : Nat → List UInt8) (hg : ∀ i, Js.Ws (g i)) (v : Js.V) (hf : Js.fit v = true) (hd : Js.dep v ≤ 16) (hc : Js.cnt v ≤ 4096) (ws ws2 : List UInt8) (h1 : Js.Ws ws) (h2 : Js.Ws ws2) (hl : (ws ++ (Js.wrS g 0 v ++ ws2)).length ≤ 65536) :
    Js.read ⟨(ws ++ (Js.wrS g 0 v ++ ws2)).toArray⟩ = .ok v := by
  obtain ⟨s, hs⟩ : ∃ s : ByteArray, s = ⟨(ws ++ (Js.wrS g 0 v ++ ws2)).toArray⟩ := ⟨_, rfl⟩
  have hsl : s.data.toList = ws ++ (Js.wrS g 0 v ++ ws2) := by rw [hs]
  have hsz : s.size = (ws ++ (Js.wrS g 0 v ++ ws2)).length := by rw [← hsl]; simp
  rw [← hs]
  unfold Js.read
  rw [if_neg (by omega), (Js.bad8_v8 s).2 (by rw [hsl]; exact (Js.V8.ws h1).app ((Js.wrS_v8 g hg _ v (Nat.le_refl _) hf 0).app (Js.V8.ws h2)))]
  dsimp only
  have hT : Js.Tl s 0 (ws ++ (Js.wrS g 0 v ++ ws2)) := by unfold Js.Tl; rw [List.drop_zero]; exact hsl
  have hfo : Js.Fo ws2 := by
    have := Js.Fo.ws (r := []) h2 (fun c r e => by cases e)
    rw [List.append_nil] at this
    exact this
  rw [Js.val_wr s g hg _ v (Nat.le_refl _) hf 16 0 0 0 ws ws2 hd h1 hT hfo (by omega)]
  dsimp only
  have hT2 := hT.skip.skip
  have hT3 : Js.Tl s (0 + ws.length + (Js.wrS g 0 v).length) (ws2 ++ []) := by rw [List.append_nil]; exact hT2
  have hsp := hT3.sp h2 (fun c r e => by cases e)
  have h9 : s.size ≤ 0 + ws.length + (Js.wrS g 0 v).length + ws2.length := by have := hT2.le; omega
  rw [hsp, if_neg (by omega)]
theorem Js.read_wr (v : Js.V) (hf : Js.fit v = true) (hd : Js.dep v ≤ 16) (hc : Js.cnt v ≤ 4096) (hl : (Js.wr v).length ≤ 65536) : Js.read ⟨(Js.wr v).toArray⟩ = .ok v := by
  have h := Js.read_wrS Js.no (fun _ c hc => by cases hc) v hf hd hc [] [] (fun c hc => by cases hc) (fun c hc => by cases hc) (by rw [Js.wrS_no]; simpa using hl)
  rw [Js.wrS_no] at h
  simpa using h
end Go.Proofs.YtmmijebekipdeaaDoor
