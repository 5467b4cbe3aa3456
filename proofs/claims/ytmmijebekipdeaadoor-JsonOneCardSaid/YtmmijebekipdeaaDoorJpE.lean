/- Plain laws of chapter 14, five: what is read is a right value, with a text that is not longer. -/
import Derived.Test.YtmmijebekipdeaaDoorJpD
import Derived.Test.YtmmijebekipdeaaDoorRjA
namespace Go.Proofs.YtmmijebekipdeaaDoor
set_option linter.unusedVariables false
set_option linter.unusedSimpArgs false

/-- the text from k on is valid -/
def Js.B8 (s : ByteArray) (k : Nat) : Prop := Js.V8 (s.data.toList.drop k)
theorem Js.B8.next {s : ByteArray} {k : Nat} (h : Js.B8 s k) (hk : k < s.size) (hc : Js.nx s k < 128) : Js.B8 s (k + 1) := by
  unfold Js.B8 at h ⊢
  have hd := Js.drop_cons s k hk
  rw [hd] at h
  have hne : (UInt8.ofNat (Js.nx s k) :: s.data.toList.drop (k + 1)) ≠ [] := by simp
  have h1 := (h.head hne).2.2
  have e : Js.runeL (UInt8.ofNat (Js.nx s k) :: s.data.toList.drop (k + 1)) = 1 := by
    unfold Js.runeL Js.runeN
    simp only [List.getD_cons_zero]
    rw [UInt8.toNat_ofNat', Nat.mod_eq_of_lt (Js.nx_lt s k), if_pos hc]
  rw [e] at h1
  exact h1
theorem Js.B8.skip {s : ByteArray} : ∀ (n k : Nat), Js.B8 s k → k + n ≤ s.size → (∀ i, k ≤ i → i < k + n → Js.nx s i < 128) → Js.B8 s (k + n)
  | 0, k, h, _, _ => h
  | n + 1, k, h, hs, ha => by
    have h1 := h.next (by omega) (ha k (Nat.le_refl _) (by omega))
    have := Js.B8.skip n (k + 1) h1 (by omega) (fun i h2 h3 => ha i (by omega) (by omega))
    rw [show k + 1 + n = k + (n + 1) by omega] at this
    exact this
theorem Js.B8.to {s : ByteArray} {k j : Nat} (h : Js.B8 s k) (hkj : k ≤ j) (hj : j ≤ s.size) (ha : ∀ i, k ≤ i → i < j → Js.nx s i < 128) : Js.B8 s j := by
  have := Js.B8.skip (j - k) k h (by omega) (fun i h1 h2 => ha i h1 (by omega))
  rw [show k + (j - k) = j by omega] at this
  exact this
theorem Js.sp_ascii (s : ByteArray) : ∀ n k, s.size - k ≤ n → ∀ i, k ≤ i → i < Js.sp s k → Js.nx s i < 128
  | 0, k, h, i, h1, h2 => by rw [Js.sp_stop s k (by rw [Js.nx_end s k (by omega)]; rfl)] at h2; omega
  | n + 1, k, h, i, h1, h2 => by
    by_cases hd : Js.isSp (Js.nx s k) = true
    · by_cases he : i = k
      · subst he
        unfold Js.isSp at hd
        simp only [Bool.or_eq_true, beq_iff_eq] at hd
        omega
      · rw [Js.sp_step s k hd] at h2
        exact Js.sp_ascii s n (k + 1) (by omega) i (by omega) h2
    · rw [Js.sp_stop s k (by simpa using hd)] at h2; omega
theorem Js.B8.sp {s : ByteArray} {k : Nat} (h : Js.B8 s k) (hk : k ≤ s.size) : Js.B8 s (Js.sp s k) := h.to (Js.sp_ge s k) (Js.sp_le s k hk) (Js.sp_ascii s _ k (Nat.le_refl _))
theorem Js.wd_ascii (s : ByteArray) : ∀ (l : List Nat) (k j : Nat), (∀ c ∈ l, c < 128 ∧ c ≠ 0) → k ≤ s.size → Js.wd s l k = .ok j → j = k + l.length ∧ j ≤ s.size ∧ ∀ i, k ≤ i → i < j → Js.nx s i < 128
  | [], k, j, _, hk, h => by cases h; exact ⟨rfl, hk, fun i h1 h2 => by omega⟩
  | c :: l, k, j, hl, hk, h => by
    rw [Js.wd] at h
    split at h
    · next hc =>
      have hlt : k < s.size := Nat.lt_of_not_le fun hh => by rw [Js.nx_end s k hh] at hc; exact (hl c (by simp)).2 hc.symm
      obtain ⟨h1, h2, h3⟩ := Js.wd_ascii s l (k + 1) j (fun x hx => hl x (List.mem_cons_of_mem _ hx)) hlt h
      refine ⟨by rw [h1, List.length_cons]; omega, h2, fun i h4 h5 => ?_⟩
      by_cases he : i = k
      · subst he; rw [hc]; exact (hl c (by simp)).1
      · exact h3 i (by omega) h5
    · cases h
/-- escapes -/
theorem Js.hx_ascii (s : ByteArray) : ∀ n k x y, Js.hx s n k x = .ok y → ∀ i, k ≤ i → i < k + n → Js.nx s i < 128
  | 0, k, x, y, h, i, h1, h2 => by omega
  | n + 1, k, x, y, h, i, h1, h2 => by
    rw [Js.hx] at h
    split at h
    · cases h
    · next d hd =>
      by_cases he : i = k
      · subst he
        have := Js.hexd_cases _ _ hd
        omega
      · exact Js.hx_ascii s n (k + 1) _ y h i (by omega) (by omega)
theorem Js.low_ascii (s : ByteArray) (k y : Nat) (h : Js.low s k = some y) : ∀ i, k ≤ i → i < k + 6 → Js.nx s i < 128 := by
  unfold Js.low at h
  split at h
  · next h1 =>
    split at h
    · next y' hy =>
      intro i h2 h3
      by_cases he : i = k
      · subst he; omega
      · by_cases he2 : i = k + 1
        · subst he2; omega
        · exact Js.hx_ascii s 4 (k + 2) 0 y' hy i (by omega) (by omega)
    · cases h
  · cases h
theorem Js.short_cases2 (c x : Nat) (h : Js.short c = some x) : c < 128 ∧ x < 128 ∧ ((x = 34 ∨ x = 92 ∨ x = 47 ∨ x = 8 ∨ x = 9 ∨ x = 10 ∨ x = 12 ∨ x = 13)) := by
  rcases Js.short_cases c x h with ⟨h1, h2⟩ | ⟨h1, h2⟩ | ⟨h1, h2⟩ | ⟨h1, h2⟩ | ⟨h1, h2⟩ | ⟨h1, h2⟩ <;> omega
theorem Js.qc_enc (x : Nat) (hx : Js.okPoint x) : ((Js.enc x).flatMap Js.qc).length ≤ 6 := by
  unfold Js.enc
  split
  · have := Js.qc_le (UInt8.ofNat x)
    simpa using this
  have hi : ∀ n, 128 ≤ n → n < 256 → Js.qc (UInt8.ofNat n) = [UInt8.ofNat n] := fun n h1 h2 => Js.qc_byte n h1 h2
  have hx2 : x ≤ 1114111 := by unfold Js.okPoint at hx; omega
  split
  · simp only [List.flatMap_cons, List.flatMap_nil, hi _ (show 128 ≤ 192 + x / 64 by omega) (by omega), hi _ (show 128 ≤ 128 + x % 64 by omega) (by omega)]
    simp
  split
  · simp only [List.flatMap_cons, List.flatMap_nil, hi _ (show 128 ≤ 224 + x / 4096 by omega) (by omega), hi _ (show 128 ≤ 128 + x / 64 % 64 by omega) (by omega), hi _ (show 128 ≤ 128 + x % 64 by omega) (by omega)]
    simp
  · simp only [List.flatMap_cons, List.flatMap_nil, hi _ (show 128 ≤ 240 + x / 262144 by omega) (by omega), hi _ (show 128 ≤ 128 + x / 4096 % 64 by omega) (by omega), hi _ (show 128 ≤ 128 + x / 64 % 64 by omega) (by omega), hi _ (show 128 ≤ 128 + x % 64 by omega) (by omega)]
    simp
theorem Js.V8.enc (x : Nat) (hx : Js.okPoint x) : Js.V8 (Js.enc x) := by
  have u : ∀ n, n < 256 → (UInt8.ofNat n).toNat = n := fun n h => by rw [UInt8.toNat_ofNat', Nat.mod_eq_of_lt h]
  unfold Js.okPoint at hx
  have fin : ∀ l : List UInt8, l ≠ [] → Js.runeL l = l.length → Js.V8 l := fun l h0 h => .step l h0 (by rw [h]; simpa using h0) (by rw [h]; exact Nat.le_refl _) (by rw [h, List.drop_length]; exact .nil)
  unfold Js.enc
  split
  · next h => exact Js.V8.one _ (by rw [u x (by omega)]; exact h)
  split
  · next h1 h2 =>
    refine fin _ (by simp) ?_
    unfold Js.runeL Js.runeN
    simp only [List.getD_cons_zero, List.getD_cons_succ]
    rw [u _ (by omega), u _ (by omega), if_neg (by omega), if_pos (by omega), if_pos (by omega)]
    rfl
  split
  · next h1 h2 h3 =>
    refine fin _ (by simp) ?_
    unfold Js.runeL Js.runeN
    simp only [List.getD_cons_zero, List.getD_cons_succ]
    rw [u _ (by omega), u _ (by omega), u _ (by omega), if_neg (by omega), if_neg (by omega), if_pos (by omega), if_pos (by omega)]
    rfl
  · next h1 h2 h3 =>
    refine fin _ (by simp) ?_
    unfold Js.runeL Js.runeN
    simp only [List.getD_cons_zero, List.getD_cons_succ]
    rw [u _ (by omega), u _ (by omega), u _ (by omega), u _ (by omega), if_neg (by omega), if_neg (by omega), if_neg (by omega), if_pos (by omega), if_pos (by omega)]
    rfl
/-- an escape: its bytes, its text -/
theorem Js.esc_right (s : ByteArray) (k x j : Nat) (hk : Js.nx s k = 92) (h : Js.esc s k = .ok (x, j)) : (∀ i, k ≤ i → i < j → Js.nx s i < 128) ∧ ((Js.enc x).flatMap Js.qc).length + k ≤ j := by
  obtain ⟨hok, hj1, hj2⟩ := Js.esc_ok s k x j h
  have hq := Js.qc_enc x hok
  unfold Js.esc at h
  split at h
  · next y hy =>
    cases h
    obtain ⟨c1, c2, c3⟩ := Js.short_cases2 _ _ hy
    refine ⟨fun i h1 h2 => ?_, ?_⟩
    · by_cases he : i = k
      · subst he; omega
      · obtain rfl : i = k + 1 := by omega
        exact c1
    · have : ((Js.enc x).flatMap Js.qc).length ≤ 2 := by
        rcases c3 with rfl | rfl | rfl | rfl | rfl | rfl | rfl | rfl <;> decide
      omega
  · split at h
    · next h117 =>
      split at h
      · cases h
      · next y hy =>
        have ha := Js.hx_ascii s 4 (k + 2) 0 y hy
        have hb : ∀ i, k ≤ i → i < k + 6 → Js.nx s i < 128 := fun i h1 h2 => by
          by_cases he : i = k
          · subst he; omega
          · by_cases he2 : i = k + 1
            · subst he2; omega
            · exact ha i (by omega) (by omega)
        split at h
        · cases h
          exact ⟨hb, by omega⟩
        · split at h
          · next z hz =>
            split at h
            · cases h
              have hl := Js.low_ascii s (k + 6) z hz
              refine ⟨fun i h1 h2 => ?_, by omega⟩
              by_cases he : i < k + 6
              · exact hb i h1 he
              · exact hl i (by omega) (by omega)
            · cases h
          · cases h
    · cases h
/-- bytes of a code point are copied one by one -/
theorem Js.txF_copy (s : ByteArray) : ∀ (a : List UInt8) (r : List UInt8) (k n : Nat) (out : List UInt8), (∀ c ∈ a, 128 ≤ c.toNat) → Js.Tl s k (a ++ r) → Js.txF s (n + a.length) k out = Js.txF s n (k + a.length) (out ++ a)
  | [], r, k, n, out, _, _ => by simp
  | c :: a, r, k, n, out, hc, h => by
    have n0 : Js.nx s k = c.toNat := Js.Tl.nx h
    have h1 := hc c (by simp)
    rw [List.length_cons, show n + (a.length + 1) = (n + a.length) + 1 by omega, Js.txF, n0, if_neg (by omega), if_neg (by omega), if_neg (by omega), Js.txF_copy s a r (k + 1) n _ (fun x hx => hc x (List.mem_cons_of_mem _ hx)) (Js.Tl.next h), Js.u8_of, List.append_assoc]
    rw [show k + 1 + a.length = k + (a.length + 1) by omega]
    rfl

/-- a valid text begins with an ASCII byte, or with a code point of others -/
theorem Js.V8.parts (l : List UInt8) (h : Js.V8 l) : l = [] ∨ (∃ c r, l = c :: r ∧ c.toNat < 128 ∧ Js.V8 r) ∨ (∃ a r, a ≠ [] ∧ l = a ++ r ∧ (∀ c ∈ a, 128 ≤ c.toNat) ∧ Js.V8 a ∧ Js.V8 r) := by
  refine Js.V8.ind (P := fun l => l = [] ∨ (∃ c r, l = c :: r ∧ c.toNat < 128 ∧ Js.V8 r) ∨ (∃ a r, a ≠ [] ∧ l = a ++ r ∧ (∀ c ∈ a, 128 ≤ c.toNat) ∧ Js.V8 a ∧ Js.V8 r)) (.inl rfl) ?_ ?_ l h
  · exact fun c l hc hl _ => .inr (.inl ⟨c, l, rfl, hc, hl⟩)
  · intro a l ha hva hvl ih
    cases a with
    | nil => exact ih
    | cons c a => exact .inr (.inr ⟨c :: a, l, by simp, rfl, ha, hva, hvl⟩)
/-- what is read of a string: valid, and not longer when it is quoted -/
theorem Js.txF_right (s : ByteArray) : ∀ (m k n : Nat) (out t : List UInt8) (j : Nat), s.size - k ≤ m → k ≤ s.size → Js.B8 s k → Js.txF s n k out = .ok (t, j) → ∃ t', t = out ++ t' ∧ Js.V8 t' ∧ Js.B8 s j ∧ j ≤ s.size ∧ (t'.flatMap Js.qc).length + 1 + k ≤ j := by
  intro m
  induction m with
  | zero =>
    intro k n out t j hm hk h8 h
    cases n with
    | zero => rw [Js.txF] at h; cases h
    | succ n => rw [Js.txF, Js.nx_end s k (by omega), if_pos (by decide)] at h; cases h
  | succ m ih =>
    intro k n out t j hm hk h8 h
    cases n with
    | zero => rw [Js.txF] at h; cases h
    | succ n =>
    by_cases hks : s.size ≤ k
    · rw [Js.txF, Js.nx_end s k hks, if_pos (by decide)] at h; cases h
    have hlt : k < s.size := by omega
    by_cases hc : Js.nx s k < 128
    · rw [Js.txF] at h
      split at h
      · cases h
      next h32 =>
      split at h
      · cases h
        exact ⟨[], by simp, .nil, h8.next hlt hc, hlt, by simp; omega⟩
      next h34 =>
      split at h
      · next h92 =>
        split at h
        · cases h
        · next x jj he =>
          obtain ⟨hok, e1, e2⟩ := Js.esc_ok s k x jj he
          obtain ⟨a1, a2⟩ := Js.esc_right s k x jj h92 he
          obtain ⟨t', p1, p2, p3, p4, p5⟩ := ih jj n _ t j (by omega) e2 (h8.to (by omega) e2 a1) h
          refine ⟨Js.enc x ++ t', by rw [p1, List.append_assoc], (Js.V8.enc x hok).app p2, p3, p4, ?_⟩
          rw [List.flatMap_append, List.length_append]
          omega
      · next h92 =>
        obtain ⟨t', p1, p2, p3, p4, p5⟩ := ih (k + 1) n _ t j (by omega) hlt (h8.next hlt hc) h
        have hq : Js.qc (UInt8.ofNat (Js.nx s k)) = [UInt8.ofNat (Js.nx s k)] := by
          have hu : (UInt8.ofNat (Js.nx s k)).toNat = Js.nx s k := by rw [UInt8.toNat_ofNat', Nat.mod_eq_of_lt (Js.nx_lt s k)]
          unfold Js.qc
          rw [if_neg (fun e => by rcases e with e | e <;> (have e' := congrArg UInt8.toNat e; rw [hu] at e'; first | exact h34 e' | exact h92 e')), if_pos (by rw [hu]; omega)]
        refine ⟨UInt8.ofNat (Js.nx s k) :: t', by rw [p1, List.append_assoc]; rfl, .cons (by rw [UInt8.toNat_ofNat', Nat.mod_eq_of_lt (Js.nx_lt s k)]; exact hc) p2, p3, p4, ?_⟩
        rw [List.flatMap_cons, hq, List.length_append]
        simp only [List.length_cons, List.length_nil]
        omega
    · rcases Js.V8.parts _ h8 with h0 | ⟨c, r, h1, h2, h3⟩ | ⟨a, r, h0, h1, h2, h3, h4⟩
      · have := congrArg List.length h0
        simp at this
        omega
      · have : Js.nx s k = c.toNat := Js.Tl.nx (r := r) h1
        omega
      · have hT : Js.Tl s k (a ++ r) := h1
        have hal : 0 < a.length := List.length_pos_iff.2 h0
        have hle : k + a.length ≤ s.size := by
          have := hT.len hk
          rw [List.length_append] at this
          omega
        by_cases hn : a.length ≤ n + 1
        · obtain ⟨n', hn'⟩ : ∃ n', n + 1 = n' + a.length := ⟨n + 1 - a.length, by omega⟩
          rw [hn', Js.txF_copy s a r k n' out h2 hT] at h
          obtain ⟨t', p1, p2, p3, p4, p5⟩ := ih (k + a.length) n' _ t j (by omega) hle (by unfold Js.B8; rw [show s.data.toList.drop (k + a.length) = r from hT.skip]; exact h4) h
          have e : ∀ a : List UInt8, (∀ c ∈ a, 128 ≤ c.toNat) → a.flatMap Js.qc = a := by
            intro a
            induction a with
            | nil => intro _; rfl
            | cons c r ih2 => intro hh; rw [List.flatMap_cons, Js.qc_high c (hh c (by simp)), ih2 fun x hx => hh x (List.mem_cons_of_mem _ hx)]; rfl
          refine ⟨a ++ t', by rw [p1, List.append_assoc], h3.app p2, p3, p4, ?_⟩
          rw [List.flatMap_append, e a h2, List.length_append]
          omega
        · have hT2 : Js.Tl s k (a.take (n + 1) ++ (a.drop (n + 1) ++ r)) := by
            rw [← List.append_assoc, List.take_append_drop]
            exact hT
          have h9 := Js.txF_copy s (a.take (n + 1)) _ k 0 out (fun c hc => h2 c (List.mem_of_mem_take hc)) hT2
          rw [show 0 + (a.take (n + 1)).length = n + 1 by rw [List.length_take]; omega, Js.txF] at h9
          rw [h9] at h
          cases h
theorem Js.tx_right (s : ByteArray) (k : Nat) (t : List UInt8) (j : Nat) (hk : k < s.size) (h8 : Js.B8 s k) (h34 : Js.nx s k = 34) (h : Js.tx s k = .ok (t, j)) : Js.V8 t ∧ Js.B8 s j ∧ j ≤ s.size ∧ (Js.quo t).length + k ≤ j := by
  unfold Js.tx at h
  obtain ⟨t', h1, h2, h3, h4, h5⟩ := Js.txF_right s _ (k + 1) _ [] t j (Nat.le_refl _) hk (h8.next hk (by omega)) h
  rw [List.nil_append] at h1
  subst h1
  refine ⟨h2, h3, h4, ?_⟩
  unfold Js.quo
  rw [List.length_cons, List.length_append]
  simp only [List.length_cons, List.length_nil]
  omega
/-- a text that is cut out -/
def Js.Cut (s t : ByteArray) (k : Nat) : Prop := ∀ j, j < t.size → Js.nx t j = Js.nx s (k + j)
theorem Js.Cut.dg {s t : ByteArray} {k : Nat} (h : Js.Cut s t k) : ∀ n j, t.size - j ≤ n → j ≤ t.size → Js.dg s (k + j) ≤ k + t.size → Js.dg s (k + j) = k + Js.dg t j
  | 0, j, hn, hj, hd => by
    have he : j = t.size := by omega
    rw [Js.dg_stop t j (by rw [Js.nx_end t j (by omega)]; rfl)]
    have := Js.dg_ge s (k + j)
    omega
  | n + 1, j, hn, hj, hd => by
    by_cases hlt : j < t.size
    · have hx := h j hlt
      by_cases hg : Js.isDg (Js.nx s (k + j)) = true
      · rw [Js.dg_step s _ hg] at hd ⊢
        rw [Js.dg_step t j (by rw [hx]; exact hg)]
        have := Js.Cut.dg h n (j + 1) (by omega) hlt (by rw [← Nat.add_assoc]; exact hd)
        rw [← Nat.add_assoc] at this
        exact this
      · have hg2 : Js.isDg (Js.nx s (k + j)) = false := by simpa using hg
        rw [Js.dg_stop s _ hg2, Js.dg_stop t j (by rw [hx]; exact hg2)]
    · rw [Js.dg_stop t j (by rw [Js.nx_end t j (by omega)]; rfl)]
      have := Js.dg_ge s (k + j)
      omega
theorem Js.Cut.dg' {s t : ByteArray} {k : Nat} (h : Js.Cut s t k) (j : Nat) (hj : j ≤ t.size) (hd : Js.dg s (k + j) ≤ k + t.size) : Js.dg s (k + j) = k + Js.dg t j := h.dg _ j (Nat.le_refl _) hj hd
theorem Js.Cut.numX {s t : ByteArray} {k : Nat} (h : Js.Cut s t k) (a : Nat) (ha : a ≤ t.size) (hr : Js.numX s (k + a) = (k + t.size, true)) : Js.numX t a = (t.size, true) := by
  unfold Js.numX at hr ⊢
  by_cases hx : Js.nx s (k + a) = 101 ∨ Js.nx s (k + a) = 69
  · rw [if_pos hx] at hr
    have hlt : a < t.size := by
      refine Nat.lt_of_not_le fun hh => ?_
      dsimp only at hr
      have h1 := congrArg Prod.fst hr
      dsimp only at h1
      split at h1
      · have := Js.dg_ge s (k + a + 2); omega
      · have := Js.dg_ge s (k + a + 1); omega
    rw [if_pos (by rw [h a hlt]; exact hx)]
    dsimp only at hr ⊢
    have h1 := congrArg Prod.fst hr
    have h2 := congrArg Prod.snd hr
    dsimp only at h1 h2
    by_cases hy : Js.nx s (k + a + 1) = 43 ∨ Js.nx s (k + a + 1) = 45
    · rw [if_pos hy] at h1 h2
      rw [bne_iff_ne] at h2
      have hge := Js.dg_ge s (k + a + 2)
      have hlt2 : a + 2 ≤ t.size := by omega
      have hy2 : Js.nx t (a + 1) = 43 ∨ Js.nx t (a + 1) = 45 := by rw [h (a + 1) (by omega), ← Nat.add_assoc]; exact hy
      have hd := h.dg' (a + 2) hlt2 (by rw [← Nat.add_assoc, h1]; exact Nat.le_refl _)
      rw [← Nat.add_assoc] at hd
      rw [if_pos hy2]
      have e1 : Js.dg t (a + 2) = t.size := by omega
      rw [e1]
      congr 1
      rw [bne_iff_ne]
      omega
    · rw [if_neg hy] at h1 h2
      rw [bne_iff_ne] at h2
      have hge := Js.dg_ge s (k + a + 1)
      have hlt2 : a + 1 < t.size := by omega
      have hy2 : ¬ (Js.nx t (a + 1) = 43 ∨ Js.nx t (a + 1) = 45) := by rw [h (a + 1) hlt2, ← Nat.add_assoc]; exact hy
      have hd := h.dg' (a + 1) (by omega) (by rw [← Nat.add_assoc, h1]; exact Nat.le_refl _)
      rw [← Nat.add_assoc] at hd
      rw [if_neg hy2]
      have e1 : Js.dg t (a + 1) = t.size := by omega
      rw [e1]
      congr 1
      rw [bne_iff_ne]
      omega
  · rw [if_neg hx] at hr
    have h1 := congrArg Prod.fst hr
    dsimp only at h1
    obtain rfl : a = t.size := by omega
    rw [Js.nx_end t t.size (Nat.le_refl _), if_neg (by decide)]
theorem Js.numX_ge2 (s : ByteArray) (a : Nat) : a ≤ (Js.numX s a).1 := by
  unfold Js.numX
  split
  · dsimp only
    split
    · exact Nat.le_trans (by omega) (Js.dg_ge s _)
    · exact Nat.le_trans (by omega) (Js.dg_ge s _)
  · exact Nat.le_refl _
theorem Js.Cut.numF {s t : ByteArray} {k : Nat} (h : Js.Cut s t k) (a : Nat) (ha : a ≤ t.size) (hr : Js.numF s (k + a) = (k + t.size, true)) : Js.numF t a = (t.size, true) := by
  unfold Js.numF at hr ⊢
  by_cases hx : Js.nx s (k + a) = 46
  · rw [if_pos hx] at hr
    by_cases hz : Js.dg s (k + a + 1) = k + a + 1
    · rw [if_pos hz] at hr
      have h9 := congrArg Prod.snd hr
      cases h9
    · rw [if_neg hz] at hr
      have hge := Js.dg_ge s (k + a + 1)
      have hge2 := Js.numX_ge2 s (Js.dg s (k + a + 1))
      rw [hr] at hge2
      dsimp only at hge2
      have hlt : a < t.size := by omega
      have hd := h.dg' (a + 1) hlt (by rw [← Nat.add_assoc]; exact hge2)
      rw [← Nat.add_assoc] at hd
      rw [if_pos (by rw [h a hlt]; exact hx), if_neg (by omega)]
      rw [hd] at hr
      exact h.numX _ (by omega) hr
  · rw [if_neg hx] at hr
    have h9 : ¬ Js.nx t a = 46 := by
      by_cases hlt : a < t.size
      · rw [h a hlt]; exact hx
      · rw [Js.nx_end t a (by omega)]; decide
    rw [if_neg h9]
    exact h.numX a ha hr
theorem Js.numF_ge2 (s : ByteArray) (a : Nat) : a ≤ (Js.numF s a).1 := by
  unfold Js.numF
  split
  · split
    · exact Nat.le_succ a
    · exact Nat.le_trans (Nat.le_trans (Nat.le_succ a) (Js.dg_ge s _)) (Js.numX_ge2 s _)
  · exact Js.numX_ge2 s a
/-- a number that has been read, cut out, is a number -/
theorem Js.Cut.num {s t : ByteArray} {k : Nat} (h : Js.Cut s t k) (hr : Js.num s k = (k + t.size, true)) : Js.num t 0 = (t.size, true) := by
  have hpos := Rj.num_pos s k (by rw [hr])
  rw [hr] at hpos
  dsimp only at hpos
  have h0 := h 0 (by omega)
  rw [Nat.add_zero] at h0
  unfold Js.num at hr ⊢
  dsimp only at hr ⊢
  obtain ⟨a, ha⟩ : ∃ a, a = (if Js.nx s k = 45 then 1 else 0) := ⟨_, rfl⟩
  have ha1 : (if Js.nx s k = 45 then k + 1 else k) = k + a := by rw [ha]; split <;> rfl
  have ha2 : (if Js.nx t 0 = 45 then 0 + 1 else 0) = a := by rw [h0, ha]
  have hal : a ≤ 1 := by rw [ha]; split <;> omega
  rw [ha1] at hr
  rw [ha2]
  by_cases hx : Js.nx s (k + a) = 48
  · rw [if_pos hx] at hr
    have hge := Js.numF_ge2 s (k + a + 1)
    rw [hr] at hge
    dsimp only at hge
    have hlt : a < t.size := by omega
    rw [if_pos (by rw [h a hlt]; exact hx)]
    exact h.numF (a + 1) hlt (by rw [← Nat.add_assoc]; exact hr)
  · rw [if_neg hx] at hr
    by_cases hz : Js.dg s (k + a) = k + a
    · rw [if_pos hz] at hr
      have h9 := congrArg Prod.snd hr
      cases h9
    · rw [if_neg hz] at hr
      have hge := Js.dg_ge s (k + a)
      have hge2 := Js.numF_ge2 s (Js.dg s (k + a))
      rw [hr] at hge2
      dsimp only at hge2
      have hlt : a < t.size := by omega
      have hd := h.dg' a (by omega) hge2
      rw [if_neg (by rw [h a hlt]; exact hx), if_neg (by omega)]
      rw [hd] at hr
      exact h.numF _ (by omega) hr
end Go.Proofs.YtmmijebekipdeaaDoor
