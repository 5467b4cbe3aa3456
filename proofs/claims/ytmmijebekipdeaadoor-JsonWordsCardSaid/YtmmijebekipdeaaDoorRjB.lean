/- The reference of chapter 14: Rune, Valid. -/
import Derived.Test.YtmmijebekipdeaaDoorJsU
import Derived.Deep.DeepCutAuto

namespace Go.Proofs.YtmmijebekipdeaaDoor
open Go.RowKit
set_option maxRecDepth 100000
set_option linter.unusedVariables false

/-- the bytes behind the first of a code point, m of them from i on: what they come to -/
def Rj.contF (s : ByteArray) (k : Nat) : Nat → Nat → Nat → Option Nat
  | 0, _, c => some c
  | m + 1, i, c => if 128 ≤ Js.nx s (k + i) ∧ Js.nx s (k + i) ≤ 191 then Rj.contF s k m (i + 1) (64 * c + Js.nx s (k + i) - 128) else none
def Rj.fin (l n : Nat) : Option Nat → Nat
  | none => 0
  | some c => if c < l ∨ 1114111 < c ∨ (55296 ≤ c ∧ c ≤ 57343) then 0 else n
theorem Rj.rune1 (s : ByteArray) (k : Nat) (h : Js.nx s k < 128) : Rj.fin 0 1 (Rj.contF s k 0 1 (Js.nx s k)) = Js.rune s k := by
  unfold Js.rune
  dsimp only
  rw [if_pos h]
  show (if Js.nx s k < 0 ∨ 1114111 < Js.nx s k ∨ (55296 ≤ Js.nx s k ∧ Js.nx s k ≤ 57343) then 0 else 1) = 1
  rw [if_neg (by omega)]
theorem Rj.rune2 (s : ByteArray) (k : Nat) (h1 : 192 ≤ Js.nx s k) (h2 : Js.nx s k < 224) : Rj.fin 128 2 (Rj.contF s k 1 1 (Js.nx s k - 192)) = Js.rune s k := by
  unfold Js.rune
  dsimp only
  obtain ⟨a, ha⟩ : ∃ a, Js.nx s k = a := ⟨_, rfl⟩
  obtain ⟨b, hb⟩ : ∃ b, Js.nx s (k + 1) = b := ⟨_, rfl⟩
  rw [ha] at h1 h2 ⊢
  rw [hb, Rj.contF, hb, Rj.contF, if_neg (by omega : ¬ a < 128)]
  by_cases hc : 128 ≤ b ∧ b ≤ 191
  · rw [if_pos hc, Rj.fin]
    by_cases h : 194 ≤ a
    · rw [if_neg (by omega), if_pos ⟨h, by omega⟩, if_pos (by simpa using hc)]
    · rw [if_pos (by omega), if_neg (by omega), if_neg (by omega), if_neg (by omega)]
  · rw [if_neg hc, Rj.fin]
    split
    · rw [if_neg (by simpa using hc)]
    · rw [if_neg (by omega), if_neg (by omega)]
theorem Rj.rune3 (s : ByteArray) (k : Nat) (h1 : 224 ≤ Js.nx s k) (h2 : Js.nx s k < 240) : Rj.fin 2048 3 (Rj.contF s k 2 1 (Js.nx s k - 224)) = Js.rune s k := by
  unfold Js.rune
  dsimp only
  obtain ⟨a, ha⟩ : ∃ a, Js.nx s k = a := ⟨_, rfl⟩
  obtain ⟨b, hb⟩ : ∃ b, Js.nx s (k + 1) = b := ⟨_, rfl⟩
  obtain ⟨c, hc⟩ : ∃ c, Js.nx s (k + 2) = c := ⟨_, rfl⟩
  rw [ha] at h1 h2 ⊢
  rw [hb, hc, Rj.contF, hb, if_neg (by omega : ¬ a < 128), if_neg (by omega : ¬ (194 ≤ a ∧ a ≤ 223)), if_pos (by omega : 224 ≤ a ∧ a ≤ 239)]
  by_cases h : 128 ≤ b ∧ b ≤ 191
  · rw [if_pos h, Rj.contF, hc, Rj.contF]
    by_cases g : 128 ≤ c ∧ c ≤ 191
    · rw [if_pos g, Rj.fin]
      by_cases q : (a ≠ 224 ∨ 160 ≤ b) ∧ (a ≠ 237 ∨ b < 160)
      · rw [if_neg (by omega), if_pos]
        simp only [Bool.and_eq_true, decide_eq_true_eq, Bool.or_eq_true, bne_iff_ne]
        exact ⟨⟨⟨h, g⟩, q.1⟩, q.2⟩
      · rw [if_pos (by omega), if_neg]
        simp only [Bool.and_eq_true, decide_eq_true_eq, Bool.or_eq_true, bne_iff_ne]
        exact fun e => q ⟨e.1.2, e.2⟩
    · rw [if_neg g, Rj.fin, if_neg]
      simp only [Bool.and_eq_true, decide_eq_true_eq, Bool.or_eq_true, bne_iff_ne]
      exact fun e => g e.1.1.2
  · rw [if_neg h, Rj.fin, if_neg]
    simp only [Bool.and_eq_true, decide_eq_true_eq, Bool.or_eq_true, bne_iff_ne]
    exact fun e => h e.1.1.1
theorem Rj.rune4 (s : ByteArray) (k : Nat) (h1 : 240 ≤ Js.nx s k) (h2 : Js.nx s k < 256) : Rj.fin 65536 4 (Rj.contF s k 3 1 (Js.nx s k - 240)) = Js.rune s k := by
  unfold Js.rune
  dsimp only
  obtain ⟨a, ha⟩ : ∃ a, Js.nx s k = a := ⟨_, rfl⟩
  obtain ⟨b, hb⟩ : ∃ b, Js.nx s (k + 1) = b := ⟨_, rfl⟩
  obtain ⟨c, hc⟩ : ∃ c, Js.nx s (k + 2) = c := ⟨_, rfl⟩
  obtain ⟨d, hd⟩ : ∃ d, Js.nx s (k + 3) = d := ⟨_, rfl⟩
  rw [ha] at h1 h2 ⊢
  rw [hb, hc, hd, Rj.contF, hb, if_neg (by omega : ¬ a < 128), if_neg (by omega : ¬ (194 ≤ a ∧ a ≤ 223)), if_neg (by omega : ¬ (224 ≤ a ∧ a ≤ 239))]
  by_cases h : 128 ≤ b ∧ b ≤ 191
  · rw [if_pos h, Rj.contF, hc]
    by_cases g : 128 ≤ c ∧ c ≤ 191
    · rw [if_pos g, Rj.contF, hd, Rj.contF]
      by_cases f : 128 ≤ d ∧ d ≤ 191
      · rw [if_pos f, Rj.fin]
        by_cases q : (a ≠ 240 ∨ 144 ≤ b) ∧ (a ≠ 244 ∨ b < 144) ∧ a ≤ 244
        · rw [if_neg (by omega), if_pos ⟨h1, q.2.2⟩, if_pos]
          simp only [Bool.and_eq_true, decide_eq_true_eq, Bool.or_eq_true, bne_iff_ne]
          exact ⟨⟨⟨⟨h, g⟩, f⟩, q.1⟩, q.2.1⟩
        · rw [if_pos (by omega)]
          split
          · rw [if_neg]
            simp only [Bool.and_eq_true, decide_eq_true_eq, Bool.or_eq_true, bne_iff_ne]
            next h9 => exact fun e => q ⟨e.1.2, e.2, h9.2⟩
          · rfl
      · rw [if_neg f, Rj.fin]
        split
        · rw [if_neg]
          simp only [Bool.and_eq_true, decide_eq_true_eq, Bool.or_eq_true, bne_iff_ne]
          exact fun e => f e.1.1.2
        · rfl
    · rw [if_neg g, Rj.fin]
      split
      · rw [if_neg]
        simp only [Bool.and_eq_true, decide_eq_true_eq, Bool.or_eq_true, bne_iff_ne]
        exact fun e => g e.1.1.1.2
      · rfl
  · rw [if_neg h, Rj.fin]
    split
    · rw [if_neg]
      simp only [Bool.and_eq_true, decide_eq_true_eq, Bool.or_eq_true, bne_iff_ne]
      exact fun e => h e.1.1.1.1
    · rfl
theorem Rj.contF_end (s : ByteArray) (k : Nat) : ∀ m i c, s.size < k + i + m → 0 < m → Rj.contF s k m i c = none
  | 0, _, _, _, h => by omega
  | m + 1, i, c, h, _ => by
    rw [Rj.contF]
    split
    · next h1 =>
      by_cases hm : m = 0
      · have := Js.nx_end s (k + i) (by omega); omega
      · exact Rj.contF_end s k m (i + 1) _ (by omega) (by omega)
    · rfl
theorem Rj.rune_high (s : ByteArray) (k : Nat) (h1 : 128 ≤ Js.nx s k) (h2 : Js.nx s k < 192) : Js.rune s k = 0 := by
  unfold Js.rune
  dsimp only
  rw [if_neg (by omega), if_neg (by omega), if_neg (by omega), if_neg (by omega)]
theorem Rj.fin_none (l n : Nat) (o : Option Nat) (h : o = none) : Rj.fin l n o = 0 := by rw [h]; rfl
theorem Rj.rune_le (s : ByteArray) (k : Nat) (hk : k < s.size) : k + Js.rune s k ≤ s.size := by
  have hlt := Js.nx_lt s k
  by_cases a : Js.nx s k < 128
  · unfold Js.rune; dsimp only; rw [if_pos a]; omega
  by_cases b : Js.nx s k < 192
  · rw [Rj.rune_high s k (by omega) b]; omega
  have key : ∀ l n, 1 < n → Rj.fin l n (Rj.contF s k (n - 1) 1 (Js.nx s k - (if n = 2 then 192 else if n = 3 then 224 else 240))) = Js.rune s k → k + Js.rune s k ≤ s.size := by
    intro l n hn h
    by_cases g : s.size < k + n
    · rw [Rj.contF_end s k _ _ _ (by omega) (by omega)] at h
      rw [← h]
      show k + 0 ≤ _
      omega
    · have : Rj.fin l n (Rj.contF s k (n - 1) 1 (Js.nx s k - (if n = 2 then 192 else if n = 3 then 224 else 240))) ≤ n := by
        unfold Rj.fin
        split
        · omega
        · split <;> omega
      omega
  by_cases c : Js.nx s k < 224
  · exact key 128 2 (by omega) (Rj.rune2 s k (by omega) c)
  by_cases d : Js.nx s k < 240
  · exact key 2048 3 (by omega) (Rj.rune3 s k (by omega) d)
  · exact key 65536 4 (by omega) (Rj.rune4 s k (by omega) hlt)

set_option maxHeartbeats 4000000 in
theorem Rj.rune_is (s : ByteArray) (k : Nat) (w : World) (hk : k < s.size) (hs : s.size ≤ 1152921504606846976) :
    Calls Tryd.prog 94 #[.string s, .int .i64 k] w fun e w' => e = .returned (.int .i64 (Js.rune s k)) ∧ w = w' := by
  obtain ⟨R, hR⟩ : ∃ R, Js.rune s k = R := ⟨_, rfl⟩
  have hlt := Js.nx_lt s k
  have r1 := Rj.rune1 s k
  have r2 := Rj.rune2 s k
  have r3 := Rj.rune3 s k
  have r4 := Rj.rune4 s k
  have rh := Rj.rune_high s k
  have hend := fun l n (h0 : 0 < n - 1) (h1 : s.size < k + n) c => Rj.fin_none l n _ (Rj.contF_end s k (n - 1) 1 c (by omega) h0)
  rw [hR] at r1 r2 r3 r4 rh ⊢
  have hk1 : (k : Int) < s.size := by omega
  have hk0 : (0 : Int) ≤ k := by omega
  obtain ⟨C, hC⟩ : ∃ C, Js.nx s k = C := ⟨_, rfl⟩
  rw [hC] at hlt r1 r2 r3 r4 rh
  have hC2 : s[k].toNat = C := by rw [← hC, Js.nx_get s k hk]
  have H1 := Lib.hid r1
  have H2 := Lib.hid r2
  have H3 := Lib.hid r3
  have H4 := Lib.hid r4
  have HH := Lib.hid rh
  have HE := Lib.hid hend
  clear hR r1 r2 r3 r4 rh hC hend
  go_enter Tryd.func94, Tryd.ntmps94
  go_upto_if 15 with fail
  go_cut [5, 6, 7] (fun v5 v6 v7 wx => ∃ n l c : Nat, v5 = .int .i64 n ∧ v6 = .int .i64 l ∧ v7 = .int .i64 c ∧ 1 ≤ n ∧ n ≤ 4 ∧ l ≤ 65536 ∧ c < 128 ∧ Hid (Rj.fin l n (Rj.contF s k (n - 1) 1 c) = R) ∧ wx = w)
  case first =>
    by_cases q1 : 240 ≤ C
    · have HF : Hid (Rj.fin 65536 4 (Rj.contF s k 3 1 (C - 240)) = R) := H4.out q1 hlt
      obtain ⟨c, rfl⟩ : ∃ c, C = c + 240 := ⟨C - 240, by omega⟩
      rw [Nat.add_sub_cancel] at HF
      clear H1 H2 H3 H4 HH
      go_wp2_with fail
      go_meet
      exact ⟨4, 65536, c, rfl, rfl, by go_num, by omega, by omega, by omega, by omega, HF, rfl⟩
    by_cases q2 : 224 ≤ C
    · have HF : Hid (Rj.fin 2048 3 (Rj.contF s k 2 1 (C - 224)) = R) := H3.out q2 (by omega)
      obtain ⟨c, rfl⟩ : ∃ c, C = c + 224 := ⟨C - 224, by omega⟩
      rw [Nat.add_sub_cancel] at HF
      clear H1 H2 H3 H4 HH
      go_wp2_with fail
      go_meet
      exact ⟨3, 2048, c, rfl, rfl, by go_num, by omega, by omega, by omega, by omega, HF, rfl⟩
    by_cases q3 : 192 ≤ C
    · have HF : Hid (Rj.fin 128 2 (Rj.contF s k 1 1 (C - 192)) = R) := H2.out q3 (by omega)
      obtain ⟨c, rfl⟩ : ∃ c, C = c + 192 := ⟨C - 192, by omega⟩
      rw [Nat.add_sub_cancel] at HF
      clear H1 H2 H3 H4 HH
      go_wp2_with fail
      go_meet
      exact ⟨2, 128, c, rfl, rfl, by go_num, by omega, by omega, by omega, by omega, HF, rfl⟩
    by_cases q4 : 128 ≤ C
    · have HF : Hid (R = 0) := HH.out q4 (by omega)
      clear H1 H2 H3 H4 HH
      go_wp2_with fail
      go_ret
      obtain rfl : R = 0 := HF.out
      exact ⟨rfl, rfl⟩
    · have HF : Hid (Rj.fin 0 1 (Rj.contF s k 0 1 C) = R) := H1.out (by omega)
      clear H1 H2 H3 H4 HH
      go_wp2_with fail
      go_meet
      exact ⟨1, 0, C, rfl, rfl, rfl, by omega, by omega, by omega, by omega, HF, rfl⟩
  case rest =>
    obtain ⟨n, l, c, rfl, rfl, rfl, hn1, hn2, hl, hc, HF, rfl⟩ := hcut
    clear H1 H2 H3 H4 HH hC2 hlt
    by_cases g : s.size < k + n
    · have g1 : (s.size : Int) < (k : Int) + n := by omega
      have HZ : Hid (R = 0) := by
        have h9 : _ = R := HF.out
        rw [HE.out l n (by omega) g c] at h9
        exact h9.symm
      clear HF HE
      go_wp2_with fail
      go_ret
      obtain rfl : R = 0 := HZ.out
      exact ⟨rfl, rfl⟩
    · have g1 : ¬ (s.size : Int) < (k : Int) + n := by omega
      clear HE
      go_wp2_with fail
      go_loop [7, 8] (fun cv iv => ∃ i m c : Nat, cv = .int .i64 c ∧ iv = .int .i64 i ∧ m + i = n ∧ Hid (Rj.fin l n (Rj.contF s k m i c) = R) ∧ ((i = 1 ∧ c < 128) ∨ (i = 2 ∧ c < 8192) ∨ (i = 3 ∧ c < 524288) ∨ (i = 4 ∧ c < 33554432))) (fun _ iv => n - (intOf iv).toNat)
      case atStart => exact ⟨1, n - 1, c, rfl, rfl, by omega, HF.out, .inl ⟨rfl, hc⟩⟩
      case round =>
        clear HF hc
        obtain ⟨i, m, c, rfl, rfl, hm, HF, hc⟩ := hrel
        by_cases hin : i < n
        · have i1 : (i : Int) < n := by omega
          have i0 : (0 : Int) ≤ (k : Int) + i := by omega
          have i2 : (k : Int) + i < s.size := by omega
          obtain ⟨m', rfl⟩ : ∃ m', m = m' + 1 := ⟨m - 1, by omega⟩
          have hki : k + i < s.size := by omega
          have hx := Js.nx_get s (k + i) hki
          have hxl := Js.nx_lt s (k + i)
          have HF2 : Hid (Rj.fin l n (if 128 ≤ Js.nx s (k + i) ∧ Js.nx s (k + i) ≤ 191 then Rj.contF s k m' (i + 1) (64 * c + Js.nx s (k + i) - 128) else none) = R) := by
            have h9 : _ = R := HF.out
            rw [Rj.contF] at h9
            exact h9
          obtain ⟨x, hx2⟩ : ∃ x, Js.nx s (k + i) = x := ⟨_, rfl⟩
          rw [hx2] at HF2 hx hxl
          have hx3 := hx.symm
          clear HF hx hx2
          by_cases x1 : x < 128
          · have HZ : Hid (R = 0) := by have h9 : _ = R := HF2.out; rw [if_neg (by omega)] at h9; exact h9.symm
            clear HF2
            go_wp2_with fail
            go_ret
            obtain rfl : R = 0 := HZ.out
            exact ⟨rfl, rfl⟩
          by_cases x2 : 191 < x
          · have HZ : Hid (R = 0) := by have h9 : _ = R := HF2.out; rw [if_neg (by omega)] at h9; exact h9.symm
            clear HF2
            go_wp2_with fail
            go_ret
            obtain rfl : R = 0 := HZ.out
            exact ⟨rfl, rfl⟩
          · have HF3 : Hid (Rj.fin l n (Rj.contF s k m' (i + 1) (64 * c + x - 128)) = R) := by have h9 : _ = R := HF2.out; rw [if_pos (by omega)] at h9; exact h9
            clear HF2
            go_wp2_with fail
            go_round
            case rel => exact ⟨i + 1, m', 64 * c + x - 128, by go_num, by go_num, by omega, HF3.out, by omega⟩
            case measure => simp [intOf]; omega
        · have i1 : ¬ (i : Int) < n := by omega
          obtain rfl : m = 0 := by omega
          have HF2 : Hid ((if c < l ∨ 1114111 < c ∨ (55296 ≤ c ∧ c ≤ 57343) then 0 else n) = R) := HF.out
          clear HF
          by_cases c1 : c < l
          · have HZ : Hid (R = 0) := by have h9 : _ = R := HF2.out; rw [if_pos (.inl c1)] at h9; exact h9.symm
            clear HF2
            go_wp2_with fail
            go_ret
            obtain rfl : R = 0 := HZ.out
            exact ⟨rfl, rfl⟩
          by_cases c2 : 1114111 < c
          · have HZ : Hid (R = 0) := by have h9 : _ = R := HF2.out; rw [if_pos (.inr (.inl c2))] at h9; exact h9.symm
            clear HF2
            go_wp2_with fail
            go_ret
            obtain rfl : R = 0 := HZ.out
            exact ⟨rfl, rfl⟩
          by_cases c3 : 55296 ≤ c
          · by_cases c4 : c ≤ 57343
            · have HZ : Hid (R = 0) := by have h9 : _ = R := HF2.out; rw [if_pos (.inr (.inr ⟨c3, c4⟩))] at h9; exact h9.symm
              clear HF2
              go_wp2_with fail
              go_ret
              obtain rfl : R = 0 := HZ.out
              exact ⟨rfl, rfl⟩
            · have HZ : Hid (R = n) := by have h9 : _ = R := HF2.out; rw [if_neg (by omega)] at h9; exact h9.symm
              clear HF2
              go_wp2_with fail
              go_ret
              obtain rfl : R = n := HZ.out
              exact ⟨rfl, rfl⟩
          · have HZ : Hid (R = n) := by have h9 : _ = R := HF2.out; rw [if_neg (by omega)] at h9; exact h9.symm
            clear HF2
            go_wp2_with fail
            go_ret
            obtain rfl : R = n := HZ.out
            exact ⟨rfl, rfl⟩

set_option maxHeartbeats 1000000 in
theorem Rj.valid_is (s : ByteArray) (w : World) (hs : s.size ≤ 1152921504606846976) :
    Calls Tryd.prog 70 #[.string s] w fun e w' => e = .returned (.int .i64 (Js.badI (Js.bad8 s))) ∧ w = w' := by
  obtain ⟨r, hr⟩ : ∃ r : Int, Js.badI (Js.bad8 s) = r := ⟨_, rfl⟩
  rw [hr]
  have HR : Hid (Js.badI (Js.badF s s.size 0) = r) := hr
  have HU := Lib.hid (fun i (hi : i < s.size) => Rj.rune_is s i w hi hs)
  clear hr
  go_enter Tryd.func70, Tryd.ntmps70
  go_wp2_with fail
  go_loop [3] (fun v => ∃ i f : Nat, v = .int .i64 i ∧ i ≤ s.size ∧ s.size ≤ f + i ∧ Hid (Js.badI (Js.badF s f i) = r)) (fun v => s.size - (intOf v).toNat)
  case atStart => exact ⟨0, s.size, rfl, by omega, by omega, HR.out⟩
  case round =>
    clear HR
    obtain ⟨i, f, rfl, hi, hf, HR⟩ := hrel
    by_cases h : i < s.size
    · have h1 : (i : Int) < s.size := by omega
      have h0 : (0 : Int) ≤ i := by omega
      obtain ⟨f', rfl⟩ : ∃ f', f = f' + 1 := ⟨f - 1, by omega⟩
      have HR2 : Hid (Js.badI (if Js.rune s i = 0 then some i else Js.badF s f' (i + Js.rune s i)) = r) := by
        have h9 : _ = r := HR.out
        rw [Js.badF, if_neg (by omega)] at h9
        exact h9
      have hle := Rj.rune_le s i h
      have HV := Lib.hid (HU.out i h)
      obtain ⟨u, hu⟩ : ∃ u, Js.rune s i = u := ⟨_, rfl⟩
      rw [hu] at HR2 hle HV
      clear hu HR HU
      by_cases h3 : u = 0
      · subst h3
        have HE : Hid ((i : Int) = r) := by have h9 : _ = r := HR2.out; rw [if_pos rfl] at h9; exact h9
        clear HR2
        go_wp2_with (go_at_call 94; refine HV.out.mono ?_)
        go_ret
        obtain rfl : (i : Int) = r := HE.out
        exact ⟨rfl, rfl⟩
      · have HE : Hid (Js.badI (Js.badF s f' (i + u)) = r) := by have h9 : _ = r := HR2.out; rw [if_neg h3] at h9; exact h9
        have bz : ((u : Int) == 0) = false := Js.beq_f (by omega)
        have bz2 : (u == 0) = false := by rw [beq_eq_false_iff_ne]; exact h3
        clear HR2
        go_wp2_with (go_at_call 94; refine HV.out.mono ?_)
        go_round
        case rel => exact ⟨i + u, f', by go_num, by omega, by omega, HE.out⟩
        case measure => simp [intOf]; omega
    · have h1 : ¬ (i : Int) < s.size := by omega
      have HE : Hid (-1 = r) := by
        have h9 : _ = r := HR.out
        cases f with
        | zero => exact h9
        | succ f => rw [Js.badF, if_pos (by omega)] at h9; exact h9
      clear HR
      go_wp2_with fail
      go_ret
      obtain rfl : -1 = r := HE.out
      exact ⟨rfl, rfl⟩
end Go.Proofs.YtmmijebekipdeaaDoor
