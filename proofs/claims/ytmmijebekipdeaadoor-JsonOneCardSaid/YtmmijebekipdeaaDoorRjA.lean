/- The reference of chapter 14: Rune, Valid, digits, number, Number. -/
import Derived.Test.YtmmijebekipdeaaDoorJsU
import Derived.Test.YtmmijebekipdeaaDoorJsN
import Derived.Test.YtmmijebekipdeaaDoorJsR
import Derived.Deep.DeepCutAuto
namespace Go.Proofs.YtmmijebekipdeaaDoor
open Go.RowKit
set_option maxRecDepth 100000
set_option linter.unusedVariables false

set_option maxHeartbeats 1000000 in
theorem Rj.digits_is (s : ByteArray) (k J : Nat) (w : World) (hk : k ≤ s.size) (hs : s.size ≤ 1152921504606846976) (hJ : Js.dg s k = J) :
    Calls Tryd.prog 104 #[.string s, .int .i64 k] w fun e w' => e = .returned (.int .i64 J) ∧ w = w' := by
  have HJ := Lib.hid hJ
  clear hJ
  go_enter Tryd.func104, Tryd.ntmps104
  go_wp2
  go_loop [1] (fun v => ∃ i : Nat, i ≤ s.size ∧ v = .int .i64 (i : Int) ∧ Hid (Js.dg s i = J)) (fun v => s.size - (intOf v).toNat)
  case atStart => exact ⟨k, hk, rfl, HJ.out⟩
  case round =>
    obtain ⟨i, hi, rfl, HJ⟩ := hrel
    have h0 : (0 : Int) ≤ i := by omega
    have hend : Js.isDg (Js.nx s i) = false → Hid (i = J) := fun hd => (Js.dg_stop s i hd).symm.trans HJ.out
    by_cases h : i < s.size
    · have h1 : (i : Int) < s.size := by omega
      have hc := Js.nx_get s i h
      by_cases hd : Js.isDg (Js.nx s i) = true
      · have HS := Lib.hid (Js.dg_step s i hd)
        have hd2 := hd
        simp only [Js.isDg, Bool.and_eq_true, decide_eq_true_eq, hc] at hd2
        have b1 : decide ((48 : Int) ≤ (s[i].toNat : Int)) = true := decide_eq_true (by omega)
        have b2 : decide ((s[i].toNat : Int) ≤ 57) = true := decide_eq_true (by omega)
        clear hd hd2 hc hend
        go_wp2
        go_round
        case rel => exact ⟨i + 1, by omega, by go_num, by show Js.dg s (i + 1) = J; rw [← HS.out]; exact HJ.out⟩
        case measure => simp [intOf]; omega
      · have hd0 : Js.isDg (Js.nx s i) = false := by simpa using hd
        have HE := hend hd0
        have hd2 := hd
        simp only [Js.isDg, Bool.and_eq_true, decide_eq_true_eq, hc] at hd2
        clear hd hd0 hc hend
        by_cases h48 : 48 ≤ s[i].toNat
        · have b1 : decide ((48 : Int) ≤ (s[i].toNat : Int)) = true := decide_eq_true (by omega)
          have b2 : decide ((s[i].toNat : Int) ≤ 57) = false := decide_eq_false (by omega)
          go_wp2
          go_ret
          obtain rfl : i = J := HE.out
          exact ⟨rfl, rfl⟩
        · have b1 : decide ((48 : Int) ≤ (s[i].toNat : Int)) = false := decide_eq_false (by omega)
          go_wp2
          go_ret
          obtain rfl : i = J := HE.out
          exact ⟨rfl, rfl⟩
    · have h1 : ¬ (i : Int) < s.size := by omega
      have HE := hend (by rw [Js.nx_end s i (by omega)]; rfl)
      clear hend
      go_wp2
      go_ret
      obtain rfl : i = J := HE.out
      exact ⟨rfl, rfl⟩

theorem Rj.dg_pos (s : ByteArray) (k : Nat) (h : Js.dg s k ≠ k) : k < Js.dg s k := by
  have := Js.dg_ge s k
  omega
theorem Rj.numX_ge (s : ByteArray) (a : Nat) : (Js.numX s a).2 = true → a ≤ (Js.numX s a).1 := by
  unfold Js.numX
  split
  · intro _
    dsimp only
    split
    · exact Nat.le_trans (by omega) (Js.dg_ge s _)
    · exact Nat.le_trans (by omega) (Js.dg_ge s _)
  · intro _; exact Nat.le_refl _
theorem Rj.numF_ge (s : ByteArray) (a : Nat) : (Js.numF s a).2 = true → a ≤ (Js.numF s a).1 := by
  unfold Js.numF
  split
  · split
    · intro h; cases h
    · intro h; exact Nat.le_trans (Nat.le_trans (Nat.le_succ a) (Js.dg_ge s _)) (Rj.numX_ge s _ h)
  · exact Rj.numX_ge s a
theorem Rj.num_pos (s : ByteArray) (k : Nat) : (Js.num s k).2 = true → k < (Js.num s k).1 := by
  unfold Js.num
  obtain ⟨a, ha⟩ : ∃ a, a = (if Js.nx s k = 45 then k + 1 else k) := ⟨_, rfl⟩
  have hk : k ≤ a := by rw [ha]; split <;> omega
  rw [← ha]
  dsimp only
  split
  · intro h; have := Rj.numF_ge s _ h; omega
  · split
    · intro h; cases h
    · next h0 => intro h; have := Rj.numF_ge s _ h; have := Rj.dg_pos s a h0; omega
theorem Rj.is_get (s : ByteArray) (k c : Nat) (h : k < s.size) : ((s[k].toNat : Int) == (c : Int)) = decide (Js.nx s k = c) := by
  rw [Js.nx_get s k h, Bool.eq_iff_iff, beq_iff_eq, decide_eq_true_eq]; omega

set_option maxHeartbeats 4000000 in
theorem Rj.number_is (s : ByteArray) (k : Nat) (w : World) (hk : k ≤ s.size) (hs : s.size ≤ 1152921504606846976) :
    Calls Tryd.prog 78 #[.string s, .int .i64 k] w fun e w' => e = .returned (.tuple #[.int .i64 (Js.num s k).1, .bool (Js.num s k).2]) ∧ w = w' := by
  obtain ⟨N, hN⟩ : ∃ N, Js.num s k = N := ⟨_, rfl⟩
  rw [hN]
  have HD := Lib.hid (fun (j J : Nat) (hj : j ≤ s.size) (hJ : Js.dg s j = J) => Rj.digits_is s j J w hj hs hJ)
  obtain ⟨a, ha⟩ : ∃ a, a = (if Js.nx s k = 45 then k + 1 else k) := ⟨_, rfl⟩
  have hale : a ≤ s.size ∧ k ≤ a := by
    rw [ha]; split
    case isTrue h => exact ⟨Nat.lt_of_not_le fun hh => by rw [Js.nx_end s k hh] at h; omega, by omega⟩
    · exact ⟨hk, by omega⟩
  have HN2 : Hid ((if Js.nx s a = 48 then Js.numF s (a + 1) else if Js.dg s a = a then (a, false) else Js.numF s (Js.dg s a)) = N) := by
    have := hN
    unfold Js.num at this
    rw [← ha] at this
    exact this
  have HA := Lib.hid ha
  clear hN ha
  go_enter Tryd.func78, Tryd.ntmps78
  obtain ⟨q16, hq16⟩ : ∃ q, (decide (Js.nx s k = 45)) = q := ⟨_, rfl⟩
  have HQ16 := Lib.hid hq16
  clear hq16
  go_upto_region 1 with fail
  go_cut [16] (fun v wx => v = .bool q16 ∧ wx = w)
  case first =>
    by_cases h : k < s.size
    · have h1 : (k : Int) < s.size := by omega
      have h0 : (0 : Int) ≤ k := by omega
      have b0 : ((s[k].toNat : Int) == 45) = _ := Rj.is_get s k 45 h
      obtain ⟨p0, hp0⟩ : ∃ p, decide (Js.nx s k = 45) = p := ⟨_, rfl⟩
      rw [hp0] at b0
      have HP0 := Lib.hid hp0
      clear hp0
      cases p0
      all_goals
        go_wp2_with fail
        go_meet
        exact ⟨by have h9 : _ = q16 := HQ16.out; rw [← h9, HP0.out]; try rfl, rfl⟩
    · have h1 : ¬ (k : Int) < s.size := by omega
      have b0 : Hid (decide (Js.nx s k = 45) = false) := by show _ = _; rw [Js.nx_end s k (by omega)]; rfl
      go_wp2_with fail
      go_meet
      exact ⟨by have h9 : _ = q16 := HQ16.out; rw [← h9, b0.out]; try rfl, rfl⟩
  case rest =>
  obtain ⟨rfl, rfl⟩ := hcut
  go_upto_if 16 with fail
  go_cut [1] (fun v wx => v = .int .i64 a ∧ wx = wc)
  case first =>
    cases q16
    case true =>
      have hp := of_decide_eq_true HQ16.out
      have e1 : a = k + 1 := by have h9 : a = _ := HA.out; rw [if_pos hp] at h9; exact h9
      subst e1
      clear hp
      go_wp2_with fail
      go_meet
      exact ⟨by go_num, rfl⟩
    case false =>
      have hp := of_decide_eq_false HQ16.out
      have e1 : a = k := by have h9 : a = _ := HA.out; rw [if_neg hp] at h9; exact h9
      subst e1
      clear hp
      go_wp2_with fail
      go_meet
      exact ⟨rfl, rfl⟩
  case rest =>
  obtain ⟨rfl, rfl⟩ := hcut
  clear HA
  obtain ⟨J, hJ⟩ : ∃ J, Js.dg s a = J := ⟨_, rfl⟩
  have hJa : a ≤ J ∧ J ≤ s.size := hJ ▸ ⟨Js.dg_ge s a, Js.dg_le s a hale.1⟩
  rw [hJ] at HN2
  have h480 : Js.nx s a = 48 → a < J := fun h => by rw [← hJ, Js.dg_step s a (by rw [h]; rfl)]; exact Js.dg_ge s _
  have HJ := Lib.hid hJ
  clear hJ
  go_upto_region 3 with fail
  go_cut [6] (fun v wx => v = .int .i64 J ∧ wx = wc)
  case first =>
    go_wp2_with (go_at_call 104; refine (HD.out a J hale.1 HJ.out).mono ?_)
    try rintro _ _ ⟨rfl, rfl⟩
    go_wp2_with fail
    go_meet
    exact ⟨rfl, rfl⟩
  case rest =>
  obtain ⟨rfl, rfl⟩ := hcut
  by_cases hJ0 : J = a
  · subst hJ0
    have HF : Hid ((J, false) = N) := by have h9 : _ = N := HN2.out; rw [if_neg (fun h => by have := h480 h; omega), if_pos rfl] at h9; exact h9
    clear HN2 h480 HD HJ
    go_wp2_with fail
    go_ret2
    obtain rfl : _ = N := HF.out
    exact ⟨rfl, rfl⟩
  have hlt : a < s.size := by omega
  have ha0 : (0 : Int) ≤ a := by omega
  have ha1 : (a : Int) < s.size := by omega
  have b48 : ((s[a].toNat : Int) == 48) = _ := Rj.is_get s a 48 hlt
  have bJ : ((J : Int) == (a : Int)) = false := Js.beq_f (by omega)
  obtain ⟨p, hp⟩ : ∃ p, decide (Js.nx s a = 48) = p := ⟨_, rfl⟩
  rw [hp] at b48
  go_upto_if 29 with fail
  go_cut [6] (fun v wx => ∃ c : Nat, v = .int .i64 c ∧ Hid (Js.numF s c = N) ∧ k ≤ c ∧ c ≤ s.size ∧ wx = wc)
  case first =>
    cases p
    · have hp := of_decide_eq_false hp
      have HF : Hid (Js.numF s J = N) := by have h9 : _ = N := HN2.out; rw [if_neg hp, if_neg hJ0] at h9; exact h9
      go_wp2_with fail
      go_meet
      exact ⟨J, rfl, HF, by omega, hJa.2, rfl⟩
    · have hp := of_decide_eq_true hp
      have HF : Hid (Js.numF s (a + 1) = N) := by have h9 : _ = N := HN2.out; rw [if_pos hp] at h9; exact h9
      go_wp2_with fail
      go_meet
      exact ⟨a + 1, by go_num, HF, by omega, by omega, rfl⟩
  case rest =>
  obtain ⟨c, rfl, HF, hc1, hc2, rfl⟩ := hcut
  clear HN2 h480 HJ hp b48 hJ0 bJ
  obtain ⟨q42, hq42⟩ : ∃ q, (decide (Js.nx s c = 46)) = q := ⟨_, rfl⟩
  have HQ42 := Lib.hid hq42
  clear hq42
  go_upto_region 9 with fail
  go_cut [42] (fun v wx => v = .bool q42 ∧ wx = wc)
  case first =>
    by_cases h : c < s.size
    · have h1 : (c : Int) < s.size := by omega
      have h0 : (0 : Int) ≤ c := by omega
      have b0 : ((s[c].toNat : Int) == 46) = _ := Rj.is_get s c 46 h
      obtain ⟨p0, hp0⟩ : ∃ p, decide (Js.nx s c = 46) = p := ⟨_, rfl⟩
      rw [hp0] at b0
      have HP0 := Lib.hid hp0
      clear hp0
      cases p0
      all_goals
        go_wp2_with fail
        go_meet
        exact ⟨by have h9 : _ = q42 := HQ42.out; rw [← h9, HP0.out]; try rfl, rfl⟩
    · have h1 : ¬ (c : Int) < s.size := by omega
      have b0 : Hid (decide (Js.nx s c = 46) = false) := by show _ = _; rw [Js.nx_end s c (by omega)]; rfl
      go_wp2_with fail
      go_meet
      exact ⟨by have h9 : _ = q42 := HQ42.out; rw [← h9, b0.out]; try rfl, rfl⟩
  case rest =>
  obtain ⟨rfl, rfl⟩ := hcut
  go_upto_if 42 with fail
  go_cut [1] (fun v wx => ∃ d : Nat, v = .int .i64 d ∧ Hid (Js.numX s d = N) ∧ k ≤ d ∧ d ≤ s.size ∧ wx = wc)
  case first =>
    cases q42
    case true =>
      have hp := of_decide_eq_true HQ42.out
      have hlt2 : c < s.size := Nat.lt_of_not_le fun hh => by rw [Js.nx_end s c hh] at hp; omega
      have HF2 : Hid ((if Js.dg s (c + 1) = c + 1 then (c + 1, false) else Js.numX s (Js.dg s (c + 1))) = N) := by have h9 : _ = N := HF.out; rw [Js.numF, if_pos hp] at h9; exact h9
      obtain ⟨L, hL⟩ : ∃ L, Js.dg s (c + 1) = L := ⟨_, rfl⟩
      have hLa : c + 1 ≤ L ∧ L ≤ s.size := hL ▸ ⟨Js.dg_ge s _, Js.dg_le s _ hlt2⟩
      rw [hL] at HF2
      have HDL := Lib.hid (HD.out (c + 1) L hlt2 hL)
      clear hp HF hL HD
      go_wp2_with (go_at_call 104; refine HDL.out.mono ?_)
      try rintro _ _ ⟨rfl, rfl⟩
      by_cases hL0 : L = c + 1
      · subst hL0
        have HE : Hid ((c + 1, false) = N) := by have h9 : _ = N := HF2.out; rw [if_pos rfl] at h9; exact h9
        clear HF2 HDL
        go_wp2_with fail
        go_ret2
        obtain rfl : _ = N := HE.out
        exact ⟨rfl, rfl⟩
      · have HE : Hid (Js.numX s L = N) := by have h9 : _ = N := HF2.out; rw [if_neg hL0] at h9; exact h9
        have bL : ((L : Int) == (c : Int) + 1) = false := Js.beq_f (by omega)
        clear HF2 HDL
        go_wp2_with fail
        go_meet
        exact ⟨L, rfl, HE, by omega, hLa.2, rfl⟩
    case false =>
      have hp := of_decide_eq_false HQ42.out
      have HE : Hid (Js.numX s c = N) := by have h9 : _ = N := HF.out; rw [Js.numF, if_neg hp] at h9; exact h9
      clear hp HF
      go_wp2_with fail
      go_meet
      exact ⟨c, rfl, HE, hc1, hc2, rfl⟩
  case rest =>
  obtain ⟨d, rfl, HX, hd1, hd2, rfl⟩ := hcut
  clear HF hc1 hc2
  obtain ⟨q68, hq68⟩ : ∃ q, (decide (Js.nx s d = 101) || decide (Js.nx s d = 69)) = q := ⟨_, rfl⟩
  have HQ68 := Lib.hid hq68
  clear hq68
  go_upto_region 14 with fail
  go_cut [68] (fun v wx => v = .bool q68 ∧ wx = wc)
  case first =>
    by_cases h : d < s.size
    · have h1 : (d : Int) < s.size := by omega
      have h0 : (0 : Int) ≤ d := by omega
      have b0 : ((s[d].toNat : Int) == 101) = _ := Rj.is_get s d 101 h
      obtain ⟨p0, hp0⟩ : ∃ p, decide (Js.nx s d = 101) = p := ⟨_, rfl⟩
      rw [hp0] at b0
      have HP0 := Lib.hid hp0
      clear hp0
      have b1 : ((s[d].toNat : Int) == 69) = _ := Rj.is_get s d 69 h
      obtain ⟨p1, hp1⟩ : ∃ p, decide (Js.nx s d = 69) = p := ⟨_, rfl⟩
      rw [hp1] at b1
      have HP1 := Lib.hid hp1
      clear hp1
      cases p0 <;> cases p1
      all_goals
        go_wp2_with fail
        go_meet
        exact ⟨by have h9 : _ = q68 := HQ68.out; rw [← h9, HP0.out, HP1.out]; try rfl, rfl⟩
    · have h1 : ¬ (d : Int) < s.size := by omega
      have b0 : Hid (decide (Js.nx s d = 101) = false) := by show _ = _; rw [Js.nx_end s d (by omega)]; rfl
      have b1 : Hid (decide (Js.nx s d = 69) = false) := by show _ = _; rw [Js.nx_end s d (by omega)]; rfl
      go_wp2_with fail
      go_meet
      exact ⟨by have h9 : _ = q68 := HQ68.out; rw [← h9, b0.out, b1.out]; try rfl, rfl⟩
  case rest =>
  obtain ⟨rfl, rfl⟩ := hcut
  cases q68
  case true =>
    have hp : Js.nx s d = 101 ∨ Js.nx s d = 69 := by have h9 : _ = true := HQ68.out; simpa using h9
    have hlt2 : d < s.size := Nat.lt_of_not_le fun hh => by rw [Js.nx_end s d hh] at hp; omega
    have HX2 : Hid ((Js.dg s (if Js.nx s (d + 1) = 43 ∨ Js.nx s (d + 1) = 45 then d + 2 else d + 1), Js.dg s (if Js.nx s (d + 1) = 43 ∨ Js.nx s (d + 1) = 45 then d + 2 else d + 1) != (if Js.nx s (d + 1) = 43 ∨ Js.nx s (d + 1) = 45 then d + 2 else d + 1)) = N) := by
      have h9 : _ = N := HX.out; rw [Js.numX, if_pos hp] at h9; exact h9
    clear hp HX
    obtain ⟨f, hf⟩ : ∃ f, f = d + 1 := ⟨_, rfl⟩
    rw [show d + 2 = f + 1 by omega, ← hf] at HX2
    have hf2 : f ≤ s.size := by omega
    have hf3 : k ≤ f := by omega
    go_upto_region 15 with fail
    go_cut [1] (fun v wx => v = .int .i64 f ∧ wx = wc)
    case first =>
      subst hf
      go_wp2_with fail
      go_meet
      exact ⟨by go_num, rfl⟩
    case rest =>
    obtain ⟨rfl, rfl⟩ := hcut
    clear hf hlt2
    obtain ⟨q86, hq86⟩ : ∃ q, (decide (Js.nx s f = 43) || decide (Js.nx s f = 45)) = q := ⟨_, rfl⟩
    have HQ86 := Lib.hid hq86
    clear hq86
    go_upto_region 16 with fail
    go_cut [86] (fun v wx => v = .bool q86 ∧ wx = wc)
    case first =>
      by_cases h : f < s.size
      · have h1 : (f : Int) < s.size := by omega
        have h0 : (0 : Int) ≤ f := by omega
        have b0 : ((s[f].toNat : Int) == 43) = _ := Rj.is_get s f 43 h
        obtain ⟨p0, hp0⟩ : ∃ p, decide (Js.nx s f = 43) = p := ⟨_, rfl⟩
        rw [hp0] at b0
        have HP0 := Lib.hid hp0
        clear hp0
        have b1 : ((s[f].toNat : Int) == 45) = _ := Rj.is_get s f 45 h
        obtain ⟨p1, hp1⟩ : ∃ p, decide (Js.nx s f = 45) = p := ⟨_, rfl⟩
        rw [hp1] at b1
        have HP1 := Lib.hid hp1
        clear hp1
        cases p0 <;> cases p1
        all_goals
          go_wp2_with fail
          go_meet
          exact ⟨by have h9 : _ = q86 := HQ86.out; rw [← h9, HP0.out, HP1.out]; try rfl, rfl⟩
      · have h1 : ¬ (f : Int) < s.size := by omega
        have b0 : Hid (decide (Js.nx s f = 43) = false) := by show _ = _; rw [Js.nx_end s f (by omega)]; rfl
        have b1 : Hid (decide (Js.nx s f = 45) = false) := by show _ = _; rw [Js.nx_end s f (by omega)]; rfl
        go_wp2_with fail
        go_meet
        exact ⟨by have h9 : _ = q86 := HQ86.out; rw [← h9, b0.out, b1.out]; try rfl, rfl⟩
    case rest =>
    obtain ⟨rfl, rfl⟩ := hcut
    go_upto_if 86 with fail
    go_cut [1] (fun v wx => ∃ g : Nat, v = .int .i64 g ∧ Hid ((Js.dg s g, Js.dg s g != g) = N) ∧ k ≤ g ∧ g ≤ s.size ∧ wx = wc)
    case first =>
      cases q86
      case true =>
        have hp : Js.nx s f = 43 ∨ Js.nx s f = 45 := by have h9 : _ = true := HQ86.out; simpa using h9
        have hlt2 : f < s.size := Nat.lt_of_not_le fun hh => by rw [Js.nx_end s f hh] at hp; omega
        have HE : Hid ((Js.dg s (f + 1), Js.dg s (f + 1) != f + 1) = N) := by have h9 : _ = N := HX2.out; simp only [if_pos hp] at h9; exact h9
        clear hp HX2
        go_wp2_with fail
        go_meet
        exact ⟨f + 1, by go_num, HE, by omega, hlt2, rfl⟩
      case false =>
        have hp : ¬ (Js.nx s f = 43 ∨ Js.nx s f = 45) := by have h9 : _ = false := HQ86.out; simpa using h9
        have HE : Hid ((Js.dg s f, Js.dg s f != f) = N) := by have h9 : _ = N := HX2.out; simp only [if_neg hp] at h9; exact h9
        clear hp HX2
        go_wp2_with fail
        go_meet
        exact ⟨f, rfl, HE, by omega, hf2, rfl⟩
    case rest =>
    obtain ⟨g, rfl, HE, hg1, hg2, rfl⟩ := hcut
    obtain ⟨L, hL⟩ : ∃ L, Js.dg s g = L := ⟨_, rfl⟩
    have hLa : g ≤ L ∧ L ≤ s.size := hL ▸ ⟨Js.dg_ge s _, Js.dg_le s _ hg2⟩
    rw [hL] at HE
    have HDL := Lib.hid (HD.out g L hg2 hL)
    clear hL HD HX2
    go_wp2_with (go_at_call 104; refine HDL.out.mono ?_)
    try rintro _ _ ⟨rfl, rfl⟩
    by_cases hL0 : L = g
    · subst hL0
      have HE2 : Hid ((L, false) = N) := by have h9 : _ = N := HE.out; rw [bne_self_eq_false] at h9; exact h9
      clear HE HDL
      go_wp2_with fail
      go_ret2
      obtain rfl : _ = N := HE2.out
      exact ⟨rfl, rfl⟩
    · have HE2 : Hid ((L, true) = N) := by have h9 : _ = N := HE.out; rw [bne_iff_ne.2 hL0] at h9; exact h9
      have bL : ((L : Int) == (g : Int)) = false := Js.beq_f (by omega)
      clear HE HDL hL0
      go_wp2_with fail
      go_ret2
      obtain rfl : _ = N := HE2.out
      exact ⟨rfl, rfl⟩
  case false =>
    have hp : ¬ (Js.nx s d = 101 ∨ Js.nx s d = 69) := by have h9 : _ = false := HQ68.out; simpa using h9
    have HE : Hid ((d, true) = N) := by have h9 : _ = N := HX.out; rw [Js.numX, if_neg hp] at h9; exact h9
    clear hp HX
    go_wp2_with fail
    go_ret2
    obtain rfl : _ = N := HE.out
    exact ⟨rfl, rfl⟩
/- behind number -/
set_option maxHeartbeats 1000000 in
theorem Rj.jnumber_is (s : ByteArray) (w : World) (hs : s.size ≤ 1152921504606846976) :
    Calls Tryd.prog 44 #[.string s] w fun e w' => e = .returned (.bool (Js.isNum s)) ∧ w = w' := by
  obtain ⟨B, hB⟩ : ∃ B, Js.isNum s = B := ⟨_, rfl⟩
  rw [hB]
  have HM := Lib.hid (Rj.number_is s 0 w (Nat.zero_le _) hs)
  unfold Js.isNum at hB
  have hz : (Js.num s 0).2 = true → 0 < (Js.num s 0).1 := Rj.num_pos s 0
  obtain ⟨N, hN⟩ : ∃ N, Js.num s 0 = N := ⟨_, rfl⟩
  rw [hN] at HM hB hz
  clear hN
  obtain ⟨n, ok⟩ := N
  have HB := Lib.hid hB
  clear hB
  dsimp only at HM hz
  cases ok with
  | false =>
    have HE : Hid (B = false) := by have h9 : _ = B := HB.out; rw [← h9]; rfl
    clear HB hz
    go_enter Tryd.func44, Tryd.ntmps44
    go_wp2_with (go_at_call 78; refine HM.out.mono ?_)
    try rintro _ _ ⟨rfl, rfl⟩
    go_wp2_with fail
    go_ret
    obtain rfl : B = false := HE.out
    exact ⟨rfl, rfl⟩
  | true =>
    have hn := hz rfl
    have HE : Hid (B = decide (n = s.size)) := by
      have h9 : _ = B := HB.out
      show B = decide (n = s.size)
      rw [← h9]
      by_cases h : n = s.size
      · have h0 : 0 < s.size := by omega
        simp [h, h0]
      · simp [h]
    clear HB hz
    obtain ⟨p, hp⟩ : ∃ p, decide (n = s.size) = p := ⟨_, rfl⟩
    rw [hp] at HE
    have b1 : ((n : Int) == (s.size : Int)) = p := by rw [← hp, Bool.eq_iff_iff, beq_iff_eq, decide_eq_true_eq]; omega
    clear hp
    go_enter Tryd.func44, Tryd.ntmps44
    go_wp2_with (go_at_call 78; refine HM.out.mono ?_)
    try rintro _ _ ⟨rfl, rfl⟩
    go_wp2_with fail
    go_ret
    obtain rfl : B = p := HE.out
    exact ⟨by first | rfl | rw [b1], rfl⟩
end Go.Proofs.YtmmijebekipdeaaDoor
