/- The walk of LabelTells: the law returns true for every input. (Printed by gen_tl.py.) -/
import Derived.Test.YtbilaghljlobpaaGreatL5C
import Derived.Test.YtbilaghljlobpaaGreatL5A
namespace Go.Proofs.YtbilaghljlobpaaGreat
open Go.RowKit

theorem rname_below (s : ByteArray) (col : Bool) (o : UInt8) (ho : o = if col = true then 58 else 95) (b : Bool) (h : Lab.named o s.data.toList = b) (w : World) (hs : s.size ≤ maxLen) :
    Calls Tryz.prog 16 #[.string s, .bool col] w fun e w' => e = .returned (.bool b) ∧ Below w.heap.size w w' :=
  (rname_is s col o ho b h w hs).mono fun e w' ⟨he, n, hw⟩ => ⟨he, by rw [hw]; exact below_drewN (Below.refl _ _) n⟩
theorem rcheck_is (p : Option Addr) (ls : List Lab.L) (n c : Nat) (w : World) (hn : ls.length = n) (hA : Lab.At p ls w) (hF : Lab.Fit maxLen ls) (hl : n ≤ maxLen) (i er : Int) (h : Lab.check ls = (i, er)) :
    Calls Tryz.prog 12 #[.slice p n c] w fun e w' => e = .returned (.tuple #[.int .i64 i, .int .i64 er]) ∧ Below w.heap.size w w' := by
  have := rlcheck_any p ls n c w hn hA hF hl
  rw [h] at this
  exact this
theorem check4_is (p : Option Addr) (ls : List Lab.L) (n c : Nat) (w : World) (hn : ls.length = n) (hA : Lab.At p ls w) (hF : Lab.Fit maxLen ls) (hl : n ≤ maxLen) (i er : Int) (h : Lab.check ls = (i, er)) :
    Calls Tryz.prog 11 #[.slice p n c] w fun e w' => e = .returned (.tuple #[.int .i64 i, .int .i64 er]) ∧ Below w.heap.size w w' := by
  have := check_any p ls n c w hn hA hF hl
  rw [h] at this
  exact this
theorem Can.short_parts (ls : List Lab.L) (h : Can.short ls = true) : ls.length ≤ 70 ∧ Lab.Fit 1100 ls := by
  unfold Can.short at h
  rw [Bool.and_eq_true, decide_eq_true_eq, List.all_eq_true] at h
  refine ⟨h.1, fun x hx => ?_⟩
  have := h.2 x hx
  rw [Bool.and_eq_true, decide_eq_true_eq, decide_eq_true_eq] at this
  exact this

set_option maxHeartbeats 12800000 in
set_option maxRecDepth 100000 in
theorem tells_is (s : ByteArray) (p : Option Addr) (ls : List Lab.L) (n c : Nat) (w : World) (hs : s.size ≤ maxLen) (hn : ls.length = n) (hA : Lab.At p ls w) (hF : Lab.Fit maxLen ls) (hp : p = none → c = 0) (hl : n ≤ maxLen) :
    Calls Tryz.prog 4 #[.string s, .slice p n c] w fun e w' => e = .returned (.bool true) ∧ Below w.heap.size w w' := by
  by_cases hs15 : s.size ≤ 1500
  rotate_left
  · have n1 : (1500 : Int) < (s.size : Int) := by omega
    unfold maxLen at hs
    clear hn hA hF hp
    go_enter Tryz.func4, Tryz.ntmps4
    go_wp2_with fail
    go_ret
    exact ⟨rfl, Below.refl _ _⟩
  obtain ⟨b, hb⟩ : ∃ b, Can.short ls = b := ⟨_, rfl⟩
  have HSH := Lib.hid (short_is p ls n c b hb w hn hA hF hl)
  have n1 : (s.size : Int) ≤ 1500 := by omega
  cases b
  · clear hn hA hF hp hb hs hl
    go_enter Tryz.func4, Tryz.ntmps4
    go_wp2_with (go_at_call 9; refine HSH.out.mono ?_)
    first | rintro e w1 rfl hb1 | rintro e w1 ⟨rfl, hb1⟩
    go_wp2_with fail
    go_ret
    exact ⟨rfl, hb1⟩
  obtain ⟨h70, hf11⟩ := Can.short_parts ls hb
  rw [hn] at h70
  obtain ⟨ci, ce, hck⟩ : ∃ i e, Lab.check ls = (i, e) := ⟨_, _, rfl⟩
  obtain ⟨r, er, hof⟩ : ∃ r e, Lab.of ls = (r, e) := ⟨_, _, rfl⟩
  have hrt : Lab.right ls = (ce == 0) := by unfold Lab.right; rw [hck]
  obtain ⟨b1, hb1⟩ : ∃ b, Lab.named 95 s.data.toList = b := ⟨_, rfl⟩
  obtain ⟨b2, hb2⟩ : ∃ b, Lab.named 58 s.data.toList = b := ⟨_, rfl⟩
  obtain ⟨b3, hb3⟩ : ∃ b, Lab.value s.data.toList = b := ⟨_, rfl⟩
  obtain ⟨r0, hr0⟩ : ∃ r, Lab.get ls s = r := ⟨_, rfl⟩
  obtain ⟨lr, hlr⟩ : ∃ n, r.length = n := ⟨_, rfl⟩
  have hlr2 : lr ≤ 64 := by
    rw [← hlr]
    unfold Lab.of at hof
    split at hof
    · split at hof
      · split at hof
        · simp only [Prod.mk.injEq] at hof; rw [← hof.1]; simp
        · simp only [Prod.mk.injEq] at hof; rw [← hof.1]; omega
      · simp only [Prod.mk.injEq] at hof; rw [← hof.1]; simp
    · simp only [Prod.mk.injEq] at hof; rw [← hof.1]; simp
  have HLN := Lib.hid (fun w hA => lent_is p ls n c w hn hA hp (by omega))
  have HC1 := Lib.hid (fun q d w hA => check4_is q ls n d w hn hA hF hl ci ce hck)
  have HC2 := Lib.hid (fun w hA => rcheck_is p ls n c w hn hA hF hl ci ce hck)
  have HO1 := Lib.hid (fun q d w hA => lof_is q ls n d r er hof w hn hA hF (by omega))
  have HO2 := Lib.hid (fun w hA => opened hlr (rof_is p ls n c r er hof w hn hA hF (by omega)))
  have HN1 := Lib.hid (fun w => name_is s b1 hb1 w hs)
  have HN2 := Lib.hid (fun w => rname_below s false 95 rfl b1 hb1 w hs)
  have HN3 := Lib.hid (fun w => metric_is s b2 hb2 w hs)
  have HN4 := Lib.hid (fun w => rname_below s true 58 rfl b2 hb2 w hs)
  have HN5 := Lib.hid (fun w => value_is s b3 hb3 w hs)
  have HN6 := Lib.hid (fun w => rval_is s b3 hb3 w hs)
  have HRT := Lib.hid (fun q d w hA => right_is q ls n d (ce == 0) hrt w hn hA hF hl)
  have HIS := Lib.hid (fun q1 q2 d1 d2 w hA hB => is_true q1 q2 r lr d1 d2 er w hlr hA hB (by unfold maxLen; omega))
  have HG1 := Lib.hid (fun q d name v h w hA => lget_is q ls n d name v h w hn hA (by omega))
  have HG2 := Lib.hid (fun name v h w hA => rget_is p ls n c name v h w hn hA (by omega))
  have HR0 := Lib.hid hr0
  have HKP := Lib.hid (fun g cap B w hA hO => kept_true g cap p ls n c B w hn hA (by omega) hO)
  have HN := Lib.hid hn
  have HLR := Lib.hid hlr
  have X0 := Lib.hid hA
  clear hn hA hF hp hb hs hl hck hof hrt hb1 hb2 hb3 hr0 hf11 hlr
  go_enter Tryz.func4, Tryz.ntmps4
  have K0 : Hid (∀ w', Below w.heap.size w w' → Lab.At p ls w') := fun w' h => X0.out.below h (Nat.le_refl _)
  have B0 : Below w.heap.size w w := Below.refl _ _
  go_wp2_with (go_at_call 9; refine (HSH.out).mono ?_)
  first | rintro e v1 rfl hb1 | rintro e v1 ⟨rfl, hb1⟩
  have K1 : Hid (∀ w', Below v1.heap.size v1 w' → Lab.At p ls w') := fun w' h => (K0.out w' (hb1.trans (h.mono hb1.size)))
  have B1 := below_next B0 hb1
  clear K0 B0 hb1
  clear HSH X0
  go_wp2_with (go_at_call 10; refine (HLN.out _ ((K1.out _ (Below.refl _ v1)))).mono ?_)
  first | rintro e v2 g cap rfl hO hb2 | rintro e v2 ⟨⟨g, cap, rfl, hO⟩, hb2⟩
  have HhO2 := Lib.hid hO
  clear hO
  have K2 : Hid (∀ w', Below v2.heap.size v2 w' → Lab.At p ls w' ∧ OwnLabels v1.heap.size (.slice (some ⟨g, 0, none⟩) (n + 3) cap) (ls ++ Mark.some 3) w') := fun w' h => ⟨(K1.out w' (hb2.trans (h.mono hb2.size))), HhO2.out.below h (Nat.le_refl _)⟩
  have B2 := below_next B1 hb2
  clear K1 B1 hb2
  clear HhO2 HLN
  go_wp2_with (go_at_call 11; refine (HC1.out _ cap _ (((K2.out _ (Below.refl _ v2)).2).at.take)).mono ?_)
  first | rintro e v3 rfl hb3 | rintro e v3 ⟨rfl, hb3⟩
  have K3 : Hid (∀ w', Below v3.heap.size v3 w' → Lab.At p ls w' ∧ OwnLabels v1.heap.size (.slice (some ⟨g, 0, none⟩) (n + 3) cap) (ls ++ Mark.some 3) w') := fun w' h => ⟨(K2.out w' (hb3.trans (h.mono hb3.size))).1, (K2.out w' (hb3.trans (h.mono hb3.size))).2⟩
  have B3 := below_next B2 hb3
  clear K2 B2 hb3
  clear HC1
  go_wp2_with (go_at_call 12; refine (HC2.out _ ((K3.out _ (Below.refl _ v3)).1)).mono ?_)
  first | rintro e v4 rfl hb4 | rintro e v4 ⟨rfl, hb4⟩
  have K4 : Hid (∀ w', Below v4.heap.size v4 w' → Lab.At p ls w' ∧ OwnLabels v1.heap.size (.slice (some ⟨g, 0, none⟩) (n + 3) cap) (ls ++ Mark.some 3) w') := fun w' h => ⟨(K3.out w' (hb4.trans (h.mono hb4.size))).1, (K3.out w' (hb4.trans (h.mono hb4.size))).2⟩
  have B4 := below_next B3 hb4
  clear K3 B3 hb4
  clear HC2
  have KJ := K4
  have HBJ := Lib.hid B4
  have hbz : Below v4.heap.size v4 v4 := Below.refl _ _
  have K5 : Hid (∀ w', Below v4.heap.size v4 w' → Lab.At p ls w' ∧ OwnLabels v1.heap.size (.slice (some ⟨g, 0, none⟩) (n + 3) cap) (ls ++ Mark.some 3) w' ∧ Below v4.heap.size v4 w') := fun w' h => ⟨(K4.out w' (hbz.trans (h.mono hbz.size))).1, (K4.out w' (hbz.trans (h.mono hbz.size))).2, h⟩
  have B5 := below_next B4 hbz
  clear K4 B4 hbz
  go_wp2_with (go_at_call 13; refine (HO1.out _ cap _ (((K5.out _ (Below.refl _ v4)).2.1).at.take)).mono ?_)
  first | rintro e v6 vo rfl hv hb6 | rintro e v6 ⟨⟨vo, rfl, hv⟩, hb6⟩
  have Hhv6 := Lib.hid hv
  clear hv
  have K6 : Hid (∀ w', Below v6.heap.size v6 w' → Lab.At p ls w' ∧ OwnLabels v1.heap.size (.slice (some ⟨g, 0, none⟩) (n + 3) cap) (ls ++ Mark.some 3) w' ∧ Below v4.heap.size v4 w' ∧ OwnLabels v4.heap.size vo r w') := fun w' h => ⟨(K5.out w' (hb6.trans (h.mono hb6.size))).1, (K5.out w' (hb6.trans (h.mono hb6.size))).2.1, (K5.out w' (hb6.trans (h.mono hb6.size))).2.2, Hhv6.out.below h (Nat.le_refl _)⟩
  have B6 := below_next B5 hb6
  clear K5 B5 hb6
  clear Hhv6 HO1
  go_wp2_with (go_at_call 14; refine (HO2.out _ ((K6.out _ (Below.refl _ v6)).1)).mono ?_)
  first | rintro e v7 pw cw rfl hA hb7 | rintro e v7 ⟨⟨pw, cw, rfl, hA⟩, hb7⟩
  have HhA7 := Lib.hid hA
  clear hA
  have K7 : Hid (∀ w', Below v7.heap.size v7 w' → Lab.At p ls w' ∧ OwnLabels v1.heap.size (.slice (some ⟨g, 0, none⟩) (n + 3) cap) (ls ++ Mark.some 3) w' ∧ Below v4.heap.size v4 w' ∧ OwnLabels v4.heap.size vo r w' ∧ Lab.At pw r w') := fun w' h => ⟨(K6.out w' (hb7.trans (h.mono hb7.size))).1, (K6.out w' (hb7.trans (h.mono hb7.size))).2.1, (K6.out w' (hb7.trans (h.mono hb7.size))).2.2.1, (K6.out w' (hb7.trans (h.mono hb7.size))).2.2.2, HhA7.out.below h (Nat.le_refl _)⟩
  have B7 := below_next B6 hb7
  clear K6 B6 hb7
  clear HhA7 HO2
  obtain ⟨po, co, hvo, _⟩ := OwnLabels.open ((K7.out _ (Below.refl _ v7)).2.2.2.1)
  rw [HLR.out] at hvo
  subst hvo
  go_wp2_with (go_at_call 15; refine (HN1.out _).mono ?_)
  try rintro _ _ ⟨rfl, rfl⟩
  go_wp2_with (go_at_call 16; refine (HN2.out _).mono ?_)
  first | rintro e v8 rfl hb8 | rintro e v8 ⟨rfl, hb8⟩
  have K8 : Hid (∀ w', Below v8.heap.size v8 w' → Lab.At p ls w' ∧ OwnLabels v1.heap.size (.slice (some ⟨g, 0, none⟩) (n + 3) cap) (ls ++ Mark.some 3) w' ∧ Below v4.heap.size v4 w' ∧ OwnLabels v4.heap.size (.slice po lr co) r w' ∧ Lab.At pw r w') := fun w' h => ⟨(K7.out w' (hb8.trans (h.mono hb8.size))).1, (K7.out w' (hb8.trans (h.mono hb8.size))).2.1, (K7.out w' (hb8.trans (h.mono hb8.size))).2.2.1, (K7.out w' (hb8.trans (h.mono hb8.size))).2.2.2.1, (K7.out w' (hb8.trans (h.mono hb8.size))).2.2.2.2⟩
  have B8 := below_next B7 hb8
  clear K7 B7 hb8
  clear HN1 HN2
  go_wp2_with (go_at_call 17; refine (HN3.out _).mono ?_)
  try rintro _ _ ⟨rfl, rfl⟩
  go_wp2_with (go_at_call 16; refine (HN4.out _).mono ?_)
  first | rintro e v9 rfl hb9 | rintro e v9 ⟨rfl, hb9⟩
  have K9 : Hid (∀ w', Below v9.heap.size v9 w' → Lab.At p ls w' ∧ OwnLabels v1.heap.size (.slice (some ⟨g, 0, none⟩) (n + 3) cap) (ls ++ Mark.some 3) w' ∧ Below v4.heap.size v4 w' ∧ OwnLabels v4.heap.size (.slice po lr co) r w' ∧ Lab.At pw r w') := fun w' h => ⟨(K8.out w' (hb9.trans (h.mono hb9.size))).1, (K8.out w' (hb9.trans (h.mono hb9.size))).2.1, (K8.out w' (hb9.trans (h.mono hb9.size))).2.2.1, (K8.out w' (hb9.trans (h.mono hb9.size))).2.2.2.1, (K8.out w' (hb9.trans (h.mono hb9.size))).2.2.2.2⟩
  have B9 := below_next B8 hb9
  clear K8 B8 hb9
  clear HN3 HN4
  go_wp2_with (go_at_call 18; refine (HN5.out _).mono ?_)
  try rintro _ _ ⟨rfl, rfl⟩
  go_wp2_with (go_at_call 19; refine (HN6.out _).mono ?_)
  first | rintro e v10 rfl hb10 | rintro e v10 ⟨rfl, hb10⟩
  have K10 : Hid (∀ w', Below v10.heap.size v10 w' → Lab.At p ls w' ∧ OwnLabels v1.heap.size (.slice (some ⟨g, 0, none⟩) (n + 3) cap) (ls ++ Mark.some 3) w' ∧ Below v4.heap.size v4 w' ∧ OwnLabels v4.heap.size (.slice po lr co) r w' ∧ Lab.At pw r w') := fun w' h => ⟨(K9.out w' (hb10.trans (h.mono hb10.size))).1, (K9.out w' (hb10.trans (h.mono hb10.size))).2.1, (K9.out w' (hb10.trans (h.mono hb10.size))).2.2.1, (K9.out w' (hb10.trans (h.mono hb10.size))).2.2.2.1, (K9.out w' (hb10.trans (h.mono hb10.size))).2.2.2.2⟩
  have B10 := below_next B9 hb10
  clear K9 B9 hb10
  clear HN5 HN6
  go_wp2_with (go_at_call 20; refine (HRT.out _ cap _ (((K10.out _ (Below.refl _ v10)).2.1).at.take)).mono ?_)
  first | rintro e v11 rfl hb11 | rintro e v11 ⟨rfl, hb11⟩
  have K11 : Hid (∀ w', Below v11.heap.size v11 w' → Lab.At p ls w' ∧ OwnLabels v1.heap.size (.slice (some ⟨g, 0, none⟩) (n + 3) cap) (ls ++ Mark.some 3) w' ∧ Below v4.heap.size v4 w' ∧ OwnLabels v4.heap.size (.slice po lr co) r w' ∧ Lab.At pw r w') := fun w' h => ⟨(K10.out w' (hb11.trans (h.mono hb11.size))).1, (K10.out w' (hb11.trans (h.mono hb11.size))).2.1, (K10.out w' (hb11.trans (h.mono hb11.size))).2.2.1, (K10.out w' (hb11.trans (h.mono hb11.size))).2.2.2.1, (K10.out w' (hb11.trans (h.mono hb11.size))).2.2.2.2⟩
  have B11 := below_next B10 hb11
  clear K10 B10 hb11
  clear HRT
  go_wp2_with (go_at_call 21; refine (HIS.out po pw co cw _ ((K11.out _ (Below.refl _ v11)).2.2.2.1).at ((K11.out _ (Below.refl _ v11)).2.2.2.2)).mono ?_)
  first | rintro e v12 rfl hb12 | rintro e v12 ⟨rfl, hb12⟩
  have K12 : Hid (∀ w', Below v12.heap.size v12 w' → Lab.At p ls w' ∧ OwnLabels v1.heap.size (.slice (some ⟨g, 0, none⟩) (n + 3) cap) (ls ++ Mark.some 3) w' ∧ Below v4.heap.size v4 w' ∧ OwnLabels v4.heap.size (.slice po lr co) r w') := fun w' h => ⟨(K11.out w' (hb12.trans (h.mono hb12.size))).1, (K11.out w' (hb12.trans (h.mono hb12.size))).2.1, (K11.out w' (hb12.trans (h.mono hb12.size))).2.2.1, (K11.out w' (hb12.trans (h.mono hb12.size))).2.2.2.1⟩
  have B12 := below_next B11 hb12
  clear K11 B11 hb12
  clear HIS
  go_wp2_with (go_at_call 22; refine (HG1.out _ cap s r0 HR0.out _ (((K12.out _ (Below.refl _ v12)).2.1).at.take)).mono ?_)
  first | rintro e v13 rfl hb13 | rintro e v13 ⟨rfl, hb13⟩
  have K13 : Hid (∀ w', Below v13.heap.size v13 w' → Lab.At p ls w' ∧ OwnLabels v1.heap.size (.slice (some ⟨g, 0, none⟩) (n + 3) cap) (ls ++ Mark.some 3) w' ∧ Below v4.heap.size v4 w' ∧ OwnLabels v4.heap.size (.slice po lr co) r w') := fun w' h => ⟨(K12.out w' (hb13.trans (h.mono hb13.size))).1, (K12.out w' (hb13.trans (h.mono hb13.size))).2.1, (K12.out w' (hb13.trans (h.mono hb13.size))).2.2.1, (K12.out w' (hb13.trans (h.mono hb13.size))).2.2.2⟩
  have B13 := below_next B12 hb13
  clear K12 B12 hb13
  go_wp2_with (go_at_call 23; refine (HG2.out s r0 HR0.out _ ((K13.out _ (Below.refl _ v13)).1)).mono ?_)
  try rintro _ _ ⟨rfl, rfl⟩
  clear HR0
  go_wp2_with fail
  go_loopw [101] (fun i wr => ∃ k : Nat, k ≤ n ∧ i = .int .i64 (k : Int) ∧ Below v13.heap.size v13 wr) (fun i _ => n - (intOf i).toNat)
  case atStart => exact ⟨0, by omega, rfl, Below.refl _ _⟩
  case round =>
    obtain ⟨k, hk, rfl, hb⟩ := hrel
    by_cases hlt : k < n
    · have m1 : (0 : Int) ≤ (k : Int) := by omega
      have m2 : (k : Int) < (n : Int) := by omega
      have hkl : k < ls.length := by rw [HN.out]; exact hlt
      obtain ⟨b1, o1, hp1, hc⟩ := ((K13.out wr hb).1).open k hkl
      have hc0 := (hc k hkl).1
      have hc1 := (hc k hkl).2
      obtain ⟨x, hx⟩ : ∃ x, ls[k] = x := ⟨_, rfl⟩
      rw [hx] at hc0 hc1
      have hbx := World.block_lt_of_cell? _ _ hc0
      obtain ⟨v, hv⟩ : ∃ v, Lab.get ls x.n = v := ⟨_, rfl⟩
      have R1 : Hid (∀ w', Below v13.heap.size v13 w' → Calls Tryz.prog 22 #[.slice (some ⟨g, 0, none⟩) n cap, .string x.n] w' fun e w'' => e = .returned (.string v) ∧ Below w'.heap.size w' w'') := fun w' h => HG1.out _ cap x.n v hv w' (((K13.out w' h).2.1).at.take)
      have R2 : Hid (∀ w', Below v13.heap.size v13 w' → Calls Tryz.prog 23 #[.slice p n c, .string x.n] w' fun e w'' => e = .returned (.string v) ∧ w' = w'') := fun w' h => HG2.out x.n v hv w' ((K13.out w' h).1)
      subst hp1
      clear hc hx hv
      go_wp2_with fail
      obtain ⟨W1, hW1⟩ : ∃ W, W = wr.alloc (.cells #[.string x.n, .string x.v] 31) := ⟨_, rfl⟩
      have a0' : W1.cell? ⟨wr.heap.size, 0, none⟩ = some (.string x.n) := by rw [hW1, Lib.cell_of_heap (alloc_new _ _)]; rfl
      have hbW : Below v13.heap.size v13 W1 := by rw [hW1]; exact hb.alloc hb.size _
      rw [← hW1]
      clear hW1 hc0 hc1
      go_region_held3 (fun w' => w'.cell? ⟨wr.heap.size, 0, none⟩ = some (.string x.n))
        (first
          | (refine cell_later hb8 ?_ (Nat.le_refl _); assumption)
          | go_keep)
        ((first
          | (go_at_call 22; refine (R1.out _ (below_drewN hbW 1)).mono ?_; rintro e w8 ⟨rfl, hb8⟩)
          | (go_at_call 23; refine (R2.out _ ((below_drewN hbW 1).trans (hb8.mono hbW.size))).mono ?_; rintro _ _ ⟨rfl, rfl⟩)))
      have hb9 := (below_drewN hbW 1).trans (hb8.mono hbW.size)
      go_wp2_with fail
      go_roundw
      case rel => exact ⟨k + 1, by omega, by go_num, hb9⟩
      case measure => simp [intOf]; omega
    · have m2 : (n : Int) ≤ (k : Int) := by omega
      clear HG1 HG2
      go_wp2_with (go_at_call 24; refine (over_is v4.heap.size po lr co wr (OwnLabels.room ((K13.out wr hb).2.2.2)) ((K13.out wr hb).2.2.1).size).mono ?_)
      first | rintro e w8 rfl ho hb8 | rintro e w8 ⟨rfl, ho, hb8⟩
      have hbJ := ((K13.out wr hb).2.2.1).trans hb8
      have hL := (KJ.out w8 hbJ).1
      have hO := (KJ.out w8 hbJ).2
      have HLL := Lib.hid hL
      have HOO := Lib.hid hO
      clear hL hO ho
      go_wp2_with (go_at_call 25; refine (HKP.out g cap v1.heap.size w8 HLL.out HOO.out).mono ?_)
      first | rintro e w9 rfl hb9 | rintro e w9 ⟨rfl, hb9⟩
      go_wp2_with fail
      go_ret
      exact ⟨rfl, ((HBJ.out.trans (hbJ.mono HBJ.out.size)).trans (hb9.mono (by have := HBJ.out.size; have := hbJ.size; omega)))⟩

end Go.Proofs.YtbilaghljlobpaaGreat
