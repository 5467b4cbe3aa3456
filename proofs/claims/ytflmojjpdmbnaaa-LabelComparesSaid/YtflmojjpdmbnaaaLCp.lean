/- The walk of LabelCompares: the law returns true for every input. (Printed by gen_cp.py.) -/
import Derived.Test.YtflmojjpdmbnaaaL4Z2
namespace Go.Proofs.Ytflmojjpdmbnaaa
open Go.RowKit

set_option maxHeartbeats 12800000 in
set_option maxRecDepth 100000 in
theorem walk_LabelCompares (a0 : Option Addr) (xs0 : List Lab.Sm) (len0 cap0 : Nat) (a1 : Option Addr) (xs1 : List Lab.Sm) (len1 cap1 : Nat) (a2 : Option Addr) (xs2 : List Lab.Sm) (len2 cap2 : Nat) (w : World)
    (hlen0 : xs0.length = len0) (hAt0 : Lab.SmAt a0 xs0 w) (hFit0 : Lab.SmFit xs0) (hlc0 : len0 ≤ cap0) (hmax0 : cap0 ≤ maxLen)
    (hlen1 : xs1.length = len1) (hAt1 : Lab.SmAt a1 xs1 w) (hFit1 : Lab.SmFit xs1) (hlc1 : len1 ≤ cap1) (hmax1 : cap1 ≤ maxLen)
    (hlen2 : xs2.length = len2) (hAt2 : Lab.SmAt a2 xs2 w) (hFit2 : Lab.SmFit xs2) (hlc2 : len2 ≤ cap2) (hmax2 : cap2 ≤ maxLen) :
    Calls Try.prog 7 #[.slice a0 len0 cap0, .slice a1 len1 cap1, .slice a2 len2 cap2] w fun e w' => e = .returned (.bool true) ∧ Below w.heap.size w w' := by
  have G0 := Lab.tl_good xs0
  have HR0 := Lib.hid (fun n w hn hA => openedC (n := n) hn (lright_is a0 xs0 len0 cap0 w hlen0 hA hFit0 hlc0 hmax0))
  obtain ⟨A, hA⟩ : ∃ A, Lab.tl xs0 = A := ⟨_, rfl⟩
  rw [hA] at HR0 G0
  obtain ⟨lA, hlA⟩ : ∃ n, A.length = n := ⟨_, rfl⟩
  have zA := G0.length
  rw [hlA] at zA
  have HLA := Lib.hid hlA
  have G1 := Lab.tl_good xs1
  have HR1 := Lib.hid (fun n w hn hA => openedC (n := n) hn (lright_is a1 xs1 len1 cap1 w hlen1 hA hFit1 hlc1 hmax1))
  obtain ⟨B, hB⟩ : ∃ A, Lab.tl xs1 = A := ⟨_, rfl⟩
  rw [hB] at HR1 G1
  obtain ⟨lB, hlB⟩ : ∃ n, B.length = n := ⟨_, rfl⟩
  have zB := G1.length
  rw [hlB] at zB
  have HLB := Lib.hid hlB
  have G2 := Lab.tl_good xs2
  have HR2 := Lib.hid (fun n w hn hA => openedC (n := n) hn (lright_is a2 xs2 len2 cap2 w hlen2 hA hFit2 hlc2 hmax2))
  obtain ⟨C, hC⟩ : ∃ A, Lab.tl xs2 = A := ⟨_, rfl⟩
  rw [hC] at HR2 G2
  obtain ⟨lC, hlC⟩ : ∃ n, C.length = n := ⟨_, rfl⟩
  have zC := G2.length
  rw [hlC] at zC
  have HLC := Lib.hid hlC
  obtain ⟨x, hx⟩ : ∃ x, Lab.cmpL A B = x := ⟨_, rfl⟩
  obtain ⟨y, hy⟩ : ∃ y, Lab.cmpL B C = y := ⟨_, rfl⟩
  obtain ⟨z, hz⟩ : ∃ z, Lab.cmpL A C = z := ⟨_, rfl⟩
  obtain ⟨r, hr⟩ : ∃ r, decide (x = 0) = r := ⟨_, rfl⟩
  obtain ⟨f1, f2, f3, f4, f5⟩ := Lab.cmp_facts A B C x y z hx hy hz
  rw [hr] at f1
  have HF1 := Lib.hid f1
  have HF2 := Lib.hid f2
  have HF3 := Lib.hid f3
  have HF4 := Lib.hid f4
  have HC1 := Lib.hid (fun p q c c2 w hA hB => lcompare_is p q A B lA c lB c2 x hx w hlA hlB hA hB (by omega))
  have HC2 := Lib.hid (fun p q c c2 w hA hB => lcompare_is p q B C lB c lC c2 y hy w hlB hlC hA hB (by omega))
  have HC3 := Lib.hid (fun p q c c2 w hA hB => lcompare_is p q A C lA c lC c2 z hz w hlA hlC hA hB (by omega))
  have HC4 := Lib.hid (fun p q c c2 w hA hB => lcompare_is p q B A lB c lA c2 (-x) f5 w hlB hlA hA hB (by omega))
  have HC5 := Lib.hid (fun p q c c2 w hA hB => lcompare_is p q A A lA c lA c2 0 (Lab.cmpL_self A) w hlA hlA hA hB (by omega))
  have HC6 := Lib.hid (fun (i : Nat) (hi : i < lA) (p : Option Addr) (c c2 : Nat) w hA hB => lcompare_is p p (A.take i) A i c lA c2 (-1) (Lab.cmpL_take A i (by omega)) w (by rw [List.length_take]; omega) hlA hA hB (by omega))
  have HSM := Lib.hid (fun p q c c2 w hA hB => same_isB p q A B lA lB c c2 r (by rw [← hr, decide_eq_true_iff, ← hx]; exact Lab.cmpL_zero A B) w hlA hlB hA hB (by unfold maxLen; omega) (by unfold maxLen; omega))
  have X0 := Lib.hid hAt0
  have X1 := Lib.hid hAt1
  have X2 := Lib.hid hAt2
  clear hAt0 hlen0 hFit0 hlc0 hmax0 hA hlA G0 hAt1 hlen1 hFit1 hlc1 hmax1 hB hlB G1 hAt2 hlen2 hFit2 hlc2 hmax2 hC hlC G2 hx hy hz hr f1 f2 f3 f4 f5
  go_enter Try.func7, Try.ntmps7
  have K0 : Hid (∀ w', Below w.heap.size w w' → Lab.SmAt a0 xs0 w' ∧ Lab.SmAt a1 xs1 w' ∧ Lab.SmAt a2 xs2 w') := fun w' h => ⟨X0.out.below h (Nat.le_refl _), X1.out.below h (Nat.le_refl _), X2.out.below h (Nat.le_refl _)⟩
  have B0 : Below w.heap.size w w := Below.refl _ _
  go_wp2_with (go_at_call 13; refine (awake4_true _).mono ?_)
  first | rintro e v1 rfl hb1 | rintro e v1 ⟨rfl, hb1⟩
  have K1 : Hid (∀ w', Below v1.heap.size v1 w' → Lab.SmAt a0 xs0 w' ∧ Lab.SmAt a1 xs1 w' ∧ Lab.SmAt a2 xs2 w') := fun w' h => ⟨(K0.out w' (hb1.trans (h.mono hb1.size))).1, (K0.out w' (hb1.trans (h.mono hb1.size))).2.1, (K0.out w' (hb1.trans (h.mono hb1.size))).2.2⟩
  have B1 := below_next B0 hb1
  clear K0 B0 hb1
  clear X0 X1 X2
  go_wp2_with (go_at_call 20; refine (HR0.out _ _ HLA.out ((K1.out _ (Below.refl _ v1)).1)).mono ?_)
  first | rintro e v2 pA cA rfl hA hcA hb2 | rintro e v2 ⟨⟨pA, cA, rfl, hA, hcA⟩, hb2⟩
  have HhA2 := Lib.hid hA
  clear hA
  have HhcA2 := Lib.hid hcA
  clear hcA
  have K2 : Hid (∀ w', Below v2.heap.size v2 w' → Lab.SmAt a1 xs1 w' ∧ Lab.SmAt a2 xs2 w' ∧ Lab.At pA A w') := fun w' h => ⟨(K1.out w' (hb2.trans (h.mono hb2.size))).2.1, (K1.out w' (hb2.trans (h.mono hb2.size))).2.2, HhA2.out.below h (Nat.le_refl _)⟩
  have B2 := below_next B1 hb2
  clear K1 B1 hb2
  clear HhA2 HR0
  go_wp2_with (go_at_call 20; refine (HR1.out _ _ HLB.out ((K2.out _ (Below.refl _ v2)).1)).mono ?_)
  first | rintro e v3 pB cB rfl hA hcB hb3 | rintro e v3 ⟨⟨pB, cB, rfl, hA, hcB⟩, hb3⟩
  have HhA3 := Lib.hid hA
  clear hA
  have HhcB3 := Lib.hid hcB
  clear hcB
  have K3 : Hid (∀ w', Below v3.heap.size v3 w' → Lab.SmAt a2 xs2 w' ∧ Lab.At pA A w' ∧ Lab.At pB B w') := fun w' h => ⟨(K2.out w' (hb3.trans (h.mono hb3.size))).2.1, (K2.out w' (hb3.trans (h.mono hb3.size))).2.2, HhA3.out.below h (Nat.le_refl _)⟩
  have B3 := below_next B2 hb3
  clear K2 B2 hb3
  clear HhA3 HR1
  go_wp2_with (go_at_call 20; refine (HR2.out _ _ HLC.out ((K3.out _ (Below.refl _ v3)).1)).mono ?_)
  first | rintro e v4 pC cC rfl hA hcC hb4 | rintro e v4 ⟨⟨pC, cC, rfl, hA, hcC⟩, hb4⟩
  have HhA4 := Lib.hid hA
  clear hA
  have HhcC4 := Lib.hid hcC
  clear hcC
  have K4 : Hid (∀ w', Below v4.heap.size v4 w' → Lab.At pA A w' ∧ Lab.At pB B w' ∧ Lab.At pC C w') := fun w' h => ⟨(K3.out w' (hb4.trans (h.mono hb4.size))).2.1, (K3.out w' (hb4.trans (h.mono hb4.size))).2.2, HhA4.out.below h (Nat.le_refl _)⟩
  have B4 := below_next B3 hb4
  clear K3 B3 hb4
  clear HhA4 HR2
  go_wp2_with (go_at_call 24; refine (HC1.out pA pB cA cB v4 ((K4.out _ (Below.refl _ v4)).1) ((K4.out _ (Below.refl _ v4)).2.1)).mono ?_)
  first | rintro e v5 rfl hb5 | rintro e v5 ⟨rfl, hb5⟩
  have K5 : Hid (∀ w', Below v5.heap.size v5 w' → Lab.At pA A w' ∧ Lab.At pB B w' ∧ Lab.At pC C w') := fun w' h => ⟨(K4.out w' (hb5.trans (h.mono hb5.size))).1, (K4.out w' (hb5.trans (h.mono hb5.size))).2.1, (K4.out w' (hb5.trans (h.mono hb5.size))).2.2⟩
  have B5 := below_next B4 hb5
  clear K4 B4 hb5
  clear HC1
  go_wp2_with (go_at_call 24; refine (HC2.out pB pC cB cC v5 ((K5.out _ (Below.refl _ v5)).2.1) ((K5.out _ (Below.refl _ v5)).2.2)).mono ?_)
  first | rintro e v6 rfl hb6 | rintro e v6 ⟨rfl, hb6⟩
  have K6 : Hid (∀ w', Below v6.heap.size v6 w' → Lab.At pA A w' ∧ Lab.At pB B w' ∧ Lab.At pC C w') := fun w' h => ⟨(K5.out w' (hb6.trans (h.mono hb6.size))).1, (K5.out w' (hb6.trans (h.mono hb6.size))).2.1, (K5.out w' (hb6.trans (h.mono hb6.size))).2.2⟩
  have B6 := below_next B5 hb6
  clear K5 B5 hb6
  clear HC2
  go_wp2_with (go_at_call 24; refine (HC3.out pA pC cA cC v6 ((K6.out _ (Below.refl _ v6)).1) ((K6.out _ (Below.refl _ v6)).2.2)).mono ?_)
  first | rintro e v7 rfl hb7 | rintro e v7 ⟨rfl, hb7⟩
  have K7 : Hid (∀ w', Below v7.heap.size v7 w' → Lab.At pA A w' ∧ Lab.At pB B w') := fun w' h => ⟨(K6.out w' (hb7.trans (h.mono hb7.size))).1, (K6.out w' (hb7.trans (h.mono hb7.size))).2.1⟩
  have B7 := below_next B6 hb7
  clear K6 B6 hb7
  clear HC3
  have F3 := HF3.out
  have F4 := HF4.out
  rcases HF1.out with ⟨rfl, rfl⟩ | ⟨rfl, rfl⟩ | ⟨rfl, rfl⟩ <;> rcases HF2.out with rfl | rfl | rfl
  all_goals
    have F5 : z ≤ 0 ∨ True := by first | exact .inl (by have := F3 (by decide) (by decide); simpa using this) | exact .inr trivial
    have F6 : 0 ≤ z ∨ True := by first | exact .inl (by have := F4 (by decide) (by decide); simpa using this) | exact .inr trivial
    clear F3 F4
    try (have F7 : z ≤ 0 := by first | (have := HF3.out (by decide) (by decide); simpa using this))
    try (have F8 : 0 ≤ z := by first | (have := HF4.out (by decide) (by decide); simpa using this))
    clear F5 F6
    go_wp2_with (go_at_call 24; refine (HC4.out pB pA cB cA v7 ((K7.out _ (Below.refl _ v7)).2) ((K7.out _ (Below.refl _ v7)).1)).mono ?_)
    first | rintro e v8 rfl hb8 | rintro e v8 ⟨rfl, hb8⟩
    have K8 : Hid (∀ w', Below v8.heap.size v8 w' → Lab.At pA A w' ∧ Lab.At pB B w') := fun w' h => ⟨(K7.out w' (hb8.trans (h.mono hb8.size))).1, (K7.out w' (hb8.trans (h.mono hb8.size))).2⟩
    have B8 := below_next B7 hb8
    clear K7 B7 hb8
    clear HC4
    go_wp2_with (go_at_call 17; refine (HSM.out pA pB cA cB v8 ((K8.out _ (Below.refl _ v8)).1) ((K8.out _ (Below.refl _ v8)).2)).mono ?_)
    first | rintro e v9 rfl hb9 | rintro e v9 ⟨rfl, hb9⟩
    have K9 : Hid (∀ w', Below v9.heap.size v9 w' → Lab.At pA A w' ∧ Lab.At pB B w') := fun w' h => ⟨(K8.out w' (hb9.trans (h.mono hb9.size))).1, (K8.out w' (hb9.trans (h.mono hb9.size))).2⟩
    have B9 := below_next B8 hb9
    clear K8 B8 hb9
    clear HSM
    go_wp2_with fail
    go_loopw [101] (fun i wr => ∃ k : Nat, k ≤ lA ∧ i = .int .i64 (k : Int) ∧ Below v9.heap.size v9 wr) (fun i _ => lA - (intOf i).toNat)
    case atStart => exact ⟨0, by omega, rfl, Below.refl _ _⟩
    case round =>
      obtain ⟨k, hk, rfl, hb⟩ := hrel
      by_cases hlt : k < lA
      · have n1 : (0 : Int) ≤ (k : Int) := by omega
        have n2 : (k : Int) < (lA : Int) := by omega
        have n3 : (k : Int) ≤ (cA : Int) := by have := HhcA2.out; omega
        obtain ⟨b, o, hp, _⟩ := (K9.out wr hb).1.open 0 (by rw [HLA.out]; omega)
        subst hp
        have HT : Hid (Lab.At (some ⟨b, o, none⟩) (A.take k) wr) := (K9.out wr hb).1.takeN k
        go_wp2_with (go_at_call 24; refine (HC6.out k hlt (some ⟨b, o, none⟩) _ cA wr HT.out (K9.out wr hb).1).mono ?_)
        first | rintro e x1 rfl hb1 | rintro e x1 ⟨rfl, hb1⟩
        have hb1' := below_next hb hb1
        go_wp2_with fail
        go_roundw
        case rel => exact ⟨k + 1, by omega, by go_num, hb1'⟩
        case measure => simp [intOf]; omega
      · have n2 : (lA : Int) ≤ (k : Int) := by omega
        go_wp2_with (go_at_call 24; refine (HC5.out pA pA cA cA wr (K9.out wr hb).1 (K9.out wr hb).1).mono ?_)
        first | rintro e x1 rfl hb1 | rintro e x1 ⟨rfl, hb1⟩
        go_wp2_with fail
        go_ret
        exact ⟨rfl, (B9.trans (hb.mono B9.size)).trans (hb1.mono (by have := B9.size; have := hb.size; omega))⟩
end Go.Proofs.Ytflmojjpdmbnaaa
