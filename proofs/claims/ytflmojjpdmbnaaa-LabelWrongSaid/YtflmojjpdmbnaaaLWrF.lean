/- The walk of LabelWrong: the law returns true for every input. (Printed by gen_wr.py.) -/
import Derived.Test.YtflmojjpdmbnaaaLWrI
import Derived.Deep.DeepCutAuto
namespace Go.Proofs.Ytflmojjpdmbnaaa
open Go.RowKit
set_option linter.unusedVariables false

set_option maxHeartbeats 12800000 in
set_option maxRecDepth 100000 in
theorem walk_wrF (a0 : Option Addr) (xs0 : List Lab.Sm) (len0 cap0 : Nat) (n1 n2 : Int) (w : World)
    (hlen0 : xs0.length = len0) (hAt0 : Lab.SmAt a0 xs0 w) (hFit0 : Lab.SmFit xs0) (hlc0 : len0 ≤ cap0) (hmax0 : cap0 ≤ maxLen) (wn2 : (Lit.int .u8 n2).wf = true) (hp : ∃ k : Nat, k < 256 ∧ n1 = (k : Int) ∧ k % 7 = 6) :
    Calls Try.prog 11 #[.slice a0 len0 cap0, .int .u8 n1, .int .u8 n2] w fun e w' => e = .returned (.bool true) ∧ Below w.heap.size w w' := by
  obtain ⟨wy, _, rfl, hp⟩ := hp
  obtain ⟨tu, _, rfl⟩ : ∃ k : Nat, k < 256 ∧ n2 = (k : Int) := by
    have h1 := row.wf_u8 wn2
    exact ⟨_, h1.2, by simpa using h1.1⟩
  clear wn2
  have G0 := Lab.tl_good xs0
  have HR0 := Lib.hid (fun n w hn hA => openedF (n := n) hn (lright_is a0 xs0 len0 cap0 w hlen0 hA hFit0 hlc0 hmax0))
  obtain ⟨A, hA⟩ : ∃ A, Lab.tl xs0 = A := ⟨_, rfl⟩
  rw [hA] at HR0 G0
  obtain ⟨lA, hlA⟩ : ∃ n, A.length = n := ⟨_, rfl⟩
  have zA := G0.length
  rw [hlA] at zA
  have HLA := Lib.hid hlA
  have HG0 := Lib.hid G0
  obtain ⟨k7, hk7⟩ : ∃ k, wy % 7 = k := ⟨_, rfl⟩
  rw [hk7] at hp
  have r7 : Int.tmod (wy : Int) 7 = (k7 : Int) := by rw [Int.tmod_eq_emod_of_nonneg (by omega), ← hk7]; omega
  obtain ⟨k6, hk6⟩ : ∃ k, tu % 6 = k := ⟨_, rfl⟩
  have hk6l : k6 < 6 := by omega
  have r6 : Int.tmod (tu : Int) 6 = (k6 : Int) := by rw [Int.tmod_eq_emod_of_nonneg (by omega), ← hk6]; omega
  obtain ⟨k4, hk4⟩ : ∃ k, tu % 4 = k := ⟨_, rfl⟩
  have hk4l : k4 < 4 := by omega
  have r4 : Int.tmod (tu : Int) 4 = (k4 : Int) := by rw [Int.tmod_eq_emod_of_nonneg (by omega), ← hk4]; omega
  have X0 := Lib.hid hAt0
  subst hp
  clear hAt0 hlen0 hFit0 hlc0 hmax0 hA hlA G0 hk7 hk6 hk4
  go_enter Try.func11, Try.ntmps11
  have K0 : Hid (∀ w', Below w.heap.size w w' → Lab.SmAt a0 xs0 w') := fun w' h => X0.out.below h (Nat.le_refl _)
  have B0 : Below w.heap.size w w := Below.refl _ _
  go_wp2_with (go_at_call 13; refine (awake4_true _).mono ?_)
  first | rintro e v1 rfl hb1 | rintro e v1 ⟨rfl, hb1⟩
  have K1 : Hid (∀ w', Below v1.heap.size v1 w' → Lab.SmAt a0 xs0 w') := fun w' h => (K0.out w' (hb1.trans (h.mono hb1.size)))
  have B1 := below_next B0 hb1
  clear K0 B0 hb1
  clear X0
  go_wp2_with (go_at_call 20; refine (HR0.out _ _ HLA.out ((K1.out _ (Below.refl _ v1)))).mono ?_)
  first | rintro e v2 pA cA rfl hA hform hb2 | rintro e v2 ⟨⟨pA, cA, rfl, hA, hform⟩, hb2⟩
  have HhA2 := Lib.hid hA
  clear hA
  have Hhform2 := Lib.hid hform
  clear hform
  have K2 : Hid (∀ w', Below v2.heap.size v2 w' → Lab.At pA A w') := fun w' h => HhA2.out.below h (Nat.le_refl _)
  have B2 := below_next B1 hb2
  clear K1 B1 hb2
  clear HhA2 HR0
  go_upto_region 6 with fail
  obtain ⟨W3, hW3⟩ : ∃ W, W = v2.alloc (.cells #[.slice pA lA cA] 27) := ⟨_, rfl⟩
  have hb3 : Below v2.heap.size v2 W3 := by rw [hW3]; exact (Below.refl _ _).alloc (Nat.le_refl _) _
  have HX7 : Hid (W3.heap[v2.heap.size]? = some (.cells #[.slice pA lA cA] 27)) := by
    show W3.heap[v2.heap.size]? = _
    rw [hW3]
    exact alloc_new _ _
  obtain ⟨X7, hX7⟩ : ∃ X, v2.heap.size = X := ⟨_, rfl⟩
  rw [hX7] at HX7
  rw [← hW3, hX7]
  clear hW3
  have K3 : Hid (∀ w', Below W3.heap.size W3 w' → Lab.At pA A w' ∧ w'.cell? ⟨X7, 0, none⟩ = some (.slice pA lA cA)) := fun w' h => ⟨(K2.out w' (hb3.trans (h.mono hb3.size))), cell_later h (by rw [Lib.cell_of_heap HX7.out]; rfl) (Nat.le_refl _)⟩
  have B3 := below_next B2 hb3
  clear K2 B2 hb3
  clear hX7 HX7
  go_upto_block 0 with fail
  go_cut [10] (fun _ _ => False)
  case first =>
    · have hba : Below W3.heap.size W3 (W3.alloc (.cells #[.string ⟨#[122]⟩, .string ⟨#[49]⟩] 36)) := (Below.refl _ _).alloc (Nat.le_refl _) _
      obtain ⟨W4, hW4⟩ : ∃ W, W = W3.alloc (.cells #[.string ⟨#[122]⟩, .string ⟨#[49]⟩] 36) := ⟨_, rfl⟩
      rw [← hW4] at hba ⊢
      clear hW4
      have x7 := (K3.out W4 hba).2
      go_upto_region 9 with fail
      obtain ⟨i0, hi, hz0, hz1, hz2⟩ := info_parts infoLab
      have HI := Lib.hid hi
      clear hi
      have hown0 := OwnLabels.made W4 W4.heap.size (Nat.le_refl _)
      have hA4 := ((K3.out W4 hba).1).alloc (.cells #[] 36)
      have hfm := Hhform2.out
      have HA4 := Lib.hid hA4
      have HFM := Lib.hid hfm
      have x7b : (W4.alloc (.cells #[] 36)).cell? ⟨X7, 0, none⟩ = some (.slice pA lA cA) := (K3.out _ (hba.alloc hba.size _)).2
      clear hA4 hfm
      go_wp2_with (at_builtin; refine wpList_catA rfl _ _ 22 27 Try.underlying22 Try.underlying27 rfl W4.heap.size _ _ _ [] rfl hown0 A _ _ _ rfl HLA.out HFM.out HA4.out (by simp only [List.length_nil]; omega) (by simp) ?_)
      intro v5 w5 hown5 hg5
      have hb5 : Below W4.heap.size W4 w5 := Below.grown ((Below.refl _ W4).alloc (Nat.le_refl _) _) hg5 (by simp) (fun j hj => (World.ownsRow.lt hown0 j hj).1)
      have hB5 : Below W3.heap.size W3 w5 := hba.trans (hb5.mono hba.size)
      have HO5 := Lib.hid hown5
      clear hown0 hg5 hown5
      have H0 : Hid (OwnLabels W4.heap.size v5 (A ++ Lab.ext lA 0) w5) := by
        show OwnLabels _ _ _ _
        rw [show Lab.ext lA 0 = [] from rfl, List.append_nil]
        exact HO5.out
      have HRP := Lib.hid (fun (k : Nat) (h : k ≤ 65) w => Try.strings_Repeat ⟨#[122]⟩ k w (by omega) (by show 1 * k ≤ _; omega))
      have HW4 : Hid (W3.heap.size ≤ W4.heap.size) := hba.size
      clear HO5 x7 x7b
      go_wp2_with fail
      go_loopw [11] (fun v wr => ∃ j : Nat, lA + j ≤ 65 ∧ Hid (OwnLabels W4.heap.size v (A ++ Lab.ext lA j) wr) ∧ Below W4.heap.size W4 wr ∧ v = .slice (Lab.sp v) (lA + j) (Lab.sc v)) (fun v _ => 65 - Lab.sn v)
      case atStart => exact ⟨0, by omega, H0, hb5, Lab.sp_own H0.out (by rw [List.length_append, HLA.out, Lab.ext_length])⟩
      case round =>
        obtain ⟨j, hj, HO, hbr, hv⟩ := hrel
        obtain ⟨pv, hpv⟩ : ∃ p, Lab.sp u11 = p := ⟨_, rfl⟩
        obtain ⟨cv, hcv⟩ : ∃ p, Lab.sc u11 = p := ⟨_, rfl⟩
        rw [hpv, hcv] at hv
        clear hpv hcv
        subst hv
        by_cases hlt : lA + j < 65
        · have n1 : ((lA + j : Nat) : Int) < 65 := by omega
          have n1' : (lA : Int) + (j : Int) < 65 := by omega
          have HR := Lib.hid (HRP.out (lA + j) (by omega))
          obtain ⟨R, hR⟩ : ∃ R, ByteArray.mk (Lib.repeatL (ByteArray.mk #[122]).data.toList (lA + j)).toArray = R := ⟨_, rfl⟩
          rw [hR] at HR
          obtain ⟨nm, hnm⟩ : ∃ nm, (⟨#[122, 122]⟩ : ByteArray) ++ R = nm := ⟨_, rfl⟩
          have hzz : Lab.zz (lA + j) = ⟨nm, ⟨#[49]⟩⟩ := by rw [← hnm, ← hR]; rfl
          have HZ := Lib.hid hzz
          have hrz : R.size ≤ 65 := by
            rw [← hR]
            show (Lib.repeatL [122] (lA + j)).toArray.size ≤ 65
            rw [Lab.rep_z, List.size_toArray, List.length_replicate]
            omega
          clear hR hzz
          go_wp2_with (go_at_call 30; refine (HR.out _).mono ?_)
          first | rintro e w6 rfl hb6 | rintro e w6 ⟨rfl, hb6⟩
          have HO6 := Lib.hid (HO.out.below hb6 (Nat.le_refl _))
          have hB6 := hbr.trans (hb6.mono hbr.size)
          have hO6 := HO6.out
          clear HR hb6
          go_wp2_with (at_builtin; refine wpList_pushL 22 Try.underlying22 rfl _ _ rfl _ _ _ _ rfl hO6 ⟨nm, ⟨#[49]⟩⟩ _ _ rfl _ rfl (by simp) ?c1 ?c2 ?_)
          case c1 => rw [List.length_append, Lab.ext_length, HLA.out]; omega
          case c2 => exact hB6.size
          intro v7 w7 hown7 hg7
          have hB7 := below_push _ hB6 hO6 hg7
          have HO7 : Hid (OwnLabels W4.heap.size v7 (A ++ Lab.ext lA (j + 1)) w7) := by
            show OwnLabels _ _ _ _
            rw [Lab.ext_succ, HZ.out]
            exact hown7
          clear hown7 hg7 hO6 hnm
          go_wp2_with fail
          go_roundw
          case rel => exact ⟨j + 1, by omega, HO7, hB7, Lab.sp_own HO7.out (by rw [List.length_append, HLA.out, Lab.ext_length])⟩
          case measure =>
            rw [Lab.sp_own HO7.out (show _ = lA + (j + 1) by rw [List.length_append, HLA.out, Lab.ext_length])]
            show 65 - (lA + (j + 1)) < 65 - (lA + j)
            omega
        · have hmo := Lab.many_ok A HG0.out j (by rw [HLA.out]; omega)
          rw [HLA.out] at hmo
          have hLl : (A ++ Lab.ext lA j).length = 65 := by rw [List.length_append, HLA.out, Lab.ext_length]; omega
          have hLd : (A ++ Lab.ext lA j).drop lA = Lab.ext lA j := by rw [← HLA.out]; exact List.drop_left
          have e65 : lA + j = 65 := by omega
          have hO := HO.out
          rw [e65] at hO ⊢
          have hfo : ∃ g, pv = some ⟨g, 0, none⟩ ∧ 65 ≤ cv := by
            obtain ⟨g, cap, e, _, _, h3, _⟩ := OwnLabels.form hO (by omega)
            simp only [Value.slice.injEq] at e
            exact ⟨g, e.1, by rw [e.2.2]; omega⟩
          obtain ⟨g, rfl, hcv65⟩ := hfo
          have hxl := Lab.ext_length lA j
          have hfx : Lab.Fit maxLen (Lab.ext lA j) := Lab.fit_of_one fun x hx => hmo.2.2.2.2 x (List.mem_append_right _ hx)
          obtain ⟨X, hX⟩ : ∃ X, Lab.ext lA j = X := ⟨_, rfl⟩
          rw [hX] at hmo hLl hLd hxl hfx hO
          obtain ⟨L, hL⟩ : ∃ L, A ++ X = L := ⟨_, rfl⟩
          rw [hL] at hmo hLl hLd hO
          have hfl : Lab.Fit maxLen L := Lab.fit_of_one hmo.2.2.2.2
          have hHL := hO.at
          have HL := Lib.hid hHL
          have HCK := Lib.hid (fun p c w hA => check_is p L 65 c w hLl hA hfl (by unfold maxLen; omega) (-1) 5 hmo.1)
          have HOF := Lib.hid (fun p c w hA => opened (n := 0) rfl (lof_is p L 65 c [] 5 hmo.2.1 w hLl hA hfl (by omega)))
          have HMG := Lib.hid (fun p c w hA => opened (n := 0) rfl (lmerge_is p none L [] 65 c 0 0 [] 44 (by unfold Lab.merge; rw [hmo.2.2.1]; rfl) w hLl rfl hA (.inl rfl) hfl (fun x hx => by simp at hx) (by omega) (by omega)))
          have HST := Lib.hid (fun p q c c2 w hA hB => opened (n := 0) rfl (lset_is p q A X lA c j c2 [] 5 hmo.2.2.2.1 w HLA.out hxl hA hB HG0.out.fit hfx (by omega) (by omega)))
          have HLD := Lib.hid hLd
          have n2 : ((65 : Nat) : Int) = 65 := rfl
          have n3 : (lA : Int) ≤ 65 := by omega
          have n4 : (65 : Int) ≤ (cv : Int) := by omega
          have n5 : (0 : Int) ≤ (lA : Int) := by omega
          have HJ : Hid (65 - lA = j) := by show _ = _; omega
          have hcne : ¬ cv = lA := by omega
          have hbW : Below W3.heap.size W3 wr := hba.trans (hbr.mono hba.size)
          clear hmo hLl hLd hO hX hL hfl hHL HO hxl hfx n2 e65
          have K60 : Hid (∀ w', Below wr.heap.size wr w' → Lab.At (some ⟨g, 0, none⟩) L w' ∧ Lab.At pA A w' ∧ w'.cell? ⟨X7, 0, none⟩ = some (.slice pA lA cA)) := fun w' h => ⟨HL.out.below h (Nat.le_refl _), (K3.out w' (hbW.trans (h.mono hbW.size))).1, (K3.out w' (hbW.trans (h.mono hbW.size))).2⟩
          have B60 := hbW
          clear HL hbW hbr
          go_wp2_with (go_at_call 31; refine (HCK.out _ cv wr ((K60.out _ (Below.refl _ wr)).1)).mono ?_)
          first | rintro e v61 rfl hb61 | rintro e v61 ⟨rfl, hb61⟩
          have K61 : Hid (∀ w', Below v61.heap.size v61 w' → Lab.At (some ⟨g, 0, none⟩) L w' ∧ Lab.At pA A w' ∧ w'.cell? ⟨X7, 0, none⟩ = some (.slice pA lA cA)) := fun w' h => ⟨(K60.out w' (hb61.trans (h.mono hb61.size))).1, (K60.out w' (hb61.trans (h.mono hb61.size))).2.1, (K60.out w' (hb61.trans (h.mono hb61.size))).2.2⟩
          have B61 := below_next B60 hb61
          clear K60 B60 hb61
          clear HCK
          go_wp2_with (go_at_call 15; refine (HOF.out _ cv _ ((K61.out _ (Below.refl _ v61)).1)).mono ?_)
          first | rintro e v62 p3 c3 rfl hA hb62 | rintro e v62 ⟨⟨p3, c3, rfl, hA⟩, hb62⟩
          have HhA62 := Lib.hid hA
          clear hA
          have K62 : Hid (∀ w', Below v62.heap.size v62 w' → Lab.At (some ⟨g, 0, none⟩) L w' ∧ Lab.At pA A w' ∧ w'.cell? ⟨X7, 0, none⟩ = some (.slice pA lA cA)) := fun w' h => ⟨(K61.out w' (hb62.trans (h.mono hb62.size))).1, (K61.out w' (hb62.trans (h.mono hb62.size))).2.1, (K61.out w' (hb62.trans (h.mono hb62.size))).2.2⟩
          have B62 := below_next B61 hb62
          clear K61 B61 hb62
          clear HOF
          go_wp2_with (go_at_call 21; refine (HMG.out _ cv _ ((K62.out _ (Below.refl _ v62)).1)).mono ?_)
          first | rintro e v63 p4 c4 rfl hA hb63 | rintro e v63 ⟨⟨p4, c4, rfl, hA⟩, hb63⟩
          have HhA63 := Lib.hid hA
          clear hA
          have K63 : Hid (∀ w', Below v63.heap.size v63 w' → Lab.At (some ⟨g, 0, none⟩) L w' ∧ Lab.At pA A w' ∧ w'.cell? ⟨X7, 0, none⟩ = some (.slice pA lA cA)) := fun w' h => ⟨(K62.out w' (hb63.trans (h.mono hb63.size))).1, (K62.out w' (hb63.trans (h.mono hb63.size))).2.1, (K62.out w' (hb63.trans (h.mono hb63.size))).2.2⟩
          have B63 := below_next B62 hb63
          clear K62 B62 hb63
          clear HMG
          go_wp2_with fail
          have x7 := (K63.out _ (Below.refl _ v63)).2.2
          have HSL : Hid (∀ n, Calls Try.prog 22 #[.slice pA lA cA, .slice (some ⟨g, lA * 2, none⟩) j (cv - lA)] (v63.drewN n) fun e w' => (∃ p c, e = .returned (.tuple #[.slice p 0 c, .int .i64 5]) ∧ Lab.At p [] w') ∧ Below (v63.drewN n).heap.size (v63.drewN n) w') := fun n => HST.out pA _ cA _ _ ((K63.out _ (below_drewN (Below.refl _ _) n)).2.1) (Lab.at_from ((K63.out _ (below_drewN (Below.refl _ _) n)).1) X HLD.out)
          clear HST
          go_region_held3 (fun w' => w'.cell? ⟨X7, 0, none⟩ = some (.slice pA lA cA)) (first | (refine cell_later hb9 ?_ (Nat.le_refl _); assumption) | go_keep)
            ((go_at_call 22; (try rw [if_neg hcne]); rw [show 65 - lA = j from HJ.out]; (try rw [Nat.zero_add]); refine (HSL.out 1).mono ?_; rintro e w9 ⟨⟨p9, c9, rfl, hA9⟩, hb9⟩))
          have hb10 := (below_drewN (Below.refl _ v63) 1).trans (hb9.mono (Nat.le_refl _))
          go_wp2_with fail
          go_ret
          exact ⟨rfl, B3.trans ((B63.trans (hb10.mono B63.size)).mono B3.size)⟩
  case rest => exact hcut.elim
end Go.Proofs.Ytflmojjpdmbnaaa
