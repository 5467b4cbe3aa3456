/- The walk of LabelOrder: the law returns true for every input. (Printed by gen_ord.py.) -/
import Derived.Test.YtflmojjpdmbnaaaL4Z3
namespace Go.Proofs.Ytflmojjpdmbnaaa
open Go.RowKit

set_option maxHeartbeats 12800000 in
set_option maxRecDepth 100000 in
theorem walk_LabelOrder (a0 : Option Addr) (xs0 : List Lab.Sm) (len0 cap0 : Nat) (n1 : Int) (w : World)
    (hlen0 : xs0.length = len0) (hAt0 : Lab.SmAt a0 xs0 w) (hFit0 : Lab.SmFit xs0) (hlc0 : len0 ≤ cap0) (hmax0 : cap0 ≤ maxLen) (wn1 : (Lit.int .u8 n1).wf = true) :
    Calls Try.prog 4 #[.slice a0 len0 cap0, .int .u8 n1] w fun e w' => e = .returned (.bool true) ∧ Below w.heap.size w w' := by
  obtain ⟨tu, htu, rfl⟩ : ∃ tu : Nat, tu < 256 ∧ n1 = (tu : Int) := by
    have h1 := row.wf_u8 wn1
    exact ⟨_, h1.2, by simpa using h1.1⟩
  clear wn1
  have G := Lab.tl_good xs0
  have HMD := Lib.hid (fun w hA => lmade_form a0 xs0 len0 cap0 w hlen0 hA hFit0 hlc0 hmax0)
  have hms := Lab.made_ok xs0
  have hof := Lab.made_of xs0
  have htn := Lab.of_turned xs0
  have hmf := Lab.made_fit xs0
  have hgt : ∀ s, Lab.last s ⟨#[]⟩ (Lab.made xs0) = Lab.get (Lab.tl xs0) s := fun s => by rw [Lab.get_tl, Lab.last_get s _ hms.1]
  obtain ⟨A, hA⟩ : ∃ A, Lab.tl xs0 = A := ⟨_, rfl⟩
  obtain ⟨ms, hM⟩ : ∃ M, Lab.made xs0 = M := ⟨_, rfl⟩
  rw [hA] at G hof htn hgt
  rw [hM] at HMD hms hof htn hmf hgt
  obtain ⟨lA, hlA⟩ : ∃ n, A.length = n := ⟨_, rfl⟩
  obtain ⟨N, hN⟩ : ∃ n, ms.length = n := ⟨_, rfl⟩
  have zA := G.length
  rw [hlA] at zA
  have zN := hms.2.2
  rw [hN] at zN
  have HOF := Lib.hid (fun p c w hA => opened hlA (lof_is p ms N c A 0 hof w hN hA hmf (by omega)))
  have HOT := Lib.hid (fun k p c w hA => opened hlA (lof_is p (ms.drop k ++ ms.take k) N c A 0 (htn k) w (by rw [List.length_append, List.length_drop, List.length_take]; omega) hA (fun x hx => hmf x (by rw [List.mem_append] at hx; exact hx.elim List.mem_of_mem_drop List.mem_of_mem_take)) (by omega)))
  have HRT := Lib.hid (fun p c w hA => right_is p A lA c true G.r w hlA hA G.fit (by unfold maxLen; omega))
  have HSM := Lib.hid (fun p1 p2 c1 c2 w hA hB => same_below p1 p2 A lA c1 c2 w hlA hA hB (by unfold maxLen; omega))
  have HGT := Lib.hid (fun p c name r h w hA => lget_is p A lA c name r h w hlA hA (by omega))
  have HL := Lib.hid hgt
  have HN := Lib.hid hN
  have HC := Lib.hid (Lab.cnt_succ A)
  have HCE : Hid (Lab.cnt A 16 = lA) := by rw [← hlA]; exact Lab.cnt_all A G
  have HLE := Lib.hid (Lab.cnt_le A)
  have HLD := Lib.hid (fun s d k h => Lab.last_drop s d ms k h)
  have X0 := Lib.hid hAt0
  clear hAt0 hlen0 hFit0 hlc0 hmax0 hA hM hof htn hmf hgt hms hlA hN G
  go_enter Try.func4, Try.ntmps4
  have K0 : Hid (∀ w', Below w.heap.size w w' → Lab.SmAt a0 xs0 w') := fun w' h => X0.out.below h (Nat.le_refl _)
  have B0 : Below w.heap.size w w := Below.refl _ _
  go_wp2_with (go_at_call 13; refine (awake4_true _).mono ?_)
  first | rintro e v1 rfl hb1 | rintro e v1 ⟨rfl, hb1⟩
  have K1 : Hid (∀ w', Below v1.heap.size v1 w' → Lab.SmAt a0 xs0 w') := fun w' h => (K0.out w' (hb1.trans (h.mono hb1.size)))
  have B1 := below_next B0 hb1
  clear K0 B0 hb1
  clear X0
  go_wp2_with (go_at_call 14; refine (HMD.out _ ((K1.out _ (Below.refl _ v1)))).mono ?_)
  first | rintro e v2 pm N2 cm rfl hN2 hA hform hb2 | rintro e v2 ⟨⟨pm, N2, cm, rfl, hN2, hA, hform⟩, hb2⟩
  have HhN22 := Lib.hid hN2
  clear hN2
  have HhA2 := Lib.hid hA
  clear hA
  have Hhform2 := Lib.hid hform
  clear hform
  have K2 : Hid (∀ w', Below v2.heap.size v2 w' → Lab.At pm ms w') := fun w' h => HhA2.out.below h (Nat.le_refl _)
  have B2 := below_next B1 hb2
  clear K1 B1 hb2
  clear HhA2 HMD
  obtain rfl : N = N2 := (HhN22.out.symm.trans HN.out).symm
  clear HhN22
  go_wp2_with (go_at_call 15; refine (HOF.out pm cm v2 ((K2.out _ (Below.refl _ v2)))).mono ?_)
  first | rintro e v3 pa ca rfl hA hb3 | rintro e v3 ⟨⟨pa, ca, rfl, hA⟩, hb3⟩
  have HhA3 := Lib.hid hA
  clear hA
  have K3 : Hid (∀ w', Below v3.heap.size v3 w' → Lab.At pm ms w' ∧ Lab.At pa A w') := fun w' h => ⟨(K2.out w' (hb3.trans (h.mono hb3.size))), HhA3.out.below h (Nat.le_refl _)⟩
  have B3 := below_next B2 hb3
  clear K2 B2 hb3
  clear HhA3 HOF
  rcases Hhform2.out with ⟨rfl, rfl, rfl⟩ | ⟨gm, rfl, hN0, hNc, hcm⟩
  all_goals clear Hhform2
  case inl =>
    go_wp2_with fail
    have HZ : Hid (Lab.At (none : Option Addr) (ms.drop 0 ++ ms.take 0) w) := by
      show Lab.At _ _ _
      rw [List.length_eq_zero_iff.1 HN.out]
      exact .inl rfl
    have HZ2 : Hid (∀ w2 : World, ∀ p : Option Addr, Lab.At p (ms.drop 0 ++ ms.take 0) w2) := by
      show ∀ w2 p, Lab.At _ _ _
      intro w2 p
      rw [List.length_eq_zero_iff.1 HN.out]
      exact .inl rfl
    clear HZ
    go_region_held3 (fun _ => True) (trivial)
      (first
        | (refine step_cat_noneL 22 Try.underlying22 (by rfl) _ _ (by rfl) v3.heap.size _ [] (by rfl) (OwnLabels.made v3.drew v3.heap.size (Nat.le_refl _)) (by rfl) ?_)
        | (go_at_call 15; refine (HOT.out 0 _ _ _ (HZ2.out _ _)).mono ?_; rintro e w7 ⟨⟨p8, c8, rfl, hA8⟩, hb7⟩))
    have hb8 := below_next ((Below.refl _ v3).alloc (Nat.le_refl _) _).drew hb7
    have HA8 := Lib.hid hA8
    clear hA8 hb7
    have K4 : Hid (∀ w', Below w7.heap.size w7 w' → Lab.At (none : Option Addr) ms w' ∧ Lab.At pa A w' ∧ Lab.At p8 A w') := fun w' h => ⟨(K3.out w' (hb8.trans (h.mono hb8.size))).1, (K3.out w' (hb8.trans (h.mono hb8.size))).2, HA8.out.below h (Nat.le_refl _)⟩
    have B4 := below_next B3 hb8
    clear K3 B3 hb8
    clear HA8 HOT
    go_wp2_with (go_at_call 16; refine (HRT.out pa ca w7 ((K4.out _ (Below.refl _ w7)).2.1)).mono ?_)
    first | rintro e v5 rfl hb5 | rintro e v5 ⟨rfl, hb5⟩
    have K5 : Hid (∀ w', Below v5.heap.size v5 w' → Lab.At (none : Option Addr) ms w' ∧ Lab.At pa A w' ∧ Lab.At p8 A w') := fun w' h => ⟨(K4.out w' (hb5.trans (h.mono hb5.size))).1, (K4.out w' (hb5.trans (h.mono hb5.size))).2.1, (K4.out w' (hb5.trans (h.mono hb5.size))).2.2⟩
    have B5 := below_next B4 hb5
    clear K4 B4 hb5
    clear HRT
    go_wp2_with (go_at_call 17; refine (HSM.out pa p8 ca c8 v5 ((K5.out _ (Below.refl _ v5)).2.1) ((K5.out _ (Below.refl _ v5)).2.2)).mono ?_)
    first | rintro e v6 rfl hb6 | rintro e v6 ⟨rfl, hb6⟩
    have K6 : Hid (∀ w', Below v6.heap.size v6 w' → Lab.At (none : Option Addr) ms w' ∧ Lab.At pa A w') := fun w' h => ⟨(K5.out w' (hb6.trans (h.mono hb6.size))).1, (K5.out w' (hb6.trans (h.mono hb6.size))).2.1⟩
    have B6 := below_next B5 hb6
    clear K5 B5 hb6
    clear HSM
    go_wp2_with (go_at_call 18; refine (names_below _).mono ?_)
    first | rintro e v7 rfl hN hb7 | rintro e v7 ⟨⟨rfl, hN⟩, hb7⟩
    have HhN7 := Lib.hid hN
    clear hN
    have K7 : Hid (∀ w', Below v7.heap.size v7 w' → Lab.At (none : Option Addr) ms w' ∧ Lab.At pa A w' ∧ w'.heap[v6.heap.size]? = some (.cells Lab.nameC 9)) := fun w' h => ⟨(K6.out w' (hb7.trans (h.mono hb7.size))).1, (K6.out w' (hb7.trans (h.mono hb7.size))).2, below_kept h HhN7.out (lt_of_heap HhN7.out)⟩
    have B7 := below_next B6 hb7
    clear K6 B6 hb7
    clear HhN7
    go_wp2_with fail
    go_loopw [64, 11] (fun i q wr => ∃ k : Nat, k ≤ 16 ∧ i = .int .i64 (k : Int) ∧ q = .int .i64 (Lab.cnt A k : Int) ∧ Below v7.heap.size v7 wr) (fun i _ _ => 16 - (intOf i).toNat)
    case atStart => exact ⟨0, by omega, rfl, rfl, Below.refl _ _⟩
    case round =>
      obtain ⟨k, hk, rfl, rfl, hb⟩ := hrel
      by_cases hlt : k < 16
      · have n1 : (0 : Int) ≤ (k : Int) := by omega
        have n2 : (k : Int) < 16 := by omega
        have c0 := Lab.name_at ((K7.out wr hb).2.2) k hlt
        have hcs := HC.out k hlt
        have hle := HLE.out k
        obtain ⟨s, hs⟩ : ∃ s, Lab.nameL[k]'hlt = s := ⟨_, rfl⟩
        rw [hs] at c0 hcs
        obtain ⟨r, hr⟩ : ∃ r, Lab.get A s = r := ⟨_, rfl⟩
        rw [hr] at hcs
        have R1 := Lib.hid (HGT.out pa ca s r hr)
        have H0 : Hid (Lab.last s ⟨#[]⟩ (ms.drop 0) = r) := by rw [← hr]; exact HL.out s
        obtain ⟨be, hbe⟩ : ∃ be, (Lab.bs r).isEmpty = be := ⟨_, rfl⟩
        have q : r.toList.isEmpty = be := by rw [Lab.isEmpty_iff, hbe]
        rw [hbe] at hcs
        obtain ⟨ck, hck⟩ : ∃ ck, Lab.cnt A k = ck := ⟨_, rfl⟩
        rw [hck] at hcs hle ⊢
        have HCS := Lib.hid hcs
        obtain ⟨wo, hwo⟩ : ∃ wo : World, wo = wr := ⟨_, rfl⟩
        subst hwo
        clear hs hr hbe hcs hck
        go_wp2_with fail
        go_loopw [70, 14] (fun i d wr => ∃ (j : Nat) (s0 : ByteArray), j ≤ 0 ∧ i = .int .i64 (j : Int) ∧ d = .string s0 ∧ Hid (Lab.last s s0 (ms.drop j) = r) ∧ Below wo.heap.size wo wr) (fun i _ _ => 0 - (intOf i).toNat)
        case atStart => exact ⟨0, _, Nat.zero_le _, rfl, rfl, H0, Below.refl _ _⟩
        case round =>
          obtain ⟨j, s0, hj, rfl, rfl, HJ, hbj⟩ := hrel
          have hbV := hb.trans (hbj.mono hb.size)
          obtain rfl : j = 0 := by omega
          · have m2 : True := trivial
            have hst := HJ.out
            rw [List.drop_eq_nil_iff.2 (by rw [HN.out]; omega)] at hst
            have hst2 : s0 = r := hst
            subst hst2
            clear hst HJ H0
            go_wp2_with (go_at_call 19; refine (R1.out wr ((K7.out wr hbV).2.1)).mono ?_)
            first | rintro e x1 rfl hb1 | rintro e x1 ⟨rfl, hb1⟩
            have hb1' := below_next hbV hb1
            have i1 : (0 : Int) ≤ (ck : Int) := by omega
            have i2 : (ck : Int) ≤ 16 := by omega
            cases be
            · go_wp2_with fail
              go_roundw
              case rel => exact ⟨k + 1, by omega, by go_num, by rw [HCS.out]; go_num, hb1'⟩
              case measure => simp [intOf]; omega
            · go_wp2_with fail
              go_roundw
              case rel => exact ⟨k + 1, by omega, by go_num, by rw [HCS.out]; go_num, hb1'⟩
              case measure => simp [intOf]; omega
      · have n2 : (16 : Int) ≤ (k : Int) := by omega
        obtain rfl : k = 16 := by omega
        rw [HCE.out]
        go_wp2_with fail
        go_ret
        exact ⟨rfl, B7.trans (hb.mono B7.size)⟩
  case inr =>
    obtain ⟨k, hk⟩ : ∃ k, tu % N = k := ⟨_, rfl⟩
    have hkN : k < N := by rw [← hk]; exact Nat.mod_lt _ hN0
    have r1 : Int.tmod (tu : Int) (N : Int) = (k : Int) := by rw [Int.tmod_eq_emod_of_nonneg (by omega), ← hk]; omega
    have r2 : IntKind.i64.wrap (tu : Int) = (tu : Int) := by rw [IntKind.wrap_i64]; omega
    have r3 : (0 : Int) < (N : Int) := by omega
    have r4 : ¬ ((N : Int) = 0) := by omega
    have n1 : (0 : Int) ≤ (k : Int) := by omega
    have n2 : (k : Int) ≤ (N : Int) := by omega
    have n3 : (N : Int) ≤ (cm : Int) := by omega
    have n4 : (k : Int) ≤ (cm : Int) := by omega
    have hld : (ms.drop k).length = N - k := by rw [List.length_drop, HN.out]
    have hlt : (ms.take k).length = k := by rw [List.length_take, HN.out]; omega
    have HLD2 := Lib.hid hld
    have HLT2 := Lib.hid hlt
    clear hld hlt hk
    have HTD : Hid (∀ w', Below v3.heap.size v3 w' → (∀ i (h : i < (ms.drop k).length), w'.cell? ⟨gm, 0 + k * 2 + i * 2, none⟩ = some (.string (ms.drop k)[i].n) ∧ w'.cell? ⟨gm, 0 + k * 2 + i * 2 + 1, none⟩ = some (.string (ms.drop k)[i].v)) ∧ ∀ i (h : i < (ms.take k).length), w'.cell? ⟨gm, 0 + i * 2, none⟩ = some (.string (ms.take k)[i].n) ∧ w'.cell? ⟨gm, 0 + i * 2 + 1, none⟩ = some (.string (ms.take k)[i].v)) := by
      show ∀ w', _
      intro w' hw
      have h1 := (K3.out w' hw).1
      refine ⟨?_, Lab.at_take h1 k⟩
      rw [Nat.zero_add]
      exact Lab.at_drop h1 k
    go_wp2_with fail
    go_region_held3 (fun _ => True) (trivial)
      (first
        | (refine step_catL 22 Try.underlying22 (by rfl) _ _ (by rfl) v3.heap.size _ [] (by rfl) (OwnLabels.made v3.drew v3.heap.size (Nat.le_refl _)) (ms.drop k) gm (0 + k * 2) (N - k) (cm - k) (by first | rfl | (go_simp; omega)) HLD2.out (HTD.out _ ((Below.refl _ v3).alloc (Nat.le_refl _) _).drew).1 (by simp only [List.length_nil]; omega) (by simp) ?_; intro v5 w5 hr5 hg5
           have hb5 : Below v3.heap.size v3 w5 := ((Below.refl _ v3).alloc (Nat.le_refl _) _).drew.grown hg5 (by simp) (fun j hj => (World.ownsRow.lt (OwnLabels.made v3.drew v3.heap.size (Nat.le_refl _)) j hj).1))
        | (refine step_catP 22 Try.underlying22 (by rfl) _ _ (by rfl) v3.heap.size _ _ (by rfl) hr5 (ms.take k) gm 0 k cm (by go_simp) HLT2.out (HTD.out _ hb5).2 N (by rw [List.nil_append, HLD2.out]; omega) (by omega) hb5.size ?_; intro p6 c6 w6 hA6 hg6
           have hb6 : Below v3.heap.size v3 w6 := hb5.grown hg6 hb5.size (fun j hj => (World.ownsRow.lt hr5 j hj).1))
        | (go_at_call 15; refine (HOT.out k p6 c6 w6 hA6).mono ?_; rintro e w7 ⟨⟨p8, c8, rfl, hA8⟩, hb7⟩))
    have hb8 := below_next hb6 hb7
    have HA8 := Lib.hid hA8
    clear hA8 hb7 hb6 hb5 hr5 hg5 hg6 hA6
    have K4 : Hid (∀ w', Below w7.heap.size w7 w' → Lab.At (some ⟨gm, 0, none⟩) ms w' ∧ Lab.At pa A w' ∧ Lab.At p8 A w') := fun w' h => ⟨(K3.out w' (hb8.trans (h.mono hb8.size))).1, (K3.out w' (hb8.trans (h.mono hb8.size))).2, HA8.out.below h (Nat.le_refl _)⟩
    have B4 := below_next B3 hb8
    clear K3 B3 hb8
    clear HA8 HOT
    go_wp2_with (go_at_call 16; refine (HRT.out pa ca w7 ((K4.out _ (Below.refl _ w7)).2.1)).mono ?_)
    first | rintro e v5 rfl hb5 | rintro e v5 ⟨rfl, hb5⟩
    have K5 : Hid (∀ w', Below v5.heap.size v5 w' → Lab.At (some ⟨gm, 0, none⟩) ms w' ∧ Lab.At pa A w' ∧ Lab.At p8 A w') := fun w' h => ⟨(K4.out w' (hb5.trans (h.mono hb5.size))).1, (K4.out w' (hb5.trans (h.mono hb5.size))).2.1, (K4.out w' (hb5.trans (h.mono hb5.size))).2.2⟩
    have B5 := below_next B4 hb5
    clear K4 B4 hb5
    clear HRT
    go_wp2_with (go_at_call 17; refine (HSM.out pa p8 ca c8 v5 ((K5.out _ (Below.refl _ v5)).2.1) ((K5.out _ (Below.refl _ v5)).2.2)).mono ?_)
    first | rintro e v6 rfl hb6 | rintro e v6 ⟨rfl, hb6⟩
    have K6 : Hid (∀ w', Below v6.heap.size v6 w' → Lab.At (some ⟨gm, 0, none⟩) ms w' ∧ Lab.At pa A w') := fun w' h => ⟨(K5.out w' (hb6.trans (h.mono hb6.size))).1, (K5.out w' (hb6.trans (h.mono hb6.size))).2.1⟩
    have B6 := below_next B5 hb6
    clear K5 B5 hb6
    clear HSM
    go_wp2_with (go_at_call 18; refine (names_below _).mono ?_)
    first | rintro e v7 rfl hN hb7 | rintro e v7 ⟨⟨rfl, hN⟩, hb7⟩
    have HhN7 := Lib.hid hN
    clear hN
    have K7 : Hid (∀ w', Below v7.heap.size v7 w' → Lab.At (some ⟨gm, 0, none⟩) ms w' ∧ Lab.At pa A w' ∧ w'.heap[v6.heap.size]? = some (.cells Lab.nameC 9)) := fun w' h => ⟨(K6.out w' (hb7.trans (h.mono hb7.size))).1, (K6.out w' (hb7.trans (h.mono hb7.size))).2, below_kept h HhN7.out (lt_of_heap HhN7.out)⟩
    have B7 := below_next B6 hb7
    clear K6 B6 hb7
    clear HhN7
    go_wp2_with fail
    go_loopw [64, 11] (fun i q wr => ∃ k : Nat, k ≤ 16 ∧ i = .int .i64 (k : Int) ∧ q = .int .i64 (Lab.cnt A k : Int) ∧ Below v7.heap.size v7 wr) (fun i _ _ => 16 - (intOf i).toNat)
    case atStart => exact ⟨0, by omega, rfl, rfl, Below.refl _ _⟩
    case round =>
      obtain ⟨k, hk, rfl, rfl, hb⟩ := hrel
      by_cases hlt : k < 16
      · have n1 : (0 : Int) ≤ (k : Int) := by omega
        have n2 : (k : Int) < 16 := by omega
        have c0 := Lab.name_at ((K7.out wr hb).2.2) k hlt
        have hcs := HC.out k hlt
        have hle := HLE.out k
        obtain ⟨s, hs⟩ : ∃ s, Lab.nameL[k]'hlt = s := ⟨_, rfl⟩
        rw [hs] at c0 hcs
        obtain ⟨r, hr⟩ : ∃ r, Lab.get A s = r := ⟨_, rfl⟩
        rw [hr] at hcs
        have R1 := Lib.hid (HGT.out pa ca s r hr)
        have H0 : Hid (Lab.last s ⟨#[]⟩ (ms.drop 0) = r) := by rw [← hr]; exact HL.out s
        obtain ⟨be, hbe⟩ : ∃ be, (Lab.bs r).isEmpty = be := ⟨_, rfl⟩
        have q : r.toList.isEmpty = be := by rw [Lab.isEmpty_iff, hbe]
        rw [hbe] at hcs
        obtain ⟨ck, hck⟩ : ∃ ck, Lab.cnt A k = ck := ⟨_, rfl⟩
        rw [hck] at hcs hle ⊢
        have HCS := Lib.hid hcs
        obtain ⟨wo, hwo⟩ : ∃ wo : World, wo = wr := ⟨_, rfl⟩
        subst hwo
        clear hs hr hbe hcs hck
        go_wp2_with fail
        go_loopw [70, 14] (fun i d wr => ∃ (j : Nat) (s0 : ByteArray), j ≤ N ∧ i = .int .i64 (j : Int) ∧ d = .string s0 ∧ Hid (Lab.last s s0 (ms.drop j) = r) ∧ Below wo.heap.size wo wr) (fun i _ _ => N - (intOf i).toNat)
        case atStart => exact ⟨0, _, Nat.zero_le _, rfl, rfl, H0, Below.refl _ _⟩
        case round =>
          obtain ⟨j, s0, hj, rfl, rfl, HJ, hbj⟩ := hrel
          have hbV := hb.trans (hbj.mono hb.size)
          by_cases hjl : j < N
          · have hjm : j < ms.length := by rw [HN.out]; exact hjl
            obtain ⟨b1, o1, hp, hc⟩ := ((K7.out wr hbV).1).open j hjm
            cases hp
            have hst := HJ.out
            rw [HLD.out s s0 j hjm] at hst
            obtain ⟨x, hx⟩ : ∃ x, ms[j] = x := ⟨_, rfl⟩
            have d0 := (hc j hjm).1
            have d1 := (hc j hjm).2
            rw [hx] at d0 d1 hst
            simp only [Nat.zero_add] at d0 d1
            have hbx := World.block_lt_of_cell? _ _ d0
            obtain ⟨bq, hbq⟩ : ∃ bq, decide (Lab.bs x.n = Lab.bs s) = bq := ⟨_, rfl⟩
            have q1 : (x.n.toList == s.toList) = bq := by rw [← hbq]; exact Lab.bytes_beq _ _
            have m1 : (0 : Int) ≤ (j : Int) := by omega
            have m2 : (j : Int) < (N : Int) := by omega
            have hb2 := hbj.alloc hbj.size (.cells #[.string x.n, .string x.v] 36)
            clear hx hc HJ H0
            cases bq
            · rw [if_neg (of_decide_eq_false hbq)] at hst
              have HG := Lib.hid hst
              clear hst hbq
              go_wp2_with fail
              go_roundw
              case rel => exact ⟨j + 1, s0, by omega, by go_num, rfl, HG, hb2⟩
              case measure => simp [intOf]; omega
            · rw [if_pos (of_decide_eq_true hbq)] at hst
              have HG := Lib.hid hst
              clear hst hbq
              go_wp2_with fail
              go_roundw
              case rel => exact ⟨j + 1, x.v, by omega, by go_num, rfl, HG, hb2⟩
              case measure => simp [intOf]; omega
          · have m2 : (N : Int) ≤ (j : Int) := by omega
            have hst := HJ.out
            rw [List.drop_eq_nil_iff.2 (by rw [HN.out]; omega)] at hst
            have hst2 : s0 = r := hst
            subst hst2
            clear hst HJ H0
            go_wp2_with (go_at_call 19; refine (R1.out wr ((K7.out wr hbV).2.1)).mono ?_)
            first | rintro e x1 rfl hb1 | rintro e x1 ⟨rfl, hb1⟩
            have hb1' := below_next hbV hb1
            have i1 : (0 : Int) ≤ (ck : Int) := by omega
            have i2 : (ck : Int) ≤ 16 := by omega
            cases be
            · go_wp2_with fail
              go_roundw
              case rel => exact ⟨k + 1, by omega, by go_num, by rw [HCS.out]; go_num, hb1'⟩
              case measure => simp [intOf]; omega
            · go_wp2_with fail
              go_roundw
              case rel => exact ⟨k + 1, by omega, by go_num, by rw [HCS.out]; go_num, hb1'⟩
              case measure => simp [intOf]; omega
      · have n2 : (16 : Int) ≤ (k : Int) := by omega
        obtain rfl : k = 16 := by omega
        rw [HCE.out]
        go_wp2_with fail
        go_ret
        exact ⟨rfl, B7.trans (hb.mono B7.size)⟩
end Go.Proofs.Ytflmojjpdmbnaaa
