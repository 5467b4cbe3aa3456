/- The walk of LabelExports: the law returns true for every input. (Printed by gen_exp.py.) -/
import Derived.Test.YtflmojjpdmbnaaaL4Z3
namespace Go.Proofs.Ytflmojjpdmbnaaa
open Go.RowKit

set_option maxHeartbeats 12800000 in
set_option maxRecDepth 100000 in
theorem walk_LabelExports (a0 : Option Addr) (xs0 : List Lab.Sm) (len0 cap0 : Nat) (a1 : Option Addr) (xs1 : List Lab.Sm) (len1 cap1 : Nat) (w : World)
    (hlen0 : xs0.length = len0) (hAt0 : Lab.SmAt a0 xs0 w) (hFit0 : Lab.SmFit xs0) (hlc0 : len0 ≤ cap0) (hmax0 : cap0 ≤ maxLen)
    (hlen1 : xs1.length = len1) (hAt1 : Lab.SmAt a1 xs1 w) (hFit1 : Lab.SmFit xs1) (hlc1 : len1 ≤ cap1) (hmax1 : cap1 ≤ maxLen) :
    Calls Try.prog 6 #[.slice a0 len0 cap0, .slice a1 len1 cap1] w fun e w' => e = .returned (.bool true) ∧ Below w.heap.size w w' := by
  have G0 := Lab.tl_good xs0
  have HR0 := Lib.hid (fun n w hn hA => opened (n := n) hn (lright_is a0 xs0 len0 cap0 w hlen0 hA hFit0 hlc0 hmax0))
  obtain ⟨A, hA⟩ : ∃ A, Lab.tl xs0 = A := ⟨_, rfl⟩
  rw [hA] at HR0 G0
  obtain ⟨lA, hlA⟩ : ∃ n, A.length = n := ⟨_, rfl⟩
  have zA := G0.length
  rw [hlA] at zA
  have HLA := Lib.hid hlA
  have G1 := Lab.tl_good xs1
  have HR1 := Lib.hid (fun n w hn hA => opened (n := n) hn (lright_is a1 xs1 len1 cap1 w hlen1 hA hFit1 hlc1 hmax1))
  obtain ⟨B, hB⟩ : ∃ A, Lab.tl xs1 = A := ⟨_, rfl⟩
  rw [hB] at HR1 G1
  obtain ⟨lB, hlB⟩ : ∃ n, B.length = n := ⟨_, rfl⟩
  have zB := G1.length
  rw [hlB] at zB
  have HLB := Lib.hid hlB
  obtain ⟨e1, e2, e3, e4⟩ := Lab.export_good A B G0 G1
  obtain ⟨M, hM⟩ : ∃ M, Lab.srt (Lab.expoM A B ++ A) = M := ⟨_, rfl⟩
  rw [hM] at e1 e2 e3 e4
  obtain ⟨lM, hlM⟩ : ∃ n, M.length = n := ⟨_, rfl⟩
  have hXN := Lab.expoN_all A B
  rw [hlB] at hXN
  have zX := Lab.expoN_le A B lB
  rw [← hXN, hlM, hlA] at e3
  have HE := Lib.hid (fun p q c c2 w hA hB => opened hlM (lexport_is p q A B lA c lB c2 M 0 e1 w hlA hlB hA hB G0.fit G1.fit (by omega) (by omega)))
  have HRT := Lib.hid (fun p c w hA => right_is p M lM c true e2 w hlM hA (fun x hx => by have := (Lab.right_fit M e2).1 x hx; unfold maxLen; omega) (by unfold maxLen; omega))
  have HGM := Lib.hid (fun p c name r h w hA => lget_is p M lM c name r h w hlM hA (by omega))
  have HGA := Lib.hid (fun p c name r h w hA => lget_is p A lA c name r h w hlA hA (by omega))
  have HGB := Lib.hid (fun p c name r h w hA => lget_is p B lB c name r h w hlB hA (by omega))
  have HT1 : Hid (∀ i (h : i < A.length), Lab.get M A[i].n = A[i].v) := fun i h => e4 _ (List.mem_append_right _ (List.getElem_mem h))
  have HT2 : Hid (∀ i (h : i < B.length) (y : Lab.L), Lab.expo1 A B B[i] = some y → Lab.get M y.n = y.v) := fun i h y hy => e4 y (List.mem_append_left _ (List.mem_filterMap.2 ⟨_, List.getElem_mem h, hy⟩))
  have HFW : Hid (∀ i (h : i < B.length), Lab.expo1 A B B[i] = if Lab.bs (Lab.get A B[i].n) = [] then some B[i] else if Lab.bs (Lab.get A (Lab.expName B[i].n)) = [] then (if Lab.bs (Lab.get B (Lab.expName B[i].n)) = [] then some ⟨Lab.expName B[i].n, B[i].v⟩ else none) else none) := fun i h => Lab.expo_few A B _ (G1.f _ (List.getElem_mem h))
  have HS1 := Lib.hid (Lab.expoN_some A B)
  have HS0 := Lib.hid (Lab.expoN_none A B)
  have HLE := Lib.hid (Lab.expoN_le A B)
  have HEND : Hid (lM = lA + Lab.expoN A B lB) := e3.trans (Nat.add_comm _ _)
  have HFB : Hid (Lab.Fit 1100 B) := (Lab.right_fit B G1.r).1
  have HX0 : Hid (Lab.expoN A B 0 = 0) := rfl
  have X0 := Lib.hid hAt0
  have X1 := Lib.hid hAt1
  clear hAt0 hlen0 hFit0 hlc0 hmax0 hA hlA G0 hAt1 hlen1 hFit1 hlc1 hmax1 hB hlB G1 e1 e2 e3 e4 hM hlM hXN
  go_enter Try.func6, Try.ntmps6
  have K0 : Hid (∀ w', Below w.heap.size w w' → Lab.SmAt a0 xs0 w' ∧ Lab.SmAt a1 xs1 w') := fun w' h => ⟨X0.out.below h (Nat.le_refl _), X1.out.below h (Nat.le_refl _)⟩
  have B0 : Below w.heap.size w w := Below.refl _ _
  go_wp2_with (go_at_call 13; refine (awake4_true _).mono ?_)
  first | rintro e v1 rfl hb1 | rintro e v1 ⟨rfl, hb1⟩
  have K1 : Hid (∀ w', Below v1.heap.size v1 w' → Lab.SmAt a0 xs0 w' ∧ Lab.SmAt a1 xs1 w') := fun w' h => ⟨(K0.out w' (hb1.trans (h.mono hb1.size))).1, (K0.out w' (hb1.trans (h.mono hb1.size))).2⟩
  have B1 := below_next B0 hb1
  clear K0 B0 hb1
  clear X0 X1
  go_wp2_with (go_at_call 20; refine (HR0.out _ _ HLA.out ((K1.out _ (Below.refl _ v1)).1)).mono ?_)
  first | rintro e v2 pA cA rfl hA hb2 | rintro e v2 ⟨⟨pA, cA, rfl, hA⟩, hb2⟩
  have HhA2 := Lib.hid hA
  clear hA
  have K2 : Hid (∀ w', Below v2.heap.size v2 w' → Lab.SmAt a1 xs1 w' ∧ Lab.At pA A w') := fun w' h => ⟨(K1.out w' (hb2.trans (h.mono hb2.size))).2, HhA2.out.below h (Nat.le_refl _)⟩
  have B2 := below_next B1 hb2
  clear K1 B1 hb2
  clear HhA2 HR0
  go_wp2_with (go_at_call 20; refine (HR1.out _ _ HLB.out ((K2.out _ (Below.refl _ v2)).1)).mono ?_)
  first | rintro e v3 pB cB rfl hA hb3 | rintro e v3 ⟨⟨pB, cB, rfl, hA⟩, hb3⟩
  have HhA3 := Lib.hid hA
  clear hA
  have K3 : Hid (∀ w', Below v3.heap.size v3 w' → Lab.At pA A w' ∧ Lab.At pB B w') := fun w' h => ⟨(K2.out w' (hb3.trans (h.mono hb3.size))).2, HhA3.out.below h (Nat.le_refl _)⟩
  have B3 := below_next B2 hb3
  clear K2 B2 hb3
  clear HhA3 HR1
  go_wp2_with (go_at_call 23; refine (HE.out pA pB cA cB v3 ((K3.out _ (Below.refl _ v3)).1) ((K3.out _ (Below.refl _ v3)).2)).mono ?_)
  first | rintro e v4 pM cM rfl hA hb4 | rintro e v4 ⟨⟨pM, cM, rfl, hA⟩, hb4⟩
  have HhA4 := Lib.hid hA
  clear hA
  have K4 : Hid (∀ w', Below v4.heap.size v4 w' → Lab.At pA A w' ∧ Lab.At pB B w' ∧ Lab.At pM M w') := fun w' h => ⟨(K3.out w' (hb4.trans (h.mono hb4.size))).1, (K3.out w' (hb4.trans (h.mono hb4.size))).2, HhA4.out.below h (Nat.le_refl _)⟩
  have B4 := below_next B3 hb4
  clear K3 B3 hb4
  clear HhA4 HE
  go_wp2_with (go_at_call 16; refine (HRT.out pM cM v4 ((K4.out _ (Below.refl _ v4)).2.2)).mono ?_)
  first | rintro e v5 rfl hb5 | rintro e v5 ⟨rfl, hb5⟩
  have K5 : Hid (∀ w', Below v5.heap.size v5 w' → Lab.At pA A w' ∧ Lab.At pB B w' ∧ Lab.At pM M w') := fun w' h => ⟨(K4.out w' (hb5.trans (h.mono hb5.size))).1, (K4.out w' (hb5.trans (h.mono hb5.size))).2.1, (K4.out w' (hb5.trans (h.mono hb5.size))).2.2⟩
  have B5 := below_next B4 hb5
  clear K4 B4 hb5
  clear HRT
  go_wp2_with fail
  go_loopw [54] (fun i wr => ∃ k : Nat, k ≤ lA ∧ i = .int .i64 (k : Int) ∧ Below v5.heap.size v5 wr) (fun i _ => lA - (intOf i).toNat)
  case atStart => exact ⟨0, by omega, rfl, Below.refl _ _⟩
  case round =>
    obtain ⟨k, hk, rfl, hb⟩ := hrel
    by_cases hlt : k < lA
    · have n1 : (0 : Int) ≤ (k : Int) := by omega
      have n2 : (k : Int) < (lA : Int) := by omega
      have hkl : k < A.length := by rw [HLA.out]; exact hlt
      obtain ⟨b1, o1, rfl, hc⟩ := ((K5.out wr hb).1).open k hkl
      have hg := HT1.out k hkl
      have d0 := (hc k hkl).1
      have d1 := (hc k hkl).2
      obtain ⟨x, hx⟩ : ∃ x, A[k] = x := ⟨_, rfl⟩
      rw [hx] at d0 d1 hg
      have R1 := Lib.hid (HGM.out pM cM x.n x.v hg)
      have hbx := World.block_lt_of_cell? _ _ d0
      clear hc hx hg
      go_wp2_with fail
      obtain ⟨W1, hW1⟩ : ∃ W, W = wr.alloc (.cells #[.string x.n, .string x.v] 36) := ⟨_, rfl⟩
      have a0 : W1.cell? ⟨wr.heap.size, 0, none⟩ = some (.string x.n) := by rw [hW1, Lib.cell_of_heap (alloc_new _ _)]; rfl
      have a1 : W1.cell? ⟨wr.heap.size, 1, none⟩ = some (.string x.v) := by rw [hW1, Lib.cell_of_heap (alloc_new _ _)]; rfl
      have hbW : Below v5.heap.size v5 W1 := by rw [hW1]; exact hb.alloc hb.size _
      rw [← hW1]
      have R2 : Hid (∀ n, Calls Try.prog 19 #[.slice pM lM cM, .string x.n] (W1.drewN n) fun e w' => e = .returned (.string x.v) ∧ Below (W1.drewN n).heap.size (W1.drewN n) w') := fun n => R1.out _ ((K5.out _ (below_drewN hbW n)).2.2)
      clear hW1 d0 d1 R1
      go_region_held3 (fun w' => w'.cell? ⟨wr.heap.size, 0, none⟩ = some (.string x.n) ∧ w'.cell? ⟨wr.heap.size, 1, none⟩ = some (.string x.v))
        (first
          | (go_split_ands
             refine ⟨?_, ?_⟩ <;> (refine cell_later hb3 ?_ (Nat.le_refl _); assumption))
          | go_keep)
        ((go_at_call 19; refine (R2.out 1).mono ?_; rintro e w3 ⟨rfl, hb3⟩))
      have hb4 := (below_drewN hbW 1).trans (hb3.mono hbW.size)
      go_wp2_with fail
      go_roundw
      case rel => exact ⟨k + 1, by omega, by go_num, hb4⟩
      case measure => simp [intOf]; omega
    · have n2 : (lA : Int) ≤ (k : Int) := by omega
      clear HT1
      go_wp2_with fail
      obtain ⟨wo, hwo⟩ : ∃ wo : World, wo = wr := ⟨_, rfl⟩
      subst hwo
      go_loopw [68, 11] (fun i q wr => ∃ k : Nat, k ≤ lB ∧ i = .int .i64 (k : Int) ∧ q = .int .i64 ((lA : Int) + (Lab.expoN A B k : Int)) ∧ Below v5.heap.size v5 wr) (fun i _ _ => lB - (intOf i).toNat)
      case atStart => exact ⟨0, by omega, rfl, by rw [HX0.out]; go_num, hb⟩
      case round =>
        clear hb hk n2
        obtain ⟨k, hk, rfl, rfl, hb⟩ := hrel
        by_cases hlt : k < lB
        · have n1 : (0 : Int) ≤ (k : Int) := by omega
          have n2 : (k : Int) < (lB : Int) := by omega
          have hkl : k < B.length := by rw [HLB.out]; exact hlt
          obtain ⟨b1, o1, rfl, hc⟩ := ((K5.out wr hb).2.1).open k hkl
          have hfw := HFW.out k hkl
          have hs1 := HS1.out k hkl
          have hs0 := HS0.out k hkl
          have ht2 := HT2.out k hkl
          have hfb := HFB.out B[k] (List.getElem_mem _)
          have hle := HLE.out k
          have d0 := (hc k hkl).1
          have d1 := (hc k hkl).2
          obtain ⟨x, hx⟩ : ∃ x, B[k] = x := ⟨_, rfl⟩
          rw [hx] at d0 d1 hfw hs1 hs0 ht2 hfb
          have hbx := World.block_lt_of_cell? _ _ d0
          have hxz := hfb.1
          obtain ⟨ck, hck⟩ : ∃ ck, Lab.expoN A B k = ck := ⟨_, rfl⟩
          rw [hck] at hs1 hs0 hle ⊢
          obtain ⟨r1, hr1⟩ : ∃ r, Lab.get A x.n = r := ⟨_, rfl⟩
          obtain ⟨bq1, hbq1⟩ : ∃ b, (Lab.bs r1).isEmpty = b := ⟨_, rfl⟩
          have q1 : r1.toList.isEmpty = bq1 := by rw [Lab.isEmpty_iff, hbq1]
          have q1' : decide (r1.toList = []) = bq1 := by rw [← q1]; cases r1.toList <;> rfl
          have R1 := Lib.hid (HGA.out pA cA x.n r1 hr1)
          have i1 : (0 : Int) ≤ (ck : Int) := by omega
          have i2 : (ck : Int) ≤ 16 := by omega
          have HFW2 := Lib.hid hfw
          have HSS := Lib.hid hs1
          have HSN := Lib.hid hs0
          have HTT := Lib.hid ht2
          have HR1 := Lib.hid hr1
          have HQ1 := Lib.hid hbq1
          clear hc hx hfw hs1 hs0 ht2 hck hr1 hbq1 hfb
          go_wp2_with fail
          obtain ⟨W1, hW1⟩ : ∃ W, W = wr.alloc (.cells #[.string x.n, .string x.v] 36) := ⟨_, rfl⟩
          have a1 : W1.cell? ⟨wr.heap.size, 1, none⟩ = some (.string x.v) := by rw [hW1, Lib.cell_of_heap (alloc_new _ _)]; rfl
          have hbW : Below v5.heap.size v5 W1 := by rw [hW1]; exact hb.alloc hb.size _
          rw [← hW1]
          clear hW1 d0 d1 hb
          go_wp2_with (go_at_call 19; refine (R1.out _ ((K5.out _ hbW).1)).mono ?_)
          first | rintro e x1 rfl hb1 | rintro e x1 ⟨rfl, hb1⟩
          have a2 := cell_later hb1 a1 (Nat.le_refl _)
          have hbX := hbW.trans (hb1.mono hbW.size)
          clear R1 a1 hb1 hbW
          cases bq1
          · have hne : ¬ Lab.bs (Lab.get A x.n) = [] := by rw [HR1.out]; intro e; have := HQ1.out; rw [e] at this; cases this
            obtain ⟨nm, hnm⟩ : ∃ nm, Lab.expName x.n = nm := ⟨_, rfl⟩
            have hnz : nm.size ≤ 1109 := by rw [← hnm, Lab.exp_size]; omega
            have HNM : Hid ((⟨#[101, 120, 112, 111, 114, 116, 101, 100, 95]⟩ : ByteArray) ++ x.n = nm) := hnm
            obtain ⟨r2, hr2⟩ : ∃ r, Lab.get A nm = r := ⟨_, rfl⟩
            obtain ⟨r3, hr3⟩ : ∃ r, Lab.get B nm = r := ⟨_, rfl⟩
            obtain ⟨bq2, hbq2⟩ : ∃ b, (Lab.bs r2).isEmpty = b := ⟨_, rfl⟩
            obtain ⟨bq3, hbq3⟩ : ∃ b, (Lab.bs r3).isEmpty = b := ⟨_, rfl⟩
            have q2 : r2.toList.isEmpty = bq2 := by rw [Lab.isEmpty_iff, hbq2]
            have q2' : decide (r2.toList = []) = bq2 := by rw [← q2]; cases r2.toList <;> rfl
            have q3 : r3.toList.isEmpty = bq3 := by rw [Lab.isEmpty_iff, hbq3]
            have q3' : decide (r3.toList = []) = bq3 := by rw [← q3]; cases r3.toList <;> rfl
            have R2 := Lib.hid (HGA.out pA cA nm r2 hr2)
            have R3 := Lib.hid (HGB.out (some ⟨b1, o1, none⟩) cB nm r3 hr3)
            have hfw := HFW2.out
            rw [if_neg hne, hnm, hr2, hr3] at hfw
            have HFW3 := Lib.hid hfw
            have HQ2 := Lib.hid hbq2
            have HQ3 := Lib.hid hbq3
            clear hfw hne hnm hr2 hr3 hbq2 hbq3 HFW2 HR1 HQ1
            go_upto_region 21 with fail
            rw [HNM.out]
            clear HNM
            go_wp2_with (go_at_call 19; refine (R2.out _ ((K5.out _ hbX).1)).mono ?_)
            first | rintro e x2 rfl hb2 | rintro e x2 ⟨rfl, hb2⟩
            have a3 := cell_later hb2 a2 (Nat.le_refl _)
            have hbY := hbX.trans (hb2.mono hbX.size)
            clear R2 a2 hb2 hbX
            cases bq2
            · have hno : Lab.expo1 A B x = none := by rw [HFW3.out, if_neg (fun e => by have := HQ2.out; rw [e] at this; cases this)]
              have hcs := HSN.out hno
              have HCS := Lib.hid hcs
              clear hno hcs HFW3 HSS HSN HTT HQ2 HQ3 a3
              go_wp2_with fail
              go_roundw
              case rel => exact ⟨k + 1, by omega, by go_num, by rw [HCS.out], hbY⟩
              case measure => simp [intOf]; omega
            · have he2 : Lab.bs r2 = [] := List.isEmpty_iff.1 HQ2.out
              have hfw := HFW3.out
              rw [if_pos he2] at hfw
              have HFW4 := Lib.hid hfw
              clear he2 hfw HFW3 HQ2
              go_wp2_with (go_at_call 19; refine (R3.out _ ((K5.out _ hbY).2.1)).mono ?_)
              first | rintro e x3 rfl hb3 | rintro e x3 ⟨rfl, hb3⟩
              have a4 := cell_later hb3 a3 (Nat.le_refl _)
              have hbZ := hbY.trans (hb3.mono hbY.size)
              clear R3 a3 hb3 hbY
              cases bq3
              · have hno : Lab.expo1 A B x = none := by rw [HFW4.out, if_neg (fun e => by have := HQ3.out; rw [e] at this; cases this)]
                have hcs := HSN.out hno
                have HCS := Lib.hid hcs
                clear hno hcs HFW4 HSS HSN HTT HQ3 a4
                go_wp2_with fail
                go_roundw
                case rel => exact ⟨k + 1, by omega, by go_num, by rw [HCS.out], hbZ⟩
                case measure => simp [intOf]; omega
              · have hyes : Lab.expo1 A B x = some ⟨nm, x.v⟩ := by rw [HFW4.out, if_pos (List.isEmpty_iff.1 HQ3.out)]
                have hcs := HSS.out _ hyes
                have hgm := HTT.out _ hyes
                have HCS := Lib.hid hcs
                have R4 := Lib.hid (HGM.out pM cM nm x.v hgm)
                have R5 : Hid (∀ n, Calls Try.prog 19 #[.slice pM lM cM, .string nm] (x3.drewN n) fun e w' => e = .returned (.string x.v) ∧ Below (x3.drewN n).heap.size (x3.drewN n) w') := fun n => R4.out _ ((K5.out _ (below_drewN hbZ n)).2.2)
                clear hyes hcs hgm R4 HSS HSN HTT
                go_wp2_with fail
                go_region_held3 (fun w' => w'.cell? ⟨wr.heap.size, 1, none⟩ = some (.string x.v))
                  (first
                    | (refine cell_later hb9 ?_ (Nat.le_refl _); assumption)
                    | go_keep)
                  ((go_at_call 19; refine (R5.out 1).mono ?_; rintro e w9 ⟨rfl, hb9⟩))
                have hb10 := (below_drewN hbZ 1).trans (hb9.mono hbZ.size)
                go_wp2_with fail
                go_roundw
                case rel => exact ⟨k + 1, by omega, by go_num, by rw [HCS.out]; go_num, hb10⟩
                case measure => simp [intOf]; omega
          · have he : Lab.bs (Lab.get A x.n) = [] := by rw [HR1.out]; exact List.isEmpty_iff.1 HQ1.out
            have hyes : Lab.expo1 A B x = some x := by rw [HFW2.out, if_pos he]
            clear he
            have hcs := HSS.out _ hyes
            have hgm := HTT.out _ hyes
            have HCS := Lib.hid hcs
            have R4 := Lib.hid (HGM.out pM cM x.n x.v hgm)
            have R5 : Hid (∀ n, Calls Try.prog 19 #[.slice pM lM cM, .string x.n] (x1.drewN n) fun e w' => e = .returned (.string x.v) ∧ Below (x1.drewN n).heap.size (x1.drewN n) w') := fun n => R4.out _ ((K5.out _ (below_drewN hbX n)).2.2)
            clear hyes hcs hgm R4 HSS HSN HTT
            go_wp2_with fail
            go_region_held3 (fun w' => w'.cell? ⟨wr.heap.size, 1, none⟩ = some (.string x.v))
              (first
                | (refine cell_later hb9 ?_ (Nat.le_refl _); assumption)
                | go_keep)
              ((go_at_call 19; refine (R5.out 1).mono ?_; rintro e w9 ⟨rfl, hb9⟩))
            have hb10 := (below_drewN hbX 1).trans (hb9.mono hbX.size)
            go_wp2_with fail
            go_roundw
            case rel => exact ⟨k + 1, by omega, by go_num, by rw [HCS.out]; go_num, hb10⟩
            case measure => simp [intOf]; omega
        · have n2 : (lB : Int) ≤ (k : Int) := by omega
          obtain rfl : k = lB := by omega
          have hE := HEND.out
          obtain ⟨ck, hck⟩ : ∃ ck, Lab.expoN A B k = ck := ⟨_, rfl⟩
          rw [hck] at zX hE ⊢
          subst hE
          clear hck
          go_wp2_with fail
          go_ret
          exact ⟨rfl, B5.trans (hb.mono B5.size)⟩
end Go.Proofs.Ytflmojjpdmbnaaa
