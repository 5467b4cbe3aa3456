/- The walk of LabelMerges: the law returns true for every input. -/
import Derived.Test.YtflmojjpdmbnaaaL4Z
namespace Go.Proofs.Ytflmojjpdmbnaaa
open Go.RowKit

set_option maxHeartbeats 6400000 in
set_option maxRecDepth 100000 in
theorem walk_LabelMerges (a0 : Option Addr) (xs0 : List Lab.Sm) (len0 cap0 : Nat) (a1 : Option Addr) (xs1 : List Lab.Sm) (len1 cap1 : Nat) (w : World)
    (hlen0 : xs0.length = len0) (hAt0 : Lab.SmAt a0 xs0 w) (hFit0 : Lab.SmFit xs0) (hlc0 : len0 ≤ cap0) (hmax0 : cap0 ≤ maxLen)
    (hlen1 : xs1.length = len1) (hAt1 : Lab.SmAt a1 xs1 w) (hFit1 : Lab.SmFit xs1) (hlc1 : len1 ≤ cap1) (hmax1 : cap1 ≤ maxLen) :
    Calls Try.prog 5 #[.slice a0 len0 cap0, .slice a1 len1 cap1] w fun e w' => e = .returned (.bool true) ∧ Below w.heap.size w w' := by
  have G0 := Lab.tl_good xs0
  have G1 := Lab.tl_good xs1
  have HR0 := Lib.hid (fun n w hn hA => opened (n := n) hn (lright_is a0 xs0 len0 cap0 w hlen0 hA hFit0 hlc0 hmax0))
  have HR1 := Lib.hid (fun n w hn hA => opened (n := n) hn (lright_is a1 xs1 len1 cap1 w hlen1 hA hFit1 hlc1 hmax1))
  obtain ⟨A, hA⟩ : ∃ A, Lab.tl xs0 = A := ⟨_, rfl⟩
  obtain ⟨B, hB⟩ : ∃ B, Lab.tl xs1 = B := ⟨_, rfl⟩
  rw [hA] at HR0 G0
  rw [hB] at HR1 G1
  obtain ⟨M, m1, m2, GM, hg⟩ := Lab.merge_good A B G0 G1
  have m3 := Lab.merge_self A G0
  obtain ⟨la, hla⟩ : ∃ n, A.length = n := ⟨_, rfl⟩
  obtain ⟨lb, hlb⟩ : ∃ n, B.length = n := ⟨_, rfl⟩
  obtain ⟨lm, hlm⟩ : ∃ n, M.length = n := ⟨_, rfl⟩
  have za := G0.length
  have zb := G1.length
  have zm := GM.length
  rw [hla] at za
  rw [hlb] at zb
  rw [hlm] at zm
  have HM1 := Lib.hid (fun p q c c2 w hA hB => opened hlm (lmerge_is p q A B la c lb c2 M 0 m1 w hla hlb hA hB G0.fit G1.fit (by omega) (by omega)))
  have HM2 := Lib.hid (fun p q c c2 w hA hB => opened hlm (lset_is p q B A lb c la c2 M 0 m2 w hlb hla hA hB G1.fit G0.fit (by omega) (by omega)))
  have HM3 := Lib.hid (fun p q c c2 w hA hB => opened hla (lmerge_is p q A A la c la c2 A 0 m3 w hla hla hA hB G0.fit G0.fit (by omega) (by omega)))
  have HRT := Lib.hid (fun p c w hA => right_is p M lm c true GM.r w hlm hA GM.fit (by unfold maxLen; omega))
  have HS1 := Lib.hid (fun p1 p2 c1 c2 w hA hB => same_below p1 p2 M lm c1 c2 w hlm hA hB (by unfold maxLen; omega))
  have HS2 := Lib.hid (fun p1 p2 c1 c2 w hA hB => same_below p1 p2 A la c1 c2 w hla hA hB (by unfold maxLen; omega))
  have HGA := Lib.hid (fun p c name r h w hA => lget_is p A la c name r h w hla hA (by omega))
  have HGB := Lib.hid (fun p c name r h w hA => lget_is p B lb c name r h w hlb hA (by omega))
  have HGM := Lib.hid (fun p c name r h w hA => lget_is p M lm c name r h w hlm hA (by omega))
  have HG := Lib.hid hg
  have X0 := Lib.hid hAt0
  have X1 := Lib.hid hAt1
  have HLA := Lib.hid hla
  have HLB := Lib.hid hlb
  clear hAt0 hAt1 hlen0 hlen1 hFit0 hFit1 hlc0 hlc1 hmax0 hmax1 hA hB m1 m2 m3 hg hla hlb hlm G0 G1 GM
  go_enter Try.func5, Try.ntmps5
  go_wp2_with (go_at_call 13; refine (awake4_true _).mono ?_)
  first | rintro e v1 rfl hb1 | rintro e v1 ⟨rfl, hb1⟩
  have K1 : Hid (∀ w', Below v1.heap.size v1 w' → Lab.SmAt a0 xs0 w' ∧ Lab.SmAt a1 xs1 w') := fun w' h => ⟨X0.out.below (hb1.trans (h.mono hb1.size)) (Nat.le_refl _), X1.out.below (hb1.trans (h.mono hb1.size)) (Nat.le_refl _)⟩
  have B1 := hb1
  clear hb1 X0 X1
  go_wp2_with (go_at_call 20; refine (HR0.out _ _ HLA.out (K1.out _ (Below.refl _ v1)).1).mono ?_)
  first | rintro e v2 pa ca rfl hA hb2 | rintro e v2 ⟨⟨pa, ca, rfl, hA⟩, hb2⟩
  have HA := Lib.hid hA
  have K2 : Hid (∀ w', Below v2.heap.size v2 w' → Lab.SmAt a1 xs1 w' ∧ Lab.At pa A w') := fun w' h => ⟨(K1.out w' (hb2.trans (h.mono hb2.size))).2, HA.out.below h (Nat.le_refl _)⟩
  have B2 := below_next B1 hb2
  clear K1 B1 hb2 hA HA HR0
  go_wp2_with (go_at_call 20; refine (HR1.out _ _ HLB.out (K2.out _ (Below.refl _ v2)).1).mono ?_)
  first | rintro e v3 pb cb rfl hA hb3 | rintro e v3 ⟨⟨pb, cb, rfl, hA⟩, hb3⟩
  have HA := Lib.hid hA
  have K3 : Hid (∀ w', Below v3.heap.size v3 w' → Lab.At pa A w' ∧ Lab.At pb B w') := fun w' h => ⟨(K2.out w' (hb3.trans (h.mono hb3.size))).2, HA.out.below h (Nat.le_refl _)⟩
  have B3 := below_next B2 hb3
  clear K2 B2 hb3 hA HA HR1
  go_wp2_with (go_at_call 21; refine (HM1.out pa pb ca cb v3 (K3.out _ (Below.refl _ v3)).1 (K3.out _ (Below.refl _ v3)).2).mono ?_)
  first | rintro e v4 pm cm rfl hA hb4 | rintro e v4 ⟨⟨pm, cm, rfl, hA⟩, hb4⟩
  have HA := Lib.hid hA
  have K4 : Hid (∀ w', Below v4.heap.size v4 w' → Lab.At pa A w' ∧ Lab.At pb B w' ∧ Lab.At pm M w') := fun w' h => ⟨(K3.out w' (hb4.trans (h.mono hb4.size))).1, (K3.out w' (hb4.trans (h.mono hb4.size))).2, HA.out.below h (Nat.le_refl _)⟩
  have B4 := below_next B3 hb4
  clear K3 B3 hb4 hA HA HM1
  go_wp2_with (go_at_call 22; refine (HM2.out pb pa cb ca v4 (K4.out _ (Below.refl _ v4)).2.1 (K4.out _ (Below.refl _ v4)).1).mono ?_)
  first | rintro e v5 ps cs rfl hA hb5 | rintro e v5 ⟨⟨ps, cs, rfl, hA⟩, hb5⟩
  have HA := Lib.hid hA
  have K5 : Hid (∀ w', Below v5.heap.size v5 w' → (Lab.At pa A w' ∧ Lab.At pb B w' ∧ Lab.At pm M w') ∧ Lab.At ps M w') := fun w' h => ⟨K4.out w' (hb5.trans (h.mono hb5.size)), HA.out.below h (Nat.le_refl _)⟩
  have B5 := below_next B4 hb5
  clear K4 B4 hb5 hA HA HM2
  go_wp2_with (go_at_call 21; refine (HM3.out pa pa ca ca v5 (K5.out _ (Below.refl _ v5)).1.1 (K5.out _ (Below.refl _ v5)).1.1).mono ?_)
  first | rintro e v6 pt ct rfl hA hb6 | rintro e v6 ⟨⟨pt, ct, rfl, hA⟩, hb6⟩
  have HA := Lib.hid hA
  have K6 : Hid (∀ w', Below v6.heap.size v6 w' → ((Lab.At pa A w' ∧ Lab.At pb B w' ∧ Lab.At pm M w') ∧ Lab.At ps M w') ∧ Lab.At pt A w') := fun w' h => ⟨K5.out w' (hb6.trans (h.mono hb6.size)), HA.out.below h (Nat.le_refl _)⟩
  have B6 := below_next B5 hb6
  clear K5 B5 hb6 hA HA HM3
  go_wp2_with (go_at_call 16; refine (HRT.out pm cm v6 (K6.out _ (Below.refl _ v6)).1.1.2.2).mono ?_)
  first | rintro e v7 rfl hb7 | rintro e v7 ⟨rfl, hb7⟩
  have K7 : Hid (∀ w', Below v7.heap.size v7 w' → ((Lab.At pa A w' ∧ Lab.At pb B w' ∧ Lab.At pm M w') ∧ Lab.At ps M w') ∧ Lab.At pt A w') := fun w' h => K6.out w' (hb7.trans (h.mono hb7.size))
  have B7 := below_next B6 hb7
  clear K6 B6 hb7 HRT
  go_wp2_with (go_at_call 17; refine (HS1.out pm ps cm cs v7 (K7.out _ (Below.refl _ v7)).1.1.2.2 (K7.out _ (Below.refl _ v7)).1.2).mono ?_)
  first | rintro e v8 rfl hb8 | rintro e v8 ⟨rfl, hb8⟩
  have K8 : Hid (∀ w', Below v8.heap.size v8 w' → ((Lab.At pa A w' ∧ Lab.At pb B w' ∧ Lab.At pm M w') ∧ Lab.At ps M w') ∧ Lab.At pt A w') := fun w' h => K7.out w' (hb8.trans (h.mono hb8.size))
  have B8 := below_next B7 hb8
  clear K7 B7 hb8 HS1
  go_wp2_with (go_at_call 17; refine (HS2.out pt pa ct ca v8 (K8.out _ (Below.refl _ v8)).2 (K8.out _ (Below.refl _ v8)).1.1.1).mono ?_)
  first | rintro e v9 rfl hb9 | rintro e v9 ⟨rfl, hb9⟩
  have K9 : Hid (∀ w', Below v9.heap.size v9 w' → Lab.At pa A w' ∧ Lab.At pb B w' ∧ Lab.At pm M w') := fun w' h => (K8.out w' (hb9.trans (h.mono hb9.size))).1.1
  have B9 := below_next B8 hb9
  clear K8 B8 hb9 HS2
  go_wp2_with (go_at_call 18; refine (names_below _).mono ?_)
  first | rintro e v10 rfl hN hb10 | rintro e v10 ⟨⟨rfl, hN⟩, hb10⟩
  have HN := Lib.hid hN
  have hlt9 := lt_of_heap hN
  have K10 : Hid (∀ w', Below v10.heap.size v10 w' → (Lab.At pa A w' ∧ Lab.At pb B w' ∧ Lab.At pm M w') ∧ w'.heap[v9.heap.size]? = some (.cells Lab.nameC 9)) := fun w' h => ⟨K9.out w' (hb10.trans (h.mono hb10.size)), below_kept h HN.out hlt9⟩
  have B10 := below_next B9 hb10
  clear K9 B9 hb10 hN HN hlt9
  go_wp2_with fail
  go_loopw [81] (fun i wr => ∃ k : Nat, k ≤ 16 ∧ i = .int .i64 (k : Int) ∧ Below v10.heap.size v10 wr) (fun i _ => 16 - (intOf i).toNat)
  case atStart => exact ⟨0, by omega, rfl, Below.refl _ _⟩
  case round =>
    obtain ⟨k, hk, rfl, hb⟩ := hrel
    by_cases hlt : k < 16
    · have n1 : (0 : Int) ≤ (k : Int) := by omega
      have n2 : (k : Int) < 16 := by omega
      have c0 := Lab.name_at (K10.out wr hb).2 k hlt
      obtain ⟨s, hs⟩ : ∃ s, Lab.nameL[k]'hlt = s := ⟨_, rfl⟩
      rw [hs] at c0
      have hg := HG.out s
      obtain ⟨r, hr⟩ : ∃ r, Lab.get A s = r := ⟨_, rfl⟩
      obtain ⟨r2, hr2⟩ : ∃ r, Lab.get B s = r := ⟨_, rfl⟩
      rw [hr, hr2] at hg
      have R1 := Lib.hid (HGA.out pa ca s r hr)
      have R2 := Lib.hid (HGB.out pb cb s r2 hr2)
      by_cases he : Lab.bs r = []
      · rw [if_pos he] at hg
        have R3 := Lib.hid (HGM.out pm cm s r2 hg)
        have q : r.toList.isEmpty = true := by rw [Lab.isEmpty_iff, he]; rfl
        clear hg hr hr2 he hs
        go_wp2_with (go_at_call 19; refine (R1.out wr (K10.out wr hb).1.1).mono ?_)
        first | rintro e x1 rfl hb1 | rintro e x1 ⟨rfl, hb1⟩
        have hb1' := below_next hb hb1
        go_wp2_with (go_at_call 19; refine (R2.out x1 (K10.out x1 hb1').1.2.1).mono ?_)
        first | rintro e x2 rfl hb2 | rintro e x2 ⟨rfl, hb2⟩
        have hb2' := below_next hb1' hb2
        go_wp2_with (go_at_call 19; refine (R3.out x2 (K10.out x2 hb2').1.2.2).mono ?_)
        first | rintro e x3 rfl hb3 | rintro e x3 ⟨rfl, hb3⟩
        have hb3' := below_next hb2' hb3
        go_wp2_with fail
        go_roundw
        case rel => exact ⟨k + 1, by omega, by go_num, hb3'⟩
        case measure => simp [intOf]; omega
      · rw [if_neg he] at hg
        have R3 := Lib.hid (HGM.out pm cm s r hg)
        have q : r.toList.isEmpty = false := by rw [Lab.isEmpty_iff]; simpa using he
        clear hg hr hr2 he hs
        go_wp2_with (go_at_call 19; refine (R1.out wr (K10.out wr hb).1.1).mono ?_)
        first | rintro e x1 rfl hb1 | rintro e x1 ⟨rfl, hb1⟩
        have hb1' := below_next hb hb1
        go_wp2_with (go_at_call 19; refine (R3.out x1 (K10.out x1 hb1').1.2.2).mono ?_)
        first | rintro e x3 rfl hb3 | rintro e x3 ⟨rfl, hb3⟩
        have hb3' := below_next hb1' hb3
        go_wp2_with fail
        go_roundw
        case rel => exact ⟨k + 1, by omega, by go_num, hb3'⟩
        case measure => simp [intOf]; omega
    · have n2 : (16 : Int) ≤ (k : Int) := by omega
      go_wp2_with fail
      go_ret
      exact ⟨rfl, B10.trans (hb.mono B10.size)⟩
end Go.Proofs.Ytflmojjpdmbnaaa
