/- The walk of CanonPrints: the law returns true for every input. -/
import Derived.Test.YthnaninhbofeoaaDoorOne
import Derived.Test.YthnaninhbofeoaaDoorPrintP
import Derived.Test.YthnaninhbofeoaaDoorPrtI
namespace Go.Proofs.YthnaninhbofeoaaDoor
open Go.RowKit

theorem Lab.byte_ext {a b : ByteArray} (h : Lab.bs a = Lab.bs b) : a = b := Lab.bs_inj h
theorem Lab.cells_setV (M : List Lab.L) (i : Nat) (hi : i < M.length) (y : Lab.L) (hy : y.n = M[i].n) : (Lab.cells M).set (i * 2 + 1) (.string y.v) = Lab.cells (M.set i y) := by
  rw [← Lab.cells_set, hy]
  congr 1
  refine (List.ext_getElem (by simp) fun j h1 h2 => ?_).symm
  rw [List.getElem_set]
  split
  · rename_i h
    subst h
    have := (Lab.cells_get M i hi).1
    rw [List.getElem?_eq_getElem (by rw [Lab.cells_length]; omega)] at this
    exact (Option.some.inj this).symm
  · rfl

set_option maxHeartbeats 6400000 in
set_option maxRecDepth 100000 in
theorem prints_near (j0 : Nat) (a0 : Option Addr) (xs0 : List Lab.Sm) (n0 c0 : Nat) (wh le : Nat) (m : Int) (w : World)
    (hj0 : j0 < 256) (hn0 : xs0.length = n0) (hA0 : Lab.SmAt a0 xs0 w) (hF0 : Lab.SmFit xs0) (hl0 : n0 ≤ c0) (hm0 : c0 ≤ maxLen)
    (hwh : wh < 256) (hle : le < 256) (hm : w.cell? ⟨0, 0, none⟩ = some (.int .i64 m)) :
    Calls Tryd.prog 7 #[.agg #[.int .u8 (j0 : Int), .slice a0 n0 c0], .int .u8 (wh : Int), .int .u8 (le : Int)] w fun e w' => e = .returned (.bool true) ∧ Below w.heap.size w w' := by
  have HM0 := Lib.hid (fun w hA => omade_is j0 a0 xs0 n0 c0 w hj0 hn0 hA hF0 hl0 hm0)
  have hrA := Lab.tl_right xs0
  have hjA := Lab.job_ok (j0 % 8) (Nat.mod_lt _ (by omega))
  obtain ⟨A, hA⟩ : ∃ A, Lab.tl xs0 = A := ⟨_, rfl⟩
  obtain ⟨J, hJA⟩ : ∃ J, Lab.jobL.getD (j0 % 8) ⟨#[]⟩ = J := ⟨_, rfl⟩
  rw [hA] at HM0 hrA
  rw [hJA] at HM0 hjA
  obtain ⟨N, hN⟩ : ∃ N, A.length = N := ⟨_, rfl⟩
  obtain ⟨hfA, hlA⟩ := Lab.right_fit A hrA
  rw [hN] at hlA
  have hzA : J.size ≤ 128 := Can.job_size J hjA
  have hrl := Can.raw_bound A hrA
  have hkl : (Lab.bs J ++ [254] ++ Can.raw A).length ≤ 1000000000 := by
    have e : (Lab.bs J).length = J.size := Array.length_toList
    rw [List.length_append, List.length_append, e]
    simp only [List.length_cons, List.length_nil]
    omega
  clear hA hJA hn0 hF0 hl0 hm0
  obtain ⟨S1, hS1⟩ : ∃ S, Can.sum 14695981039346656037 (Can.raw A) = S := ⟨_, rfl⟩
  obtain ⟨S2, hS2⟩ : ∃ S, Can.sum 14695981039346656037 (Lab.bs J ++ [254] ++ Can.raw A) = S := ⟨_, rfl⟩
  have HW := Lib.hid (fun w hm => awake_true m w hm)
  have PA := Lib.hid (fun p c w hA => cprint_is p A N c _ 0 (Can.bytes_right A hrA) S1 (by rw [if_pos rfl]; exact hS1) w hN hA (Can.fit_more hfA) (by unfold maxLen; omega) (by omega))
  have KA := Lib.hid (fun p c w hA => ckeyprint_is J p A N c _ 0 (Can.key_right _ A hjA hrA) S2 (by rw [if_pos rfl]; exact hS2) w hN hA hfA (by omega) (by omega) hkl)
  have hwx : (w.alloc (.cells #[.int .u8 (j0 : Int), .slice a0 n0 c0] 43)).heap[w.heap.size]? = some (.cells #[.int .u8 (j0 : Int), .slice a0 n0 c0] 43) := alloc_new w _
  have hW0 : Below w.heap.size w (w.alloc (.cells #[.int .u8 (j0 : Int), .slice a0 n0 c0] 43)) := (Below.refl _ _).alloc (Nat.le_refl _) _
  have hz0 : (w.alloc (.cells #[.int .u8 (j0 : Int), .slice a0 n0 c0] 43)).heap.size = w.heap.size + 1 := by simp
  have hm00 := cell_later hW0 hm (Nat.le_refl _)
  have hA00 := hA0.alloc (.cells #[.int .u8 (j0 : Int), .slice a0 n0 c0] 43)
  have HR := Lib.hid hrA
  have HJ := Lib.hid hjA
  have HF := Lib.hid hfA
  have HS1 := Lib.hid hS1
  have HS2 := Lib.hid hS2
  clear hm hA0 hrl hkl hrA hjA hj0 hfA hS1 hS2
  go_enter Tryd.func7, Tryd.ntmps7
  go_wp2_with (go_at_call 9; refine (HW.out _ hm00).mono ?_)
  first | rintro e w1 rfl hb1 | rintro e w1 ⟨rfl, hb1⟩
  have b1 : Below (w.alloc (.cells #[.int .u8 (j0 : Int), .slice a0 n0 c0] 43)).heap.size (w.alloc (.cells #[.int .u8 (j0 : Int), .slice a0 n0 c0] 43)) w1 := hb1
  have hs1 := b1.size
  rw [hz0] at hs1 b1
  have hA01 := hA00.below b1 (by omega)
  obtain ⟨x0, x1⟩ := box_cell _ _ _ _ w1 _ b1 _ hwx (by omega)
  have hB1 : Below w.heap.size w w1 := hW0.trans (b1.mono (by omega))
  clear hb1 hm00 hA00 hwx
  go_wp2_with (go_at_call 15; refine (HM0.out _ hA01).mono ?_)
  first | rintro e w2 v1 rfl hv1 hb2 | rintro e w2 ⟨⟨v1, rfl, hv1⟩, hb2⟩
  obtain ⟨p1, k1, rfl, hP1, _, _⟩ := OwnLabels.open hv1
  rw [hN]
  have hB2 := below_next hB1 hb2
  have HK : Hid (∀ w', Below (w2.heap.size + 1) (w2.alloc (.cells #[.string J, .slice p1 N k1] 27)) w' → (w'.cell? ⟨w2.heap.size, 0, none⟩ = some (.string J) ∧ w'.cell? ⟨w2.heap.size, 1, none⟩ = some (.slice p1 N k1)) ∧ Lab.At p1 A w') := by
    show ∀ w', _
    intro w' h
    have q : Below w2.heap.size w2 (w2.alloc (.cells #[.string J, .slice p1 N k1] 27)) := (Below.refl _ _).alloc (Nat.le_refl _) _
    have q2 := q.trans (h.mono (Nat.le_succ _))
    exact ⟨box_cell _ _ _ _ w' _ h w2.heap.size (alloc_new w2 (.cells #[.string J, .slice p1 N k1] 27)) (by omega), hP1.below q2 (Nat.le_refl _)⟩
  have hBL : Below w.heap.size w (w2.alloc (.cells #[.string J, .slice p1 N k1] 27)) := hB2.alloc hB2.size _
  have hPP1 := hP1.alloc (.cells #[.string J, .slice p1 N k1] 27)
  clear hb2 hv1 hA01 x0 x1 hP1 HM0 hs1 hB1 hz0 hW0 b1
  go_wp2_with (go_at_call 22; refine (PA.out _ _ _ hPP1).mono ?_)
  first | rintro e w4 rfl hb4 | rintro e w4 ⟨rfl, hb4⟩
  have q4 : Below (w2.heap.size + 1) (w2.alloc (.cells #[.string J, .slice p1 N k1] 27)) w4 := by first | exact hb4 | (simpa using hb4)
  obtain ⟨⟨t0, t1⟩, lA⟩ := HK.out _ q4
  clear hb4 hPP1
  go_wp2_with (go_at_call 23; refine (KA.out _ _ _ lA).mono ?_)
  first | rintro e w5 rfl hb5 | rintro e w5 ⟨rfl, hb5⟩
  have q5 := belowChain q4 (by simp) hb5
  clear t0 t1 lA hb5 q4 PA KA
  obtain ⟨⟨t0, t1⟩, lA⟩ := HK.out _ q5
  have hzL : w.heap.size ≤ w2.heap.size := hB2.size
  have hB5 : Below w.heap.size w w5 := hBL.trans (q5.mono (by omega))
  by_cases h0 : N = 0
  · subst h0
    have hA0 : A = [] := List.length_eq_zero_iff.1 hN
    have e1 : ((S1 : Int) == 14695981039346656037) = true := by
      have := HS1.out
      rw [hA0] at this
      have h2 : S1 = 14695981039346656037 := this.symm
      simp [h2]
    go_wp2_with fail
    go_ret
    exact ⟨rfl, hB5⟩
  replace h0 : 0 < N := by omega
  have n1 : ((N : Int) == 0) = false := by simp; omega
  go_wp2_with fail
  refine wp_region_inv (by kernel_rfl) (by kernel_rfl) (fun a0 d a w' => ∃ t51 t52 t53 t54 t55 t56 t13 : Value, a = (((((((a0.put (some 51) t51).put (some 52) t52).put (some 53) t53).put (some 54) t54).put (some 55) t55).put (some 56) t56).put (some 13) t13) ∧ Prt.I w5.heap.size w5 w2.heap.size J p1 N k1 A d t51 t52 t53 t54 t55 t56 t13 w') ?h0 ?hs ?he
  case h0 => exact ⟨undef, undef, undef, undef, undef, undef, undef, (by go_frame), Prt.start _ _ _ _ _ _ _ _ _ _ _ _ _ _⟩
  case hs =>
    refine ⟨?_, ?_, ?_, ?_, ?_, ?_, ?_, ?_, trivial⟩
    · rintro d a w' hd hdep ⟨t51, t52, t53, t54, t55, t56, t13, rfl, h⟩ K hK
      rw [if_pos (by rfl)]
      go_frame
      go_simp
      exact hK _ _ ⟨.pointer (some ⟨w2.heap.size, 0, none⟩), _, _, _, _, _, _, (by go_frame), Prt.s0 h hd rfl⟩
    · rintro d a w' hd hdep ⟨t51, t52, t53, t54, t55, t56, t13, rfl, h⟩ K hK
      rw [if_pos (by rfl)]
      go_frame
      obtain rfl := h.f0 (hdep 0 (by decide))
      have hc := (HK.out w' (belowChain q5 (by simp) h.b)).1.1
      go_simp
      exact hK _ _ ⟨_, .string J, _, _, _, _, _, (by go_frame), Prt.s1 h hd rfl⟩
    · rintro d a w' hd hdep ⟨t51, t52, t53, t54, t55, t56, t13, rfl, h⟩ K hK
      rw [if_pos (by rfl)]
      go_frame
      go_simp
      exact hK _ _ ⟨_, _, .pointer (some ⟨w2.heap.size, 1, none⟩), _, _, _, _, (by go_frame), Prt.s2 h hd rfl⟩
    · rintro d a w' hd hdep ⟨t51, t52, t53, t54, t55, t56, t13, rfl, h⟩ K hK
      rw [if_pos (by rfl)]
      go_frame
      obtain rfl := h.f2 (hdep 2 (by decide))
      have hc := (HK.out w' (belowChain q5 (by simp) h.b)).1.2
      go_simp
      exact hK _ _ ⟨_, _, _, .slice p1 N k1, _, _, _, (by go_frame), Prt.s3 h hd rfl⟩
    · rintro d a w' hd hdep ⟨t51, t52, t53, t54, t55, t56, t13, rfl, h⟩ K hK
      rw [if_pos (by rfl)]
      go_frame
      obtain rfl := h.f3 (hdep 3 (by decide))
      have hc := (HK.out w' (belowChain q5 (by simp) h.b)).2
      go_simp
      refine (copy_is p1 A N k1 w' hN h0 hc (by omega)).mono ?_
      first | rintro e wx v rfl hv hbx | rintro e wx ⟨⟨v, rfl, hv⟩, hbx⟩
      obtain ⟨q, cq, rfl, _, _, _⟩ := OwnLabels.open hv
      rw [hN] at hv ⊢
      go_simp
      exact hK _ _ ⟨_, _, _, _, _, _, _, (by go_frame), Prt.s4 h (hbx.mono h.b.size) (fun g o hg => (hbx.block g (lt_of_heap hg)).trans hg) hd ⟨q, cq, rfl, row_lift hv h.b.size⟩⟩
    · rintro d a w' hd hdep ⟨t51, t52, t53, t54, t55, t56, t13, rfl, h⟩ K hK
      rw [if_pos (by rfl)]
      go_frame
      obtain rfl := h.f1 (hdep 1 (by decide))
      obtain ⟨q, cq, rfl, _⟩ := h.f4 (hdep 4 (by decide)) (h.notlast 5 (by omega) hd)
      go_simp
      exact hK _ _ ⟨_, _, _, _, _, _, _, (by go_frame), Prt.s5 h hd (hdep 4 (by decide)) rfl⟩
    · rintro d a w' hd hdep ⟨t51, t52, t53, t54, t55, t56, t13, rfl, h⟩ K hK
      rw [if_pos (by rfl)]
      go_frame
      go_simp
      exact hK _ _ ⟨_, _, _, _, _, _, .pointer (some ⟨w'.heap.size, 0, none⟩), (by go_frame), Prt.s6 h ((Below.refl _ w').alloc h.b.size _) (fun g o hg => (Below.heap_alloc _ _ _ (lt_of_heap hg)).trans hg) hd ⟨w'.heap.size, rfl, h.b.size, alloc_new _ _⟩⟩
    · rintro d a w' hd hdep ⟨t51, t52, t53, t54, t55, t56, t13, rfl, h⟩ K hK
      rw [if_pos (by rfl)]
      go_frame
      obtain ⟨G, rfl, hG, hZ⟩ := h.f6 (hdep 6 (by decide)) hd
      obtain rfl := h.f5 (hdep 5 (by decide))
      have hV := h.f4 (hdep 4 (by decide)) hd
      obtain ⟨q, cq, rfl, _⟩ := hV
      have hV := h.f4 (hdep 4 (by decide)) hd
      have z0 : w'.cell? ⟨G, 0, none⟩ = some (.string ByteArray.empty) := by rw [Lib.cell_of_heap hZ]; rfl
      have z1 : w'.cell? ⟨G, 1, none⟩ = some (.slice none 0 0) := by rw [Lib.cell_of_heap hZ]; rfl
      have z2 : w'.frozen? ⟨G, 0, none⟩ = false := by simp [World.frozen?, hZ]
      have z3 : w'.frozen? ⟨G, 1, none⟩ = false := by simp [World.frozen?, hZ]
      go_simp
      refine hK _ _ ⟨_, _, _, _, _, _, _, (by go_frame), Prt.s7 h (((Below.refl _ w').setCell hG _).setCell hG _) (fun j hj => hdep j (by revert j; decide)) ⟨G, rfl, hG, ?_, hV.far hZ _ _⟩⟩
      exact heap_setCell_same _ G 1 _ _ _ (heap_setCell_same _ G 0 _ _ _ hZ)
  case he =>
    rintro a w6 ⟨t51, t52, t53, t54, t55, t56, t13, rfl, h⟩
    obtain ⟨G, rfl, hG, hY, ⟨q, cq, rfl, hown⟩⟩ := h.f7 (by decide)
    have q6 := belowChain q5 (by simp) h.b
    have hB6 := below_next hB5 h.b
    clear t0 t1 lA
    obtain ⟨⟨t0, t1⟩, lA⟩ := HK.out _ q6
    clear h
    obtain ⟨g, cap, he, hg1, hg2, hg3, hg4⟩ := OwnLabels.form hown (by rw [hN]; exact h0)
    rw [hN] at he hg3
    simp only [Value.slice.injEq, true_and] at he
    obtain ⟨rfl, rfl⟩ := he
    have hGg : G ≠ g := by
      rcases hown.2 with ⟨e, _⟩ | ⟨g', cap', cur, e, _, hh, _⟩
      · cases e
      · simp only [Value.slice.injEq, Option.some.injEq, Addr.mk.injEq, and_true] at e
        obtain ⟨rfl, _⟩ := e
        intro e2
        subst e2
        rw [hY] at hh
        simp at hh
    have HFZ : Hid (∀ k, w6.frozen? ⟨g, k, none⟩ = false) := by
      show ∀ k, _
      rcases hown.2 with ⟨e, _⟩ | ⟨g', cap', cur, e, _, hh, _⟩
      · cases e
      · simp only [Value.slice.injEq, Option.some.injEq, Addr.mk.injEq, and_true] at e
        obtain ⟨rfl, _⟩ := e
        exact fun k => Lib.frozen_of_heap hh k
    have k0 : w6.cell? ⟨G, 0, none⟩ = some (.string J) := by rw [Lib.cell_of_heap hY]; rfl
    have k1' : w6.cell? ⟨G, 1, none⟩ = some (.slice (some ⟨g, 0, none⟩) N cq) := by rw [Lib.cell_of_heap hY]; rfl
    obtain ⟨i, hi⟩ : ∃ i, wh % N = i := ⟨_, rfl⟩
    have hiN : i < N := by rw [← hi]; exact Nat.mod_lt _ h0
    have hiA : i < A.length := by omega
    have r1 : Int.tmod (wh : Int) (N : Int) = (i : Int) := by rw [Int.tmod_eq_emod_of_nonneg (by omega), ← hi]; omega
    have hcA := (OwnLabels.at hown).cellsAt i hiA
    have hvne := (Lab.right_all A HR.out).2 A[i] (List.getElem_mem _)
    obtain ⟨x, hx⟩ : ∃ x, A[i] = x := ⟨_, rfl⟩
    rw [hx] at hcA hvne
    obtain ⟨v, hv⟩ : ∃ v, x.v = v := ⟨_, rfl⟩
    rw [hv] at hcA hvne
    have hcv := hcA.2
    have hvs : 0 < v.size := by
      rcases Nat.eq_zero_or_pos v.size with h | h
      · exact absurd (List.length_eq_zero_iff.1 (Array.length_toList.trans h)) hvne
      · exact h
    have r2 : Int.tmod (le : Int) 26 = ((le % 26 : Nat) : Int) := by rw [Int.tmod_eq_emod_of_nonneg (by omega)]; omega
    have n2 : (0 : Int) ≤ (i : Int) := by omega
    have n3 : (i : Int) < (N : Int) := by omega
    have n4 : ¬ (N : Int) = 0 := by omega
    have HC := Lib.hid (And.intro hg1 (And.intro hg2 (And.intro hg3 hg4)))
    have HI := Lib.hid (And.intro hi (And.intro hiA hx))
    clear hg1 hg2 hg3 hg4 hi hcA t0 t1
    have hfx := HF.out A[i] (List.getElem_mem _)
    rw [HI.out.2.2, hv] at hfx
    have hv11 : v.size ≤ 1100 := hfx.2
    obtain ⟨cu, hcu, hcu2⟩ : ∃ cu : UInt8, (cu.toNat : Int) = 97 + (le : Int) % 26 ∧ cu < 128 := by
      refine ⟨UInt8.ofNat (97 + le % 26), ?_, ?_⟩
      · have : (UInt8.ofNat (97 + le % 26)).toNat = 97 + le % 26 := by
          rw [UInt8.toNat_ofNat']
          omega
        rw [this]
        omega
      · rw [UInt8.lt_iff_toNat_lt, UInt8.toNat_ofNat']
        show (97 + le % 26) % 256 < 128
        omega
    go_frame
    by_cases h128 : (128 : Int) ≤ (v[0].toNat : Int)
    · go_wp2_with fail
      go_ret
      exact ⟨rfl, hB6⟩
    by_cases hq : ((v[0].toNat : Int) == 97 + (le : Int) % 26) = true
    · go_wp2_with fail
      go_ret
      exact ⟨rfl, hB6⟩
    have hq2 : ((v[0].toNat : Int) == 97 + (le : Int) % 26) = false := by simpa using hq
    clear hq
    have C0 := fun W => conv_bytes [cu] #[.int .u8 (97 + (le : Int) % 26)] (by show [Value.int .u8 (97 + (le : Int) % 26)] = [Value.int .u8 (cu.toNat : Int)]; rw [hcu]) W 1 rfl (by omega)
    have C1 : ∀ W : World, (convert 63 9 (.slice (some ⟨W.heap.size, 0, none⟩) 1 1)).run Tryd.prog (W.alloc (.cells #[.int .u8 (97 + (le : Int) % 26)] 5)).drew = .ok (.string ⟨#[cu]⟩) (W.alloc (.cells #[.int .u8 (97 + (le : Int) % 26)] 5)).drew := fun W => C0 W.drew
    clear C0
    have zc : ¬ 9223372036854775807 < 1 + (v.size - 1) := by omega
    have hfz : w6.frozen? ⟨g, i * 2 + 1, none⟩ = false := HFZ.out (i * 2 + 1)
    have lg : g < w6.heap.size := HC.out.2.1
    have n5 : (1 : Int) ≤ (v.size : Int) := by omega
    go_wp2_with fail
    have HKP : Hid (∀ V C, ((w6.setCell ⟨g, i * 2 + 1, none⟩ V).alloc C).drew.cell? ⟨G, 1, none⟩ = some (.slice (some ⟨g, 0, none⟩) N cq)) := fun V C =>
      cell_later ((Below.refl _ _).alloc (Nat.le_refl _) C).drew ((World.cell?_setCell_far _ _ _ _ (Ne.symm hGg)).trans k1') (Nat.le_refl _)
    go_region_held (fun w' => w'.cell? ⟨G, 1, none⟩ = some (.slice (some ⟨g, 0, none⟩) N cq)) (first | exact HKP.out _ _ | go_keep) (fail)
    obtain ⟨V, hVV⟩ : ∃ V, ByteArray.mk #[cu] ++ v.extract 1 v.size = V := ⟨_, rfl⟩
    rw [hVV]
    have hV2 : V = (Can.swap x cu).v := by
      rw [← hVV]
      show _ = Can.mk (cu :: (Lab.bs x.v).tail)
      rw [hv]
      refine Lab.byte_ext ?_
      simp [Lab.bs, Can.mk, ByteArray.data_append, ByteArray.data_extract]
      exact List.take_of_length_le (by rw [List.length_tail]; have e : v.data.toList.length = v.size := Array.length_toList; omega)
    obtain ⟨e1, hiA2, hx2⟩ := HI.out
    have hv0 : Lab.bs A[i].v = v[0] :: (Lab.bs v).tail := by
      rw [hx2, hv]
      have := Utf.drop_cons v 0 hvs
      rw [List.drop_zero] at this
      show v.data.toList = _ :: v.data.toList.tail
      rw [this, List.tail_cons]
    have hlt0 : v[0] < 128 := by
      rw [UInt8.lt_iff_toNat_lt]
      show v[0].toNat < 128
      omega
    have hne0 : v[0] ≠ cu := by
      intro e
      rw [e, hcu] at hq2
      simp at hq2
    have hr' := Can.swap_right A HR.out i hiA2 cu v[0] _ hv0 hlt0 hcu2
    have hsum1 := Can.swap_sum 14695981039346656037 (by omega) [] A i hiA2 v[0] _ hv0 cu hne0
    have hsum2 := Can.swap_sum 14695981039346656037 (by omega) (Lab.bs J ++ [254]) A i hiA2 v[0] _ hv0 cu hne0
    rw [List.nil_append, List.nil_append, HS1.out] at hsum1
    rw [HS2.out] at hsum2
    rw [hx2] at hr' hsum1 hsum2
    have hcells : (Lab.cells A).set (i * 2 + 1) (.string V) = Lab.cells (A.set i (Can.swap x cu)) := by
      rw [hV2]
      exact Lab.cells_setV A i hiA2 (Can.swap x cu) (by rw [hx2]; rfl)
    have hown' : w6.ownsRow w5.heap.size 62 2 (.slice (some ⟨g, 0, none⟩) N cq) N (Lab.cells A) := by
      have h := hown
      unfold OwnLabels at h
      rw [hN] at h
      exact h
    have hrow := (World.ownsRow.stored hown' (i * 2 + 1) (.string V)).1
    rw [hcells] at hrow
    obtain ⟨A', hA'⟩ : ∃ A', A.set i (Can.swap x cu) = A' := ⟨_, rfl⟩
    have hN' : A'.length = N := by rw [← hA', List.length_set]; exact hN
    rw [hA'] at hr' hsum1 hsum2 hrow
    have hown7 : Lab.At (some ⟨g, 0, none⟩) A' ((w6.setCell ⟨g, i * 2 + 1, none⟩ (.string V)).alloc (.cells #[.int .u8 (97 + (le : Int) % 26)] 5)).drew := by
      refine OwnLabels.at (B := w5.heap.size) (n := N) (c := cq) (w := ((w6.setCell ⟨g, i * 2 + 1, none⟩ (.string V)).alloc (.cells #[.int .u8 (97 + (le : Int) % 26)] 5)).drew) ?_
      have h1 : OwnLabels w5.heap.size (.slice (some ⟨g, 0, none⟩) N cq) A' (w6.setCell ⟨g, i * 2 + 1, none⟩ (.string V)) := by
        unfold OwnLabels
        rw [hN']
        exact hrow
      exact h1.alloc _
    have hgB : w.heap.size ≤ g := by have := HC.out.1; have := hB5.size; omega
    have hB7 : Below w.heap.size w ((w6.setCell ⟨g, i * 2 + 1, none⟩ (.string V)).alloc (.cells #[.int .u8 (97 + (le : Int) % 26)] 5)).drew := ((hB6.setCell (p := ⟨g, i * 2 + 1, none⟩) hgB _).alloc (by have := hB6.size; simp [World.setCell]; omega) _).drew
    have u1 := HKP.out (.string V) (.cells #[.int .u8 (97 + (le : Int) % 26)] 5)
    have u0 : ((w6.setCell ⟨g, i * 2 + 1, none⟩ (.string V)).alloc (.cells #[.int .u8 (97 + (le : Int) % 26)] 5)).drew.cell? ⟨G, 0, none⟩ = some (.string J) :=
      cell_later ((Below.refl _ _).alloc (Nat.le_refl _) _).drew ((World.cell?_setCell_far _ _ _ _ (Ne.symm hGg)).trans k0) (Nat.le_refl _)
    obtain ⟨hfA', hlA'⟩ := Lab.right_fit A' hr'
    have hrl := Can.raw_bound A' hr'
    have hkl : (Lab.bs J ++ [254] ++ Can.raw A').length ≤ 1000000000 := by
      have e : (Lab.bs J).length = J.size := Array.length_toList
      rw [List.length_append, List.length_append, e]
      simp only [List.length_cons, List.length_nil]
      omega
    obtain ⟨Z1, hZ1⟩ : ∃ S, Can.sum 14695981039346656037 (Can.raw A') = S := ⟨_, rfl⟩
    obtain ⟨Z2, hZ2⟩ : ∃ S, Can.sum 14695981039346656037 (Lab.bs J ++ [254] ++ Can.raw A') = S := ⟨_, rfl⟩
    have PA := Lib.hid (fun p c w hA => cprint_is p A' N c _ 0 (Can.bytes_right A' hr') Z1 (by rw [if_pos rfl]; exact hZ1) w hN' hA (Can.fit_more hfA') (by unfold maxLen; omega) (by omega))
    have KA := Lib.hid (fun p c w hA => ckeyprint_is J p A' N c _ 0 (Can.key_right _ A' HJ.out hr') Z2 (by rw [if_pos rfl]; exact hZ2) w hN' hA hfA' (by omega) (by omega) hkl)
    rw [hZ1] at hsum1
    rw [hZ2] at hsum2
    have m1 : ((Z1 : Int) == (S1 : Int)) = false := by simp; omega
    have m2 : ((Z2 : Int) == (S2 : Int)) = false := by simp; omega
    have m3 : ((Z1 : Int) != (S1 : Int)) = true := by simp; omega
    have m4 : ((Z2 : Int) != (S2 : Int)) = true := by simp; omega
    obtain ⟨w7, hw7⟩ : ∃ W, ((w6.setCell ⟨g, i * 2 + 1, none⟩ (.string V)).alloc (.cells #[.int .u8 (97 + (le : Int) % 26)] 5)).drew = W := ⟨_, rfl⟩
    rw [hw7] at hown7 hB7 u0 u1 ⊢
    clear hw7 hrow hown hown' hcells hr' hsum1 hsum2 hV2 hVV hv0 hA' hZ1 hZ2 hfA' hrl hkl HKP HK C1 hY HFZ hcv hvne hv11 hfx hcu q6 q5 lA k0 k1' hfz zc HR HF HJ HI HC
    go_wp2_with (go_at_call 22; refine (PA.out _ _ _ hown7).mono ?_)
    first | rintro e w8 rfl hb8 | rintro e w8 ⟨rfl, hb8⟩
    have u08 := cell_later hb8 u0 (Nat.le_refl _)
    have u18 := cell_later hb8 u1 (Nat.le_refl _)
    have hown8 := hown7.below hb8 (Nat.le_refl _)
    have hB8 := below_next hB7 hb8
    clear hb8 hown7 u0 u1
    go_wp2_with (go_at_call 23; refine (KA.out _ _ _ hown8).mono ?_)
    first | rintro e w9 rfl hb9 | rintro e w9 ⟨rfl, hb9⟩
    go_wp2_with fail
    go_ret
    exact ⟨rfl, below_next hB8 hb9⟩

theorem walk_CanonPrints (j0 : Nat) (a0 : Option Addr) (xs0 : List Lab.Sm) (n0 c0 : Nat) (wh le : Int) (m : Int) (w : World)
    (hj0 : j0 < 256) (hn0 : xs0.length = n0) (hA0 : Lab.SmAt a0 xs0 w) (hF0 : Lab.SmFit xs0) (hl0 : n0 ≤ c0) (hm0 : c0 ≤ maxLen)
    (hwh : (Lit.int .u8 wh).wf = true) (hle : (Lit.int .u8 le).wf = true) (hm : w.cell? ⟨0, 0, none⟩ = some (.int .i64 m)) :
    Calls Tryd.prog 7 #[.agg #[.int .u8 (j0 : Int), .slice a0 n0 c0], .int .u8 wh, .int .u8 le] w fun e w' => e = .returned (.bool true) ∧ Below w.heap.size w w' := by
  obtain ⟨e1, h1⟩ := row.wf_u8 hwh
  obtain ⟨e2, h2⟩ := row.wf_u8 hle
  rw [e1, e2]
  exact prints_near j0 a0 xs0 n0 c0 _ _ m w hj0 hn0 hA0 hF0 hl0 hm0 h1 h2 hm
end Go.Proofs.YthnaninhbofeoaaDoor
