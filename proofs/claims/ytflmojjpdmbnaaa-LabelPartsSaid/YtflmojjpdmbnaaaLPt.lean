/- The walk of LabelParts: the law returns true for every input. (Printed by gen_parts.py.) -/
import Derived.Test.YtflmojjpdmbnaaaLPtI
namespace Go.Proofs.Ytflmojjpdmbnaaa
open Go.RowKit

set_option maxHeartbeats 12800000 in
set_option maxRecDepth 100000 in
theorem walk_LabelParts (a0 : Option Addr) (xs0 : List Lab.Sm) (len0 cap0 x1 y1 z1 : Nat) (n2 : Int) (w : World)
    (hlen0 : xs0.length = len0) (hAt0 : Lab.SmAt a0 xs0 w) (hFit0 : Lab.SmFit xs0) (hlc0 : len0 ≤ cap0) (hmax0 : cap0 ≤ maxLen) (hx1 : x1 < 256) (hy1 : y1 < 256) (hz1 : z1 < 256) (wn2 : (Lit.int .u8 n2).wf = true) :
    Calls Try.prog 9 #[.slice a0 len0 cap0, .agg #[.int .u8 (x1 : Int), .int .u8 (y1 : Int), .int .u8 (z1 : Int)], .int .u8 n2] w fun e w' => e = .returned (.bool true) ∧ Below w.heap.size w w' := by
  obtain ⟨tu, htu, rfl⟩ : ∃ tu : Nat, tu < 256 ∧ n2 = (tu : Int) := by
    have h1 := row.wf_u8 wn2
    exact ⟨_, h1.2, by simpa using h1.1⟩
  clear wn2
  have G0 := Lab.tl_good xs0
  have HR0 := Lib.hid (fun n w hn hA => opened (n := n) hn (lright_is a0 xs0 len0 cap0 w hlen0 hA hFit0 hlc0 hmax0))
  obtain ⟨A, hA⟩ : ∃ A, Lab.tl xs0 = A := ⟨_, rfl⟩
  rw [hA] at HR0 G0
  obtain ⟨lA, hlA⟩ : ∃ n, A.length = n := ⟨_, rfl⟩
  have zA := G0.length
  rw [hlA] at zA
  have HLA := Lib.hid hlA
  have hc_na := Made.name_at x1
  have hz_na := Lab.name_size x1
  obtain ⟨na, h_na⟩ : ∃ s, Lab.nameL.getD (x1 % 16) ⟨#[]⟩ = s := ⟨_, rfl⟩
  rw [h_na] at hc_na hz_na
  have HC_na := Lib.hid hc_na
  have r_na : Int.tmod (x1 : Int) 16 = ((x1 % 16 : Nat) : Int) := by rw [Int.tmod_eq_emod_of_nonneg (by omega)]; omega
  clear hc_na h_na
  have hc_nb := Made.name_at y1
  have hz_nb := Lab.name_size y1
  obtain ⟨nb, h_nb⟩ : ∃ s, Lab.nameL.getD (y1 % 16) ⟨#[]⟩ = s := ⟨_, rfl⟩
  rw [h_nb] at hc_nb hz_nb
  have HC_nb := Lib.hid hc_nb
  have r_nb : Int.tmod (y1 : Int) 16 = ((y1 % 16 : Nat) : Int) := by rw [Int.tmod_eq_emod_of_nonneg (by omega)]; omega
  clear hc_nb h_nb
  have hc_nc := Made.name_at z1
  have hz_nc := Lab.name_size z1
  obtain ⟨nc, h_nc⟩ : ∃ s, Lab.nameL.getD (z1 % 16) ⟨#[]⟩ = s := ⟨_, rfl⟩
  rw [h_nc] at hc_nc hz_nc
  have HC_nc := Lib.hid hc_nc
  have r_nc : Int.tmod (z1 : Int) 16 = ((z1 % 16 : Nat) : Int) := by rw [Int.tmod_eq_emod_of_nonneg (by omega)]; omega
  clear hc_nc h_nc
  obtain ⟨Kp, hKp⟩ : ∃ K, A.filter (fun x => Lab.has [na, nb, nc] x.n) = K := ⟨_, rfl⟩
  obtain ⟨Dr, hDr⟩ : ∃ D, A.filter (fun x => !Lab.has [na, nb, nc] x.n) = D := ⟨_, rfl⟩
  have f1 := Lab.filt_good (Lab.has [na, nb, nc]) A G0
  have f2 := Lab.filt_good (fun s => !Lab.has [na, nb, nc] s) A G0
  have f3 := Lab.parts_merge (Lab.has [na, nb, nc]) A G0
  have f4 := Lab.parts_length (fun x : Lab.L => Lab.has [na, nb, nc] x.n) A
  have gK := Lab.filter_good A (fun x => Lab.has [na, nb, nc] x.n) G0
  have gD := Lab.filter_good A (fun x => !Lab.has [na, nb, nc] x.n) G0
  have hkp : ∀ x ∈ Kp, Lab.bs x.n = Lab.bs na ∨ Lab.bs x.n = Lab.bs nb ∨ Lab.bs x.n = Lab.bs nc := fun x hx => by
    rw [← hKp, List.mem_filter] at hx
    exact Lab.has3 _ _ _ _ hx.2
  rw [hKp] at f1 f3 f4 gK
  rw [hDr] at f2 f3 f4 gD
  obtain ⟨lK, hlK⟩ : ∃ n, Kp.length = n := ⟨_, rfl⟩
  obtain ⟨lD, hlD⟩ : ∃ n, Dr.length = n := ⟨_, rfl⟩
  rw [hlK, hlD, hlA] at f4
  obtain ⟨k0, hk0⟩ : ∃ k, tu % (na.size + 1) = k := ⟨_, rfl⟩
  have hk0l : k0 ≤ na.size := by rw [← hk0]; have := Nat.mod_lt tu (show 0 < na.size + 1 by omega); omega
  have rk : Int.tmod (tu : Int) ((na.size : Int) + 1) = (k0 : Int) := by rw [Int.tmod_eq_emod_of_nonneg (by omega), ← hk0]; simp
  obtain ⟨pf, hpf⟩ : ∃ p, na.extract 0 k0 = p := ⟨_, rfl⟩
  obtain ⟨Wt, hWt⟩ : ∃ W, A.filter (fun x => !Lab.begins pf x.n) = W := ⟨_, rfl⟩
  have f5 := Lab.filt_good (fun s => !Lab.begins pf s) A G0
  have gW := Lab.filter_good A (fun x => !Lab.begins pf x.n) G0
  have hfh := Lab.filter_has (fun s => !Lab.begins pf s) A G0
  have hcb := Lab.cntB_all pf A
  rw [hWt] at f5 gW hfh hcb
  obtain ⟨lW, hlW⟩ : ∃ n, Wt.length = n := ⟨_, rfl⟩
  rw [hlA, hlW] at hcb
  have HKE := Lib.hid (fun p q c c2 w hA hB => opened hlK (lkeep_is p q A [na, nb, nc] lA c 3 c2 Kp 0 f1 w hlA rfl hA hB G0.fit (by omega) (by omega)))
  have HDE := Lib.hid (fun p q c c2 w hA hB => opened hlD (ldrop_is p q A [na, nb, nc] lA c 3 c2 Dr 0 f2 w hlA rfl hA hB G0.fit (by omega) (by omega)))
  have zK := gK.length
  have zD := gD.length
  have zW := gW.length
  rw [hlK] at zK
  rw [hlD] at zD
  rw [hlW] at zW
  have HME := Lib.hid (fun p q c c2 w hA hB => opened hlA (lmerge_is p q Kp Dr lK c lD c2 A 0 f3 w hlK hlD hA hB gK.fit gD.fit (by omega) (by omega)))
  have HWE := Lib.hid (fun p c w hA => opened hlW (lwithout_is p A pf lA c Wt 0 f5 w hlA hA G0.fit (by omega)))
  have HSM := Lib.hid (fun p1 p2 c1 c2 w hA hB => same_below p1 p2 A lA c1 c2 w hlA hA hB (by unfold maxLen; omega))
  have HRT := Lib.hid (fun p c w hA => right_is p Wt lW c true gW.r w hlW hA gW.fit (by unfold maxLen; omega))
  have HGW := Lib.hid (fun p c name r h w hA => lget_is p Wt lW c name r h w hlW hA (by omega))
  have HFH := Lib.hid hfh
  have HCB := Lib.hid hcb
  have HCS := Lib.hid (Lab.cntB_succ pf A)
  have HCL := Lib.hid (Lab.cntB_le pf A)
  have HKP := Lib.hid hkp
  have HLK := Lib.hid hlK
  have HF4 := Lib.hid f4
  have HPF := Lib.hid hpf
  have HPX := Lib.hid (fun s w => Try.strings_HasPrefix s pf w)
  have HC0 : Hid (Lab.cntB pf A 0 = 0) := rfl
  have X0 := Lib.hid hAt0
  clear hAt0 hlen0 hFit0 hlc0 hmax0 hA hlA G0 hKp hDr f1 f2 f3 f4 f5 gK gD gW hkp hlK hlD hk0 hpf hWt hfh hcb hlW
  go_enter Try.func9, Try.ntmps9
  go_wp2_with fail
  obtain ⟨W0, hW0⟩ : ∃ W, W = w.alloc (.cells #[.int .u8 (x1 : Int), .int .u8 (y1 : Int), .int .u8 (z1 : Int)] 47) := ⟨_, rfl⟩
  have HBX : Hid (W0.heap[w.heap.size]? = some (.cells #[.int .u8 (x1 : Int), .int .u8 (y1 : Int), .int .u8 (z1 : Int)] 47)) := by
    show W0.heap[w.heap.size]? = _
    rw [hW0]
    exact alloc_new _ _
  have hb00 : Below w.heap.size w W0 := by rw [hW0]; exact (Below.refl _ _).alloc (Nat.le_refl _) _
  rw [← hW0]
  have hx0 := lt_of_heap HBX.out
  clear hW0
  have K0 : Hid (∀ w', Below W0.heap.size W0 w' → Lab.SmAt a0 xs0 w' ∧ w'.heap[w.heap.size]? = some (.cells #[.int .u8 (x1 : Int), .int .u8 (y1 : Int), .int .u8 (z1 : Int)] 47)) := fun w' h => ⟨X0.out.below (hb00.trans (h.mono hb00.size)) (Nat.le_refl _), below_kept h HBX.out hx0⟩
  have B0 := hb00
  clear hb00 hx0 HBX X0
  go_wp2_with (go_at_call 13; refine (awake4_true _).mono ?_)
  first | rintro e v1 rfl hb1 | rintro e v1 ⟨rfl, hb1⟩
  have K1 : Hid (∀ w', Below v1.heap.size v1 w' → Lab.SmAt a0 xs0 w' ∧ w'.heap[w.heap.size]? = some (.cells #[.int .u8 (x1 : Int), .int .u8 (y1 : Int), .int .u8 (z1 : Int)] 47)) := fun w' h => ⟨(K0.out w' (hb1.trans (h.mono hb1.size))).1, (K0.out w' (hb1.trans (h.mono hb1.size))).2⟩
  have B1 := below_next B0 hb1
  clear K0 B0 hb1
  go_wp2_with (go_at_call 20; refine (HR0.out _ _ HLA.out ((K1.out _ (Below.refl _ v1)).1)).mono ?_)
  first | rintro e v2 pA cA rfl hA hb2 | rintro e v2 ⟨⟨pA, cA, rfl, hA⟩, hb2⟩
  have HhA2 := Lib.hid hA
  clear hA
  have K2 : Hid (∀ w', Below v2.heap.size v2 w' → w'.heap[w.heap.size]? = some (.cells #[.int .u8 (x1 : Int), .int .u8 (y1 : Int), .int .u8 (z1 : Int)] 47) ∧ Lab.At pA A w') := fun w' h => ⟨(K1.out w' (hb2.trans (h.mono hb2.size))).2, HhA2.out.below h (Nat.le_refl _)⟩
  have B2 := below_next B1 hb2
  clear K1 B1 hb2
  clear HhA2 HR0
  go_wp2_with fail
  have HB2 : Hid (∀ w', Below v2.heap.size v2 w' → w'.cell? ⟨w.heap.size, 0, none⟩ = some (.int .u8 (x1 : Int)) ∧ w'.cell? ⟨w.heap.size, 1, none⟩ = some (.int .u8 (y1 : Int)) ∧ w'.cell? ⟨w.heap.size, 2, none⟩ = some (.int .u8 (z1 : Int))) := fun w' h => by
    have h1 := (K2.out w' h).1
    exact ⟨by rw [Lib.cell_of_heap h1]; rfl, by rw [Lib.cell_of_heap h1]; rfl, by rw [Lib.cell_of_heap h1]; rfl⟩
  refine wp_region_inv (by kernel_rfl) (by kernel_rfl) (fun a0 d a w' => ∃ t34 t35 t36 t37 t38 t39 t40 t41 t42 t43 t44 t45 t46 t47 t48 t49 t50 t51 t52 t9 : Value, a = ((((((((((((((((((((a0.put (some 34) t34).put (some 35) t35).put (some 36) t36).put (some 37) t37).put (some 38) t38).put (some 39) t39).put (some 40) t40).put (some 41) t41).put (some 42) t42).put (some 43) t43).put (some 44) t44).put (some 45) t45).put (some 46) t46).put (some 47) t47).put (some 48) t48).put (some 49) t49).put (some 50) t50).put (some 51) t51).put (some 52) t52).put (some 9) t9) ∧ Prt.I v2.heap.size v2 w.heap.size x1 y1 z1 na nb nc d t34 t35 t36 t37 t38 t39 t40 t41 t42 t43 t44 t45 t46 t47 t48 t49 t50 t51 t52 t9 w') ?h0 ?hs ?he
  case h0 => exact ⟨undef, undef, undef, undef, undef, undef, undef, undef, undef, undef, undef, undef, undef, undef, undef, undef, undef, undef, undef, undef, (by go_frame), Prt.start _ _ _ _ _ _ _ _ _ _ _ _ _ _ _ _ _ _ _ _ _ _ _ _ _ _ _ _⟩
  case hs =>
    refine ⟨?_, ?_, ?_, ?_, ?_, ?_, ?_, ?_, ?_, ?_, ?_, ?_, ?_, ?_, ?_, ?_, ?_, ?_, ?_, ?_, trivial⟩
    · rintro d a w' hd hdep ⟨t34, t35, t36, t37, t38, t39, t40, t41, t42, t43, t44, t45, t46, t47, t48, t49, t50, t51, t52, t9, rfl, h⟩ K hK
      rw [if_pos (by rfl)]
      go_frame
      go_simp
      refine (names_is w').mono ?_
      rintro e w2 ⟨rfl, rfl⟩
      go_simp
      exact hK _ _ ⟨.slice (some ⟨w'.heap.size, 0, none⟩) 16 16, _, _, _, _, _, _, _, _, _, _, _, _, _, _, _, _, _, _, _, (by go_frame), Prt.s0 h ((Below.refl _ w').alloc h.b.size _) (fun g o hg => alloc_kept hg) ⟨w'.heap.size, rfl, alloc_new _ _⟩⟩
    · rintro d a w' hd hdep ⟨t34, t35, t36, t37, t38, t39, t40, t41, t42, t43, t44, t45, t46, t47, t48, t49, t50, t51, t52, t9, rfl, h⟩ K hK
      rw [if_pos (by rfl)]
      go_frame
      go_simp
      exact hK _ _ ⟨_, .pointer (some ⟨w.heap.size, 0, none⟩), _, _, _, _, _, _, _, _, _, _, _, _, _, _, _, _, _, _, (by go_frame), Prt.s1 h rfl⟩
    · rintro d a w' hd hdep ⟨t34, t35, t36, t37, t38, t39, t40, t41, t42, t43, t44, t45, t46, t47, t48, t49, t50, t51, t52, t9, rfl, h⟩ K hK
      rw [if_pos (by rfl)]
      go_frame
      obtain rfl := h.f1 (hdep 1 (by decide))
      have hc := (HB2.out w' h.b).1
      go_simp
      exact hK _ _ ⟨_, _, .int .u8 (x1 : Int), _, _, _, _, _, _, _, _, _, _, _, _, _, _, _, _, _, (by go_frame), Prt.s2 h rfl⟩
    · rintro d a w' hd hdep ⟨t34, t35, t36, t37, t38, t39, t40, t41, t42, t43, t44, t45, t46, t47, t48, t49, t50, t51, t52, t9, rfl, h⟩ K hK
      rw [if_pos (by rfl)]
      go_frame
      obtain rfl := h.f2 (hdep 2 (by decide))
      go_simp
      exact hK _ _ ⟨_, _, _, .int .u8 ((x1 : Int) % 16), _, _, _, _, _, _, _, _, _, _, _, _, _, _, _, _, (by go_frame), Prt.s3 h rfl⟩
    · rintro d a w' hd hdep ⟨t34, t35, t36, t37, t38, t39, t40, t41, t42, t43, t44, t45, t46, t47, t48, t49, t50, t51, t52, t9, rfl, h⟩ K hK
      rw [if_pos (by rfl)]
      go_frame
      obtain ⟨g, rfl, hg⟩ := h.f0 (hdep 0 (by decide))
      obtain rfl := h.f3 (hdep 3 (by decide))
      have q0 : (0 : Int) ≤ (x1 : Int) % 16 := by omega
      have q1 : (x1 : Int) % 16 < 16 := by omega
      have q2 : ((x1 : Int) % 16).toNat = x1 % 16 := by omega
      go_simp
      exact hK _ _ ⟨_, _, _, _, .pointer (some ⟨g, x1 % 16, none⟩), _, _, _, _, _, _, _, _, _, _, _, _, _, _, _, (by go_frame), Prt.s4 h ⟨g, rfl, hg⟩⟩
    · rintro d a w' hd hdep ⟨t34, t35, t36, t37, t38, t39, t40, t41, t42, t43, t44, t45, t46, t47, t48, t49, t50, t51, t52, t9, rfl, h⟩ K hK
      rw [if_pos (by rfl)]
      go_frame
      obtain ⟨g, rfl, hg⟩ := h.f4 (hdep 4 (by decide))
      have hc : w'.cell? ⟨g, x1 % 16, none⟩ = some (.string na) := by rw [Lib.cell_of_heap hg]; exact HC_na.out
      go_simp
      exact hK _ _ ⟨_, _, _, _, _, .string na, _, _, _, _, _, _, _, _, _, _, _, _, _, _, (by go_frame), Prt.s5 h rfl⟩
    · rintro d a w' hd hdep ⟨t34, t35, t36, t37, t38, t39, t40, t41, t42, t43, t44, t45, t46, t47, t48, t49, t50, t51, t52, t9, rfl, h⟩ K hK
      rw [if_pos (by rfl)]
      go_frame
      go_simp
      refine (names_is w').mono ?_
      rintro e w2 ⟨rfl, rfl⟩
      go_simp
      exact hK _ _ ⟨_, _, _, _, _, _, .slice (some ⟨w'.heap.size, 0, none⟩) 16 16, _, _, _, _, _, _, _, _, _, _, _, _, _, (by go_frame), Prt.s6 h ((Below.refl _ w').alloc h.b.size _) (fun g o hg => alloc_kept hg) ⟨w'.heap.size, rfl, alloc_new _ _⟩⟩
    · rintro d a w' hd hdep ⟨t34, t35, t36, t37, t38, t39, t40, t41, t42, t43, t44, t45, t46, t47, t48, t49, t50, t51, t52, t9, rfl, h⟩ K hK
      rw [if_pos (by rfl)]
      go_frame
      go_simp
      exact hK _ _ ⟨_, _, _, _, _, _, _, .pointer (some ⟨w.heap.size, 1, none⟩), _, _, _, _, _, _, _, _, _, _, _, _, (by go_frame), Prt.s7 h rfl⟩
    · rintro d a w' hd hdep ⟨t34, t35, t36, t37, t38, t39, t40, t41, t42, t43, t44, t45, t46, t47, t48, t49, t50, t51, t52, t9, rfl, h⟩ K hK
      rw [if_pos (by rfl)]
      go_frame
      obtain rfl := h.f7 (hdep 7 (by decide))
      have hc := (HB2.out w' h.b).2.1
      go_simp
      exact hK _ _ ⟨_, _, _, _, _, _, _, _, .int .u8 (y1 : Int), _, _, _, _, _, _, _, _, _, _, _, (by go_frame), Prt.s8 h rfl⟩
    · rintro d a w' hd hdep ⟨t34, t35, t36, t37, t38, t39, t40, t41, t42, t43, t44, t45, t46, t47, t48, t49, t50, t51, t52, t9, rfl, h⟩ K hK
      rw [if_pos (by rfl)]
      go_frame
      obtain rfl := h.f8 (hdep 8 (by decide))
      go_simp
      exact hK _ _ ⟨_, _, _, _, _, _, _, _, _, .int .u8 ((y1 : Int) % 16), _, _, _, _, _, _, _, _, _, _, (by go_frame), Prt.s9 h rfl⟩
    · rintro d a w' hd hdep ⟨t34, t35, t36, t37, t38, t39, t40, t41, t42, t43, t44, t45, t46, t47, t48, t49, t50, t51, t52, t9, rfl, h⟩ K hK
      rw [if_pos (by rfl)]
      go_frame
      obtain ⟨g, rfl, hg⟩ := h.f6 (hdep 6 (by decide))
      obtain rfl := h.f9 (hdep 9 (by decide))
      have q0 : (0 : Int) ≤ (y1 : Int) % 16 := by omega
      have q1 : (y1 : Int) % 16 < 16 := by omega
      have q2 : ((y1 : Int) % 16).toNat = y1 % 16 := by omega
      go_simp
      exact hK _ _ ⟨_, _, _, _, _, _, _, _, _, _, .pointer (some ⟨g, y1 % 16, none⟩), _, _, _, _, _, _, _, _, _, (by go_frame), Prt.s10 h ⟨g, rfl, hg⟩⟩
    · rintro d a w' hd hdep ⟨t34, t35, t36, t37, t38, t39, t40, t41, t42, t43, t44, t45, t46, t47, t48, t49, t50, t51, t52, t9, rfl, h⟩ K hK
      rw [if_pos (by rfl)]
      go_frame
      obtain ⟨g, rfl, hg⟩ := h.f10 (hdep 10 (by decide))
      have hc : w'.cell? ⟨g, y1 % 16, none⟩ = some (.string nb) := by rw [Lib.cell_of_heap hg]; exact HC_nb.out
      go_simp
      exact hK _ _ ⟨_, _, _, _, _, _, _, _, _, _, _, .string nb, _, _, _, _, _, _, _, _, (by go_frame), Prt.s11 h rfl⟩
    · rintro d a w' hd hdep ⟨t34, t35, t36, t37, t38, t39, t40, t41, t42, t43, t44, t45, t46, t47, t48, t49, t50, t51, t52, t9, rfl, h⟩ K hK
      rw [if_pos (by rfl)]
      go_frame
      go_simp
      refine (names_is w').mono ?_
      rintro e w2 ⟨rfl, rfl⟩
      go_simp
      exact hK _ _ ⟨_, _, _, _, _, _, _, _, _, _, _, _, .slice (some ⟨w'.heap.size, 0, none⟩) 16 16, _, _, _, _, _, _, _, (by go_frame), Prt.s12 h ((Below.refl _ w').alloc h.b.size _) (fun g o hg => alloc_kept hg) ⟨w'.heap.size, rfl, alloc_new _ _⟩⟩
    · rintro d a w' hd hdep ⟨t34, t35, t36, t37, t38, t39, t40, t41, t42, t43, t44, t45, t46, t47, t48, t49, t50, t51, t52, t9, rfl, h⟩ K hK
      rw [if_pos (by rfl)]
      go_frame
      go_simp
      exact hK _ _ ⟨_, _, _, _, _, _, _, _, _, _, _, _, _, .pointer (some ⟨w.heap.size, 2, none⟩), _, _, _, _, _, _, (by go_frame), Prt.s13 h rfl⟩
    · rintro d a w' hd hdep ⟨t34, t35, t36, t37, t38, t39, t40, t41, t42, t43, t44, t45, t46, t47, t48, t49, t50, t51, t52, t9, rfl, h⟩ K hK
      rw [if_pos (by rfl)]
      go_frame
      obtain rfl := h.f13 (hdep 13 (by decide))
      have hc := (HB2.out w' h.b).2.2
      go_simp
      exact hK _ _ ⟨_, _, _, _, _, _, _, _, _, _, _, _, _, _, .int .u8 (z1 : Int), _, _, _, _, _, (by go_frame), Prt.s14 h rfl⟩
    · rintro d a w' hd hdep ⟨t34, t35, t36, t37, t38, t39, t40, t41, t42, t43, t44, t45, t46, t47, t48, t49, t50, t51, t52, t9, rfl, h⟩ K hK
      rw [if_pos (by rfl)]
      go_frame
      obtain rfl := h.f14 (hdep 14 (by decide))
      go_simp
      exact hK _ _ ⟨_, _, _, _, _, _, _, _, _, _, _, _, _, _, _, .int .u8 ((z1 : Int) % 16), _, _, _, _, (by go_frame), Prt.s15 h rfl⟩
    · rintro d a w' hd hdep ⟨t34, t35, t36, t37, t38, t39, t40, t41, t42, t43, t44, t45, t46, t47, t48, t49, t50, t51, t52, t9, rfl, h⟩ K hK
      rw [if_pos (by rfl)]
      go_frame
      obtain ⟨g, rfl, hg⟩ := h.f12 (hdep 12 (by decide))
      obtain rfl := h.f15 (hdep 15 (by decide))
      have q0 : (0 : Int) ≤ (z1 : Int) % 16 := by omega
      have q1 : (z1 : Int) % 16 < 16 := by omega
      have q2 : ((z1 : Int) % 16).toNat = z1 % 16 := by omega
      go_simp
      exact hK _ _ ⟨_, _, _, _, _, _, _, _, _, _, _, _, _, _, _, _, .pointer (some ⟨g, z1 % 16, none⟩), _, _, _, (by go_frame), Prt.s16 h ⟨g, rfl, hg⟩⟩
    · rintro d a w' hd hdep ⟨t34, t35, t36, t37, t38, t39, t40, t41, t42, t43, t44, t45, t46, t47, t48, t49, t50, t51, t52, t9, rfl, h⟩ K hK
      rw [if_pos (by rfl)]
      go_frame
      obtain ⟨g, rfl, hg⟩ := h.f16 (hdep 16 (by decide))
      have hc : w'.cell? ⟨g, z1 % 16, none⟩ = some (.string nc) := by rw [Lib.cell_of_heap hg]; exact HC_nc.out
      go_simp
      exact hK _ _ ⟨_, _, _, _, _, _, _, _, _, _, _, _, _, _, _, _, _, .string nc, _, _, (by go_frame), Prt.s17 h rfl⟩
    · rintro d a w' hd hdep ⟨t34, t35, t36, t37, t38, t39, t40, t41, t42, t43, t44, t45, t46, t47, t48, t49, t50, t51, t52, t9, rfl, h⟩ K hK
      rw [if_pos (by rfl)]
      go_frame
      obtain rfl := h.f5 (hdep 5 (by decide))
      obtain rfl := h.f11 (hdep 11 (by decide))
      obtain rfl := h.f17 (hdep 17 (by decide))
      go_simp
      exact hK _ _ ⟨_, _, _, _, _, _, _, _, _, _, _, _, _, _, _, _, _, _, .slice (some ⟨w'.heap.size, 0, none⟩) 3 3, _, (by go_frame), Prt.s18 h ((Below.refl _ w').alloc h.b.size _) (fun g o hg => alloc_kept hg) ⟨w'.heap.size, rfl, alloc_new _ _⟩⟩
    · rintro d a w' hd hdep ⟨t34, t35, t36, t37, t38, t39, t40, t41, t42, t43, t44, t45, t46, t47, t48, t49, t50, t51, t52, t9, rfl, h⟩ K hK
      rw [if_pos (by rfl)]
      go_frame
      have h18 := h.f18 (hdep 18 (by decide))
      go_simp
      exact hK _ _ ⟨_, _, _, _, _, _, _, _, _, _, _, _, _, _, _, _, _, _, _, _, (by go_frame), Prt.s19 h h18⟩
  case he =>
    rintro a w5 ⟨t34, t35, t36, t37, t38, t39, t40, t41, t42, t43, t44, t45, t46, t47, t48, t49, t50, t51, t52, t9, rfl, h⟩
    have hb5 := h.b
    obtain ⟨gS, rfl, hS⟩ := h.f19 rfl
    have HS := Lib.hid hS
    clear h hS HB2
    have K3 : Hid (∀ w', Below w5.heap.size w5 w' → Lab.At pA A w' ∧ w'.heap[gS]? = some (.cells #[.string na, .string nb, .string nc] 9)) := fun w' h => ⟨(K2.out w' (hb5.trans (h.mono hb5.size))).2, below_kept h HS.out (lt_of_heap HS.out)⟩
    have B3 := below_next B2 hb5
    clear K2 B2 hb5
    clear HS
    go_frame
    go_wp2_with (go_at_call 26; refine (HKE.out pA (some ⟨gS, 0, none⟩) cA 3 _ ((K3.out _ (Below.refl _ w5)).1) (txt3 ((K3.out _ (Below.refl _ w5)).2))).mono ?_)
    first | rintro e v4 pK cK rfl hA hb4 | rintro e v4 ⟨⟨pK, cK, rfl, hA⟩, hb4⟩
    have HhA4 := Lib.hid hA
    clear hA
    have K4 : Hid (∀ w', Below v4.heap.size v4 w' → Lab.At pA A w' ∧ w'.heap[gS]? = some (.cells #[.string na, .string nb, .string nc] 9) ∧ Lab.At pK Kp w') := fun w' h => ⟨(K3.out w' (hb4.trans (h.mono hb4.size))).1, (K3.out w' (hb4.trans (h.mono hb4.size))).2, HhA4.out.below h (Nat.le_refl _)⟩
    have B4 := below_next B3 hb4
    clear K3 B3 hb4
    clear HhA4 HKE
    go_wp2_with (go_at_call 27; refine (HDE.out pA (some ⟨gS, 0, none⟩) cA 3 _ ((K4.out _ (Below.refl _ v4)).1) (txt3 ((K4.out _ (Below.refl _ v4)).2.1))).mono ?_)
    first | rintro e v5 pD cD rfl hA hb5 | rintro e v5 ⟨⟨pD, cD, rfl, hA⟩, hb5⟩
    have HhA5 := Lib.hid hA
    clear hA
    have K5 : Hid (∀ w', Below v5.heap.size v5 w' → Lab.At pA A w' ∧ w'.heap[gS]? = some (.cells #[.string na, .string nb, .string nc] 9) ∧ Lab.At pK Kp w' ∧ Lab.At pD Dr w') := fun w' h => ⟨(K4.out w' (hb5.trans (h.mono hb5.size))).1, (K4.out w' (hb5.trans (h.mono hb5.size))).2.1, (K4.out w' (hb5.trans (h.mono hb5.size))).2.2, HhA5.out.below h (Nat.le_refl _)⟩
    have B5 := below_next B4 hb5
    clear K4 B4 hb5
    clear HhA5 HDE
    go_wp2_with (go_at_call 21; refine (HME.out pK pD cK cD _ ((K5.out _ (Below.refl _ v5)).2.2.1) ((K5.out _ (Below.refl _ v5)).2.2.2)).mono ?_)
    first | rintro e v6 pM cM rfl hA hb6 | rintro e v6 ⟨⟨pM, cM, rfl, hA⟩, hb6⟩
    have HhA6 := Lib.hid hA
    clear hA
    have K6 : Hid (∀ w', Below v6.heap.size v6 w' → Lab.At pA A w' ∧ w'.heap[gS]? = some (.cells #[.string na, .string nb, .string nc] 9) ∧ Lab.At pK Kp w' ∧ Lab.At pM A w') := fun w' h => ⟨(K5.out w' (hb6.trans (h.mono hb6.size))).1, (K5.out w' (hb6.trans (h.mono hb6.size))).2.1, (K5.out w' (hb6.trans (h.mono hb6.size))).2.2.1, HhA6.out.below h (Nat.le_refl _)⟩
    have B6 := below_next B5 hb6
    clear K5 B5 hb6
    clear HhA6 HME
    go_wp2_with fail
    have d0 : v6.cell? ⟨gS, 0, none⟩ = some (.string na) := by rw [Lib.cell_of_heap ((K6.out _ (Below.refl _ v6)).2.1)]; rfl
    have i1 : IntKind.i64.wrap (tu : Int) = (tu : Int) := by rw [IntKind.wrap_i64]; omega
    have i2 : IntKind.i64.wrap ((na.size : Int) + 1) = (na.size : Int) + 1 := by rw [IntKind.wrap_i64]; omega
    have i3 : (0 : Int) ≤ (k0 : Int) := by omega
    have i4 : (k0 : Int) ≤ (na.size : Int) := by omega
    have i5 : ¬ ((na.size : Int) + 1 = 0) := by omega
    have i6 : (na.size : Int) ≤ 100 := by omega
    go_quiet (fail)
    have hbq : Below v6.heap.size v6 (v6.drewN nq) := below_drewN (Below.refl _ _) nq
    rw [HPF.out]
    clear d0 i1 i2 i3 i4 i5 i6 HPF
    have K7 : Hid (∀ w', Below (v6.drewN nq).heap.size (v6.drewN nq) w' → Lab.At pA A w' ∧ w'.heap[gS]? = some (.cells #[.string na, .string nb, .string nc] 9) ∧ Lab.At pK Kp w' ∧ Lab.At pM A w') := fun w' h => ⟨(K6.out w' (hbq.trans (h.mono hbq.size))).1, (K6.out w' (hbq.trans (h.mono hbq.size))).2.1, (K6.out w' (hbq.trans (h.mono hbq.size))).2.2.1, (K6.out w' (hbq.trans (h.mono hbq.size))).2.2.2⟩
    have B7 := below_next B6 hbq
    clear K6 B6 hbq
    go_wp2_with (go_at_call 28; refine (HWE.out pA cA _ ((K7.out _ (Below.refl _ (v6.drewN nq))).1)).mono ?_)
    first | rintro e v8 pW cW rfl hA hb8 | rintro e v8 ⟨⟨pW, cW, rfl, hA⟩, hb8⟩
    have HhA8 := Lib.hid hA
    clear hA
    have K8 : Hid (∀ w', Below v8.heap.size v8 w' → Lab.At pA A w' ∧ w'.heap[gS]? = some (.cells #[.string na, .string nb, .string nc] 9) ∧ Lab.At pK Kp w' ∧ Lab.At pM A w' ∧ Lab.At pW Wt w') := fun w' h => ⟨(K7.out w' (hb8.trans (h.mono hb8.size))).1, (K7.out w' (hb8.trans (h.mono hb8.size))).2.1, (K7.out w' (hb8.trans (h.mono hb8.size))).2.2.1, (K7.out w' (hb8.trans (h.mono hb8.size))).2.2.2, HhA8.out.below h (Nat.le_refl _)⟩
    have B8 := below_next B7 hb8
    clear K7 B7 hb8
    clear HhA8 HWE
    have q4 : (((lK : Int) + (lD : Int)) != (lA : Int)) = false := by have := HF4.out; simp; omega
    go_wp2_with (go_at_call 17; refine (HSM.out pM pA cM cA _ ((K8.out _ (Below.refl _ v8)).2.2.2.1) ((K8.out _ (Below.refl _ v8)).1)).mono ?_)
    first | rintro e v9 rfl hb9 | rintro e v9 ⟨rfl, hb9⟩
    have K9 : Hid (∀ w', Below v9.heap.size v9 w' → Lab.At pA A w' ∧ w'.heap[gS]? = some (.cells #[.string na, .string nb, .string nc] 9) ∧ Lab.At pK Kp w' ∧ Lab.At pW Wt w') := fun w' h => ⟨(K8.out w' (hb9.trans (h.mono hb9.size))).1, (K8.out w' (hb9.trans (h.mono hb9.size))).2.1, (K8.out w' (hb9.trans (h.mono hb9.size))).2.2.1, (K8.out w' (hb9.trans (h.mono hb9.size))).2.2.2.2⟩
    have B9 := below_next B8 hb9
    clear K8 B8 hb9
    clear HSM
    go_wp2_with (go_at_call 16; refine (HRT.out pW cW _ ((K9.out _ (Below.refl _ v9)).2.2.2)).mono ?_)
    first | rintro e v10 rfl hb10 | rintro e v10 ⟨rfl, hb10⟩
    have K10 : Hid (∀ w', Below v10.heap.size v10 w' → Lab.At pA A w' ∧ w'.heap[gS]? = some (.cells #[.string na, .string nb, .string nc] 9) ∧ Lab.At pK Kp w' ∧ Lab.At pW Wt w') := fun w' h => ⟨(K9.out w' (hb10.trans (h.mono hb10.size))).1, (K9.out w' (hb10.trans (h.mono hb10.size))).2.1, (K9.out w' (hb10.trans (h.mono hb10.size))).2.2.1, (K9.out w' (hb10.trans (h.mono hb10.size))).2.2.2⟩
    have B10 := below_next B9 hb10
    clear K9 B9 hb10
    clear HRT q4
    go_wp2_with fail
    go_loopw [120, 19] (fun i q wr => ∃ k : Nat, k ≤ lA ∧ i = .int .i64 (k : Int) ∧ q = .int .i64 (Lab.cntB pf A k : Int) ∧ Below v10.heap.size v10 wr) (fun i _ _ => lA - (intOf i).toNat)
    case atStart => exact ⟨0, by omega, rfl, by rw [HC0.out]; rfl, Below.refl _ _⟩
    case round =>
      obtain ⟨k, hk, rfl, rfl, hb⟩ := hrel
      by_cases hlt : k < lA
      · have n1 : (0 : Int) ≤ (k : Int) := by omega
        have n2 : (k : Int) < (lA : Int) := by omega
        have hkl : k < A.length := by rw [HLA.out]; exact hlt
        obtain ⟨b1, o1, rfl, hc⟩ := ((K10.out wr hb).1).open k hkl
        have hcs := HCS.out k hkl
        have hle := HCL.out k
        have hfh := HFH.out A[k] (List.getElem_mem _)
        have d0 := (hc k hkl).1
        have d1 := (hc k hkl).2
        obtain ⟨x, hx⟩ : ∃ x, A[k] = x := ⟨_, rfl⟩
        rw [hx] at d0 d1 hcs hfh
        have hbx := World.block_lt_of_cell? _ _ d0
        obtain ⟨bp, hbp⟩ : ∃ b, Lab.begins pf x.n = b := ⟨_, rfl⟩
        have HB : Hid (∀ w, Calls Try.prog 29 #[.string x.n, .string pf] w fun e w' => e = .returned (.bool bp) ∧ w' = w) := by rw [← hbp]; exact HPX.out x.n
        obtain ⟨r, hr⟩ : ∃ r, Lab.get Wt x.n = r := ⟨_, rfl⟩
        rw [hr] at hfh
        have q1 : r.toList.isEmpty = bp := by rw [Lab.isEmpty_iff, hfh, hbp]; cases bp <;> rfl
        have q1' : decide (r.toList = []) = bp := by rw [← q1]; cases r.toList <;> rfl
        have R1 := Lib.hid (HGW.out pW cW x.n r hr)
        obtain ⟨ck, hck⟩ : ∃ ck, Lab.cntB pf A k = ck := ⟨_, rfl⟩
        rw [hck] at hcs hle ⊢
        rw [hbp] at hcs
        have HCK := Lib.hid hcs
        have i1 : (0 : Int) ≤ (ck : Int) := by omega
        have i2 : (ck : Int) ≤ 16 := by omega
        clear hc hx hcs hle hfh hbp hr hck
        go_wp2_with fail
        obtain ⟨W1, hW1⟩ : ∃ W, W = wr.alloc (.cells #[.string x.n, .string x.v] 36) := ⟨_, rfl⟩
        have a0' : W1.cell? ⟨wr.heap.size, 0, none⟩ = some (.string x.n) := by rw [hW1, Lib.cell_of_heap (alloc_new _ _)]; rfl
        have hbW : Below v10.heap.size v10 W1 := by rw [hW1]; exact hb.alloc hb.size _
        rw [← hW1]
        clear hW1 d0 d1
        go_wp2_with (go_at_call 29; refine (HB.out _).mono ?_)
        try rintro _ _ ⟨rfl, rfl⟩
        cases bp
        all_goals
          go_wp2_with (go_at_call 19; refine (R1.out _ ((K10.out _ hbW).2.2.2)).mono ?_)
          first | rintro e x9 rfl hb9 | rintro e x9 ⟨rfl, hb9⟩
          have hb10 := hbW.trans (hb9.mono hbW.size)
          go_wp2_with fail
          go_roundw
          case rel => exact ⟨k + 1, by omega, by go_num, by rw [HCK.out]; go_num, hb10⟩
          case measure => simp [intOf]; omega
      · have n2 : (lA : Int) ≤ (k : Int) := by omega
        obtain rfl : k = lA := by omega
        rw [HCB.out]
        go_wp2_with fail
        obtain ⟨wo, hwo⟩ : ∃ wo : World, wo = wr := ⟨_, rfl⟩
        subst hwo
        go_loopw [142] (fun i wr => ∃ j : Nat, j ≤ lK ∧ i = .int .i64 (j : Int) ∧ Below v10.heap.size v10 wr) (fun i _ => lK - (intOf i).toNat)
        case atStart => exact ⟨0, by omega, rfl, hb⟩
        case round =>
          clear hb
          obtain ⟨j, hj, rfl, hb⟩ := hrel
          by_cases hjt : j < lK
          · have n3 : (0 : Int) ≤ (j : Int) := by omega
            have n4 : (j : Int) < (lK : Int) := by omega
            have hkl : j < Kp.length := by rw [HLK.out]; exact hjt
            obtain ⟨b1, o1, rfl, hc⟩ := ((K10.out wr hb).2.2.1).open j hkl
            have hkp := HKP.out Kp[j] (List.getElem_mem _)
            have d0 := (hc j hkl).1
            have d1 := (hc j hkl).2
            obtain ⟨x, hx⟩ : ∃ x, Kp[j] = x := ⟨_, rfl⟩
            rw [hx] at d0 d1 hkp
            have hbx := World.block_lt_of_cell? _ _ d0
            have tst : ∀ t : ByteArray, (Lab.bs x.n = Lab.bs t → (x.n.toList == t.toList) = true ∧ (x.n.toList != t.toList) = false) ∧ (¬ Lab.bs x.n = Lab.bs t → (x.n.toList == t.toList) = false ∧ (x.n.toList != t.toList) = true) := fun t => by
              simp only [bne, Lab.bytes_beq]
              exact ⟨fun h => by simp [h], fun h => by simp [h]⟩
            have hcase : ((x.n.toList == na.toList) = true ∧ (x.n.toList != na.toList) = false) ∨ (((x.n.toList == na.toList) = false ∧ (x.n.toList != na.toList) = true) ∧ ((x.n.toList == nb.toList) = true ∧ (x.n.toList != nb.toList) = false)) ∨ (((x.n.toList == na.toList) = false ∧ (x.n.toList != na.toList) = true) ∧ ((x.n.toList == nb.toList) = false ∧ (x.n.toList != nb.toList) = true) ∧ ((x.n.toList == nc.toList) = true ∧ (x.n.toList != nc.toList) = false)) := by
              by_cases h1 : Lab.bs x.n = Lab.bs na
              · exact .inl ((tst na).1 h1)
              · by_cases h2 : Lab.bs x.n = Lab.bs nb
                · exact .inr (.inl ⟨(tst na).2 h1, (tst nb).1 h2⟩)
                · exact .inr (.inr ⟨(tst na).2 h1, (tst nb).2 h2, (tst nc).1 (by rcases hkp with h | h | h; exact absurd h h1; exact absurd h h2; exact h)⟩)
            clear tst
            clear hc hx hkp
            go_wp2_with fail
            obtain ⟨W1, hW1⟩ : ∃ W, W = wr.alloc (.cells #[.string x.n, .string x.v] 36) := ⟨_, rfl⟩
            have a0' : W1.cell? ⟨wr.heap.size, 0, none⟩ = some (.string x.n) := by rw [hW1, Lib.cell_of_heap (alloc_new _ _)]; rfl
            have hbW : Below v10.heap.size v10 W1 := by rw [hW1]; exact hb.alloc hb.size _
            rw [← hW1]
            have s0 : W1.cell? ⟨gS, 0, none⟩ = some (.string na) := by rw [Lib.cell_of_heap ((K10.out W1 hbW).2.1)]; rfl
            have s1 : W1.cell? ⟨gS, 1, none⟩ = some (.string nb) := by rw [Lib.cell_of_heap ((K10.out W1 hbW).2.1)]; rfl
            have s2 : W1.cell? ⟨gS, 2, none⟩ = some (.string nc) := by rw [Lib.cell_of_heap ((K10.out W1 hbW).2.1)]; rfl
            clear hW1 d0 d1
            rcases hcase with ⟨h1, g1⟩ | ⟨⟨h1, g1⟩, h2, g2⟩ | ⟨⟨h1, g1⟩, ⟨h2, g2⟩, h3, g3⟩
            all_goals
              go_quiet (fail)
              go_wp2_with fail
              go_roundw
              case rel => exact ⟨j + 1, by omega, by go_num, below_drewN hbW _⟩
              case measure => simp [intOf]; omega
          · have n4 : (lK : Int) ≤ (j : Int) := by omega
            go_wp2_with fail
            go_ret
            exact ⟨rfl, B10.trans (hb.mono B10.size)⟩
end Go.Proofs.Ytflmojjpdmbnaaa
