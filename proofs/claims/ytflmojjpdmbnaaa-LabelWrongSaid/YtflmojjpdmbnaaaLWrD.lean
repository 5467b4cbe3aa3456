/- The walk of LabelWrong: the law returns true for every input. (Printed by gen_wr.py.) -/
import Derived.Test.YtflmojjpdmbnaaaLWrI
import Derived.Deep.DeepCutAuto
namespace Go.Proofs.Ytflmojjpdmbnaaa
open Go.RowKit
set_option linter.unusedVariables false

set_option maxHeartbeats 12800000 in
set_option maxRecDepth 100000 in
theorem walk_wrD (a0 : Option Addr) (xs0 : List Lab.Sm) (len0 cap0 : Nat) (n1 n2 : Int) (w : World)
    (hlen0 : xs0.length = len0) (hAt0 : Lab.SmAt a0 xs0 w) (hFit0 : Lab.SmFit xs0) (hlc0 : len0 ≤ cap0) (hmax0 : cap0 ≤ maxLen) (wn2 : (Lit.int .u8 n2).wf = true) (hp : ∃ k : Nat, k < 256 ∧ n1 = (k : Int) ∧ (k % 7 = 2 ∨ k % 7 = 4)) :
    Calls Try.prog 11 #[.slice a0 len0 cap0, .int .u8 n1, .int .u8 n2] w fun e w' => e = .returned (.bool true) ∧ Below w.heap.size w w' := by
  obtain ⟨wy, _, rfl, hp⟩ := hp
  obtain ⟨tu, _, rfl⟩ : ∃ k : Nat, k < 256 ∧ n2 = (k : Int) := by
    have h1 := row.wf_u8 wn2
    exact ⟨_, h1.2, by simpa using h1.1⟩
  clear wn2
  have G0 := Lab.tl_good xs0
  have HR0 := Lib.hid (fun n w hn hA => openedF (n := n) hn (lright_is a0 xs0 len0 cap0 w hlen0 hA hFit0 hlc0 hmax0))
  obtain ⟨A, hA⟩ : ∃ A, Lab.tl xs0 = A := ⟨_, rfl⟩
  rw [hA] at HR0 G0
  obtain ⟨lA, hlA⟩ : ∃ n, A.length = n := ⟨_, rfl⟩
  have zA := G0.length
  rw [hlA] at zA
  have HLA := Lib.hid hlA
  have HG0 := Lib.hid G0
  obtain ⟨k7, hk7⟩ : ∃ k, wy % 7 = k := ⟨_, rfl⟩
  rw [hk7] at hp
  have HP := Lib.hid hp
  have r7 : Int.tmod (wy : Int) 7 = (k7 : Int) := by rw [Int.tmod_eq_emod_of_nonneg (by omega), ← hk7]; omega
  obtain ⟨k6, hk6⟩ : ∃ k, tu % 6 = k := ⟨_, rfl⟩
  have hk6l : k6 < 6 := by omega
  have r6 : Int.tmod (tu : Int) 6 = (k6 : Int) := by rw [Int.tmod_eq_emod_of_nonneg (by omega), ← hk6]; omega
  obtain ⟨k4, hk4⟩ : ∃ k, tu % 4 = k := ⟨_, rfl⟩
  have hk4l : k4 < 4 := by omega
  have r4 : Int.tmod (tu : Int) 4 = (k4 : Int) := by rw [Int.tmod_eq_emod_of_nonneg (by omega), ← hk4]; omega
  have X0 := Lib.hid hAt0
  clear hAt0 hlen0 hFit0 hlc0 hmax0 hA hlA G0 hp hk7 hk6 hk4
  go_enter Try.func11, Try.ntmps11
  have K0 : Hid (∀ w', Below w.heap.size w w' → Lab.SmAt a0 xs0 w') := fun w' h => X0.out.below h (Nat.le_refl _)
  have B0 : Below w.heap.size w w := Below.refl _ _
  go_wp2_with (go_at_call 13; refine (awake4_true _).mono ?_)
  first | rintro e v1 rfl hb1 | rintro e v1 ⟨rfl, hb1⟩
  have K1 : Hid (∀ w', Below v1.heap.size v1 w' → Lab.SmAt a0 xs0 w') := fun w' h => (K0.out w' (hb1.trans (h.mono hb1.size)))
  have B1 := below_next B0 hb1
  clear K0 B0 hb1
  clear X0
  go_wp2_with (go_at_call 20; refine (HR0.out _ _ HLA.out ((K1.out _ (Below.refl _ v1)))).mono ?_)
  first | rintro e v2 pA cA rfl hA hform hb2 | rintro e v2 ⟨⟨pA, cA, rfl, hA, hform⟩, hb2⟩
  have HhA2 := Lib.hid hA
  clear hA
  have Hhform2 := Lib.hid hform
  clear hform
  have K2 : Hid (∀ w', Below v2.heap.size v2 w' → Lab.At pA A w') := fun w' h => HhA2.out.below h (Nat.le_refl _)
  have B2 := below_next B1 hb2
  clear K1 B1 hb2
  clear HhA2 HR0
  go_upto_region 6 with fail
  obtain ⟨W3, hW3⟩ : ∃ W, W = v2.alloc (.cells #[.slice pA lA cA] 27) := ⟨_, rfl⟩
  have hb3 : Below v2.heap.size v2 W3 := by rw [hW3]; exact (Below.refl _ _).alloc (Nat.le_refl _) _
  have HX7 : Hid (W3.heap[v2.heap.size]? = some (.cells #[.slice pA lA cA] 27)) := by
    show W3.heap[v2.heap.size]? = _
    rw [hW3]
    exact alloc_new _ _
  obtain ⟨X7, hX7⟩ : ∃ X, v2.heap.size = X := ⟨_, rfl⟩
  rw [hX7] at HX7
  rw [← hW3, hX7]
  clear hW3
  have K3 : Hid (∀ w', Below W3.heap.size W3 w' → Lab.At pA A w' ∧ w'.cell? ⟨X7, 0, none⟩ = some (.slice pA lA cA)) := fun w' h => ⟨(K2.out w' (hb3.trans (h.mono hb3.size))), cell_later h (by rw [Lib.cell_of_heap HX7.out]; rfl) (Nat.le_refl _)⟩
  have B3 := below_next B2 hb3
  clear K2 B2 hb3
  clear hX7 HX7
  go_upto_block 0 with fail
  go_cut [10] (fun s10 wx => ∃ (bad : Lab.L) (want : Int), s10 = .int .i64 want ∧ Hid (Lab.Bad A bad want ∧ (want == 42) = false) ∧ wx.cell? ⟨W3.heap.size, 0, none⟩ = some (.string bad.n) ∧ wx.cell? ⟨W3.heap.size, 1, none⟩ = some (.string bad.v) ∧ Below W3.heap.size W3 wx)
  case first =>
    obtain rfl | rfl := HP.out
    · go_wp2_with fail
      go_meet
      exact ⟨⟨⟨#[45]⟩, ⟨#[255]⟩⟩, 40, rfl, ⟨Lab.bad_one A HG0.out _ 40 (.inl rfl) (by decide +kernel) ⟨by decide +kernel, by decide +kernel⟩, rfl⟩, by simp, by simp, (Below.refl _ _).alloc (Nat.le_refl _) _⟩
    · go_wp2_with fail
      go_meet
      exact ⟨⟨⟨#[]⟩, ⟨#[49]⟩⟩, 40, rfl, ⟨Lab.bad_one A HG0.out _ 40 (.inl rfl) (by decide +kernel) ⟨by decide +kernel, by decide +kernel⟩, rfl⟩, by simp, by simp, (Below.refl _ _).alloc (Nat.le_refl _) _⟩
  case rest =>
    obtain ⟨bad, want, rfl, HB, hb0, hb1, hbx⟩ := hcut
    obtain ⟨W5, hW5⟩ : ∃ W, W = wc := ⟨_, rfl⟩
    subst hW5
    obtain ⟨bn, bv⟩ := bad
    dsimp only at hb0 hb1
    have HB0 := Lib.hid hb0
    have HB1 := Lib.hid hb1
    have K70 : Hid (∀ w', Below W5.heap.size W5 w' → Lab.At pA A w' ∧ w'.cell? ⟨X7, 0, none⟩ = some (.slice pA lA cA) ∧ w'.cell? ⟨W3.heap.size, 0, none⟩ = some (.string bn) ∧ w'.cell? ⟨W3.heap.size, 1, none⟩ = some (.string bv)) := fun w' h => ⟨(K3.out w' (hbx.trans (h.mono hbx.size))).1, (K3.out w' (hbx.trans (h.mono hbx.size))).2, cell_later h HB0.out (Nat.le_refl _), cell_later h HB1.out (Nat.le_refl _)⟩
    have B70 := hbx
    clear hbx hb0 hb1 HB0 HB1
    have hbr := HB.out.1.right
    have hbf := HB.out.1.fit
    obtain ⟨rf, f, rg, g, hof, hst, hres⟩ := HB.out.1.res
    replace hres := hres.resolve_left (fun h => by have := HB.out.2; rw [h.1] at this; cases this)
    have hck := HB.out.1.chk
    rw [HLA.out] at hck
    have hne := HB.out.1.ne
    have hal : (A ++ [(⟨bn, bv⟩ : Lab.L)]).length = lA + 1 := by rw [List.length_append, HLA.out]; rfl
    have hf1 : Lab.Fit maxLen [(⟨bn, bv⟩ : Lab.L)] := fun x hx => by
      rw [List.mem_singleton.1 hx]
      unfold maxLen
      dsimp only at hbf ⊢
      omega
    have hfa : Lab.Fit maxLen (A ++ [(⟨bn, bv⟩ : Lab.L)]) := fun x hx => by
      rw [List.mem_append] at hx
      exact hx.elim (HG0.out.fit x) (hf1 x)
    have hSET := fun p q c c2 w hA hB => (lset_is p q A [(⟨bn, bv⟩ : Lab.L)] lA c 1 c2 rg g hst w HLA.out rfl hA hB HG0.out.fit hf1 (by omega) (by omega))
    obtain ⟨L, hL⟩ : ∃ L, A ++ [(⟨bn, bv⟩ : Lab.L)] = L := ⟨_, rfl⟩
    rw [hL] at hbr hof hck hal hfa
    have HCK := Lib.hid (fun p c w hA => check_is p L (lA + 1) c w hal hA hfa (by unfold maxLen; omega) (lA : Int) want hck)
    have HOF := Lib.hid (fun p c w hA => lof_is p L (lA + 1) c rf f hof w hal hA hfa (by omega))
    have HST := Lib.hid hSET
    have HRT := Lib.hid (fun p c w hA => right_is p L (lA + 1) c false hbr w hal hA hfa (by unfold maxLen; omega))
    have HAL := Lib.hid hal
    have HFA := Lib.hid hfa
    have HBR := Lib.hid hbr
    have HL := Lib.hid hL
    have HRES := Lib.hid hres
    have HNE := Lib.hid hne
    clear hbr hbf hof hst hres hck hne hal hf1 hfa hSET hL HB
    go_wp2_with fail
    refine wp_region_inv (by kernel_rfl) (by kernel_rfl) (fun a0 d a w' => ∃ t139 t140 t141 t142 t143 t144 t20 : Value, a = (((((((a0.put (some 139) t139).put (some 140) t140).put (some 141) t141).put (some 142) t142).put (some 143) t143).put (some 144) t144).put (some 20) t20) ∧ Wz.I W5.heap.size W5 W5.heap.size pA lA cA A ⟨bn, bv⟩ d t139 t140 t141 t142 t143 t144 t20 w') ?h0 ?hs ?he
    case h0 => exact ⟨u139, u140, u141, u142, u143, u144, undef, (by go_frame), Wz.start _ _ _ _ _ _ _ _ _ _ _ _ _ _⟩
    case hs =>
      refine ⟨?_, ?_, ?_, ?_, ?_, ?_, ?_, ?_, trivial⟩
      · rintro d a w' hd hdep ⟨t139, t140, t141, t142, t143, t144, t20, rfl, h⟩ K hK
        rw [if_pos (by rfl)]
        go_frame
        go_simp
        exact hK _ _ ⟨.slice (some ⟨w'.heap.size, 0, none⟩) 0 0, _, _, _, _, _, _, (by go_frame), Wz.s0 h ((Below.refl _ w').alloc h.b.size _) (fun q => q.alloc _) (fun q => q.alloc _) hd ⟨w'.heap.size, rfl, h.b.size, alloc_new _ _⟩⟩
      · rintro d a w' hd hdep ⟨t139, t140, t141, t142, t143, t144, t20, rfl, h⟩ K hK
        rw [if_pos (by rfl)]
        go_frame
        have hc := (K70.out w' h.b).2.1
        go_simp
        exact hK _ _ ⟨_, .slice pA lA cA, _, _, _, _, _, (by go_frame), Wz.s1 h hd rfl⟩
      · rintro d a w' hd hdep ⟨t139, t140, t141, t142, t143, t144, t20, rfl, h⟩ K hK
        have h0 := h.f0 (hdep 0 (by decide)) hd
        have h1 := h.f1 (hdep 1 (by decide))
        refine step_catA 27 27 Try.underlying27 rfl (by rfl) _ _ (by rfl) W5.heap.size _ [] (by go_frame; rfl) h0.row A pA lA cA (by go_frame; exact h1) HLA.out Hhform2.out ((K70.out w' h.b).1) (by simp only [List.length_nil]; omega) h.b.size ?_
        intro v5 w5 hr5 hg5
        go_frame
        exact hK _ _ ⟨_, _, v5, _, _, _, _, (by go_frame), Wz.s2 h (Below.grown (Below.refl _ w') hg5 h.b.size (fun j hj => (World.ownsRow.lt h0.row j hj).1)) (fun q => q.grown h0 hg5) (fun q => q.grown h0.row hg5) hd (hdep 0 (by decide)) hr5⟩
      · rintro d a w' hd hdep ⟨t139, t140, t141, t142, t143, t144, t20, rfl, h⟩ K hK
        rw [if_pos (by rfl)]
        go_frame
        have e0 := (K70.out w' h.b).2.2.1
        have e1 := (K70.out w' h.b).2.2.2
        go_simp
        exact hK _ _ ⟨_, _, _, .agg #[.string bn, .string bv], _, _, _, (by go_frame), Wz.s3 h hd rfl⟩
      · rintro d a w' hd hdep ⟨t139, t140, t141, t142, t143, t144, t20, rfl, h⟩ K hK
        rw [if_pos (by rfl)]
        go_frame
        obtain rfl := h.f3 (hdep 3 (by decide))
        go_simp
        exact hK _ _ ⟨_, _, _, _, .slice (some ⟨w'.heap.size, 0, none⟩) 1 1, _, _, (by go_frame), Wz.s4 h ((Below.refl _ w').alloc h.b.size _) (fun q => q.alloc _) (fun q => q.alloc _) (fun q => q.alloc _) hd ⟨w'.heap.size, rfl, alloc_new _ _⟩⟩
      · rintro d a w' hd hdep ⟨t139, t140, t141, t142, t143, t144, t20, rfl, h⟩ K hK
        have h2 := h.f2 (hdep 2 (by decide)) hd
        obtain ⟨G, hx4, hG⟩ := h.f4 (hdep 4 (by decide)) hd
        refine step_pushL 27 Try.underlying27 (by rfl) _ _ (by rfl) W5.heap.size _ _ (by go_frame; rfl) h2 ⟨bn, bv⟩ G 1 (by go_frame; exact hx4) hG (by rw [List.nil_append, HLA.out]; omega) h.b.size ?_
        intro g5 c5 w5 hr5 hg5
        go_frame
        exact hK _ _ ⟨_, _, _, _, _, .slice (some ⟨g5, 0, none⟩) (([] ++ A).length + 1) c5, _, (by go_frame), Wz.s5 h (Below.grown (Below.refl _ w') hg5 h.b.size (fun j hj => (World.ownsRow.lt h2 j hj).1)) (fun q => q.grown h2 hg5) hd (h.c2_0 (hdep 2 (by decide))) (hdep 2 (by decide)) (hdep 4 (by decide)) hr5⟩
      · rintro d a w' hd hdep ⟨t139, t140, t141, t142, t143, t144, t20, rfl, h⟩ K hK
        rw [if_pos (by rfl)]
        go_frame
        go_simp
        exact hK _ _ ⟨_, _, _, _, _, _, .pointer (some ⟨w'.heap.size, 0, none⟩), (by go_frame), Wz.s6 h ((Below.refl _ w').alloc h.b.size _) (fun q => q.alloc _) (fun q => q.alloc _) (fun q => q.alloc _) (fun q => q.alloc _) hd ⟨w'.heap.size, rfl, h.b.size, alloc_new _ _⟩⟩
      · rintro d a w' hd hdep ⟨t139, t140, t141, t142, t143, t144, t20, rfl, h⟩ K hK
        rw [if_pos (by rfl)]
        go_frame
        obtain ⟨G, rfl, hG, hZ⟩ := h.f6 (hdep 6 (by decide)) hd
        have h5 := h.f5 (hdep 5 (by decide)) hd
        obtain ⟨q, m, e5, _⟩ := OwnLabels.open h5
        rw [show (([] : List Lab.L) ++ A ++ [(⟨bn, bv⟩ : Lab.L)]).length = A.length + 1 by simp] at e5
        subst e5
        have z0 : w'.cell? ⟨G, 0, none⟩ = some (.slice none 0 0) := by rw [Lib.cell_of_heap hZ]; rfl
        have z2 : w'.frozen? ⟨G, 0, none⟩ = false := by simp [World.frozen?, hZ]
        have h6 := (own_store (x := .slice q (A.length + 1) m) h5 hZ).at
        rw [List.nil_append] at h6
        go_simp
        exact hK _ _ ⟨_, _, _, _, _, _, _, (by go_frame), Wz.s7 h ((Below.refl _ w').setCell hG _) hd (h.c2_0 (h.c5_2 (hdep 5 (by decide)))) (h.c5_2 (hdep 5 (by decide))) (h.c5_4 (hdep 5 (by decide))) (hdep 5 (by decide)) (hdep 6 (by decide)) ⟨G, q, m, rfl, hG, World.cell?_setCell_same _ _ _ z0, h6⟩⟩
    case he =>
      rintro a w6 ⟨t139, t140, t141, t142, t143, t144, t20, rfl, h⟩
      obtain ⟨X20, q20, m20, rfl, hX20, hc20, hA20⟩ := h.f7 rfl
      have hb6 := h.b
      have HC20 := Lib.hid hc20
      have HA20 := Lib.hid hA20
      clear h hc20 hA20 hX20
      go_frame
      have K71 : Hid (∀ w', Below w6.heap.size w6 w' → Lab.At pA A w' ∧ w'.cell? ⟨X7, 0, none⟩ = some (.slice pA lA cA) ∧ w'.cell? ⟨W3.heap.size, 0, none⟩ = some (.string bn) ∧ w'.cell? ⟨W3.heap.size, 1, none⟩ = some (.string bv) ∧ w'.cell? ⟨X20, 0, none⟩ = some (.slice q20 (lA + 1) m20) ∧ Lab.At q20 L w') := fun w' h => ⟨(K70.out w' (hb6.trans (h.mono hb6.size))).1, (K70.out w' (hb6.trans (h.mono hb6.size))).2.1, (K70.out w' (hb6.trans (h.mono hb6.size))).2.2.1, (K70.out w' (hb6.trans (h.mono hb6.size))).2.2.2, by have h1 := cell_later h HC20.out (Nat.le_refl _); rw [HLA.out] at h1; exact h1, by rw [← HL.out]; exact HA20.out.below h (Nat.le_refl _)⟩
      have B71 := below_next B70 hb6
      clear K70 B70 hb6
      clear HC20 HA20
      have c20 := (K71.out _ (Below.refl _ w6)).2.2.2.2.1
      have hbr20 := World.block_lt_of_cell? _ _ c20
      clear hbr20
      go_wp2_with (go_at_call 31; refine (HCK.out q20 m20 _ ((K71.out _ (Below.refl _ w6)).2.2.2.2.2)).mono ?_)
      first | rintro e v72 rfl hb72 | rintro e v72 ⟨rfl, hb72⟩
      have K72 : Hid (∀ w', Below v72.heap.size v72 w' → Lab.At pA A w' ∧ w'.cell? ⟨X7, 0, none⟩ = some (.slice pA lA cA) ∧ w'.cell? ⟨W3.heap.size, 0, none⟩ = some (.string bn) ∧ w'.cell? ⟨W3.heap.size, 1, none⟩ = some (.string bv) ∧ w'.cell? ⟨X20, 0, none⟩ = some (.slice q20 (lA + 1) m20) ∧ Lab.At q20 L w') := fun w' h => ⟨(K71.out w' (hb72.trans (h.mono hb72.size))).1, (K71.out w' (hb72.trans (h.mono hb72.size))).2.1, (K71.out w' (hb72.trans (h.mono hb72.size))).2.2.1, (K71.out w' (hb72.trans (h.mono hb72.size))).2.2.2.1, (K71.out w' (hb72.trans (h.mono hb72.size))).2.2.2.2.1, (K71.out w' (hb72.trans (h.mono hb72.size))).2.2.2.2.2⟩
      have B72 := below_next B71 hb72
      clear K71 B71 hb72
      clear HCK c20
      have c20 := (K72.out _ (Below.refl _ v72)).2.2.2.2.1
      go_wp2_with (go_at_call 15; refine ((opened rfl (HOF.out q20 m20 _ ((K72.out _ (Below.refl _ v72)).2.2.2.2.2)))).mono ?_)
      first | rintro e v73 p9 c9 rfl hA hb73 | rintro e v73 ⟨⟨p9, c9, rfl, hA⟩, hb73⟩
      have HhA73 := Lib.hid hA
      clear hA
      have K73 : Hid (∀ w', Below v73.heap.size v73 w' → Lab.At pA A w' ∧ w'.cell? ⟨X7, 0, none⟩ = some (.slice pA lA cA) ∧ w'.cell? ⟨W3.heap.size, 0, none⟩ = some (.string bn) ∧ w'.cell? ⟨W3.heap.size, 1, none⟩ = some (.string bv) ∧ w'.cell? ⟨X20, 0, none⟩ = some (.slice q20 (lA + 1) m20) ∧ Lab.At q20 L w') := fun w' h => ⟨(K72.out w' (hb73.trans (h.mono hb73.size))).1, (K72.out w' (hb73.trans (h.mono hb73.size))).2.1, (K72.out w' (hb73.trans (h.mono hb73.size))).2.2.1, (K72.out w' (hb73.trans (h.mono hb73.size))).2.2.2.1, (K72.out w' (hb73.trans (h.mono hb73.size))).2.2.2.2.1, (K72.out w' (hb73.trans (h.mono hb73.size))).2.2.2.2.2⟩
      have B73 := below_next B72 hb73
      clear K72 B72 hb73
      clear HOF c20
      have c7 := (K73.out _ (Below.refl _ v73)).2.1
      have n0 := (K73.out _ (Below.refl _ v73)).2.2.1
      have n1 := (K73.out _ (Below.refl _ v73)).2.2.2.1
      go_wp2_with fail
      obtain ⟨w10, hw10⟩ : ∃ W, W = v73.alloc (.cells #[.string bn, .string bv] 36) := ⟨_, rfl⟩
      have hb10 : Below v73.heap.size v73 w10 := by rw [hw10]; exact (Below.refl _ _).alloc (Nat.le_refl _) _
      have HG10 : Hid (w10.heap[v73.heap.size]? = some (.cells #[.string bn, .string bv] 36)) := by
        show w10.heap[v73.heap.size]? = _
        rw [hw10]
        exact alloc_new _ _
      rw [← hw10]
      clear hw10 c7 n0 n1
      have K74 : Hid (∀ w', Below w10.heap.size w10 w' → Lab.At pA A w' ∧ w'.cell? ⟨X7, 0, none⟩ = some (.slice pA lA cA) ∧ w'.cell? ⟨W3.heap.size, 0, none⟩ = some (.string bn) ∧ w'.cell? ⟨W3.heap.size, 1, none⟩ = some (.string bv) ∧ w'.cell? ⟨X20, 0, none⟩ = some (.slice q20 (lA + 1) m20) ∧ Lab.At q20 L w') := fun w' h => ⟨(K73.out w' (hb10.trans (h.mono hb10.size))).1, (K73.out w' (hb10.trans (h.mono hb10.size))).2.1, (K73.out w' (hb10.trans (h.mono hb10.size))).2.2.1, (K73.out w' (hb10.trans (h.mono hb10.size))).2.2.2.1, (K73.out w' (hb10.trans (h.mono hb10.size))).2.2.2.2.1, (K73.out w' (hb10.trans (h.mono hb10.size))).2.2.2.2.2⟩
      have B74 := below_next B73 hb10
      clear K73 B73 hb10
      go_wp2_with (go_at_call 22; refine (HST.out pA (some ⟨v73.heap.size, 0, none⟩) cA 1 w10 ((K74.out _ (Below.refl _ w10)).1) (Lab.at_box HG10.out)).mono ?_)
      first | rintro e v75 vs rfl hv hb75 | rintro e v75 ⟨⟨vs, rfl, hv⟩, hb75⟩
      have Hhv75 := Lib.hid hv
      clear hv
      have K75 : Hid (∀ w', Below v75.heap.size v75 w' → Lab.At pA A w' ∧ w'.cell? ⟨X7, 0, none⟩ = some (.slice pA lA cA) ∧ w'.cell? ⟨W3.heap.size, 0, none⟩ = some (.string bn) ∧ w'.cell? ⟨W3.heap.size, 1, none⟩ = some (.string bv) ∧ w'.cell? ⟨X20, 0, none⟩ = some (.slice q20 (lA + 1) m20) ∧ Lab.At q20 L w') := fun w' h => ⟨(K74.out w' (hb75.trans (h.mono hb75.size))).1, (K74.out w' (hb75.trans (h.mono hb75.size))).2.1, (K74.out w' (hb75.trans (h.mono hb75.size))).2.2.1, (K74.out w' (hb75.trans (h.mono hb75.size))).2.2.2.1, (K74.out w' (hb75.trans (h.mono hb75.size))).2.2.2.2.1, (K74.out w' (hb75.trans (h.mono hb75.size))).2.2.2.2.2⟩
      have B75 := below_next B74 hb75
      clear K74 B74 hb75
      clear HST HG10
      have c7 := (K75.out _ (Below.refl _ v75)).2.1
      have c20 := (K75.out _ (Below.refl _ v75)).2.2.2.2.1
      go_wp2_with (go_at_call 16; refine (HRT.out q20 m20 _ ((K75.out _ (Below.refl _ v75)).2.2.2.2.2)).mono ?_)
      first | rintro e v76 rfl hb76 | rintro e v76 ⟨rfl, hb76⟩
      have K76 : Hid (∀ w', Below v76.heap.size v76 w' → Lab.At pA A w' ∧ w'.cell? ⟨X7, 0, none⟩ = some (.slice pA lA cA) ∧ w'.cell? ⟨W3.heap.size, 0, none⟩ = some (.string bn) ∧ w'.cell? ⟨W3.heap.size, 1, none⟩ = some (.string bv) ∧ w'.cell? ⟨X20, 0, none⟩ = some (.slice q20 (lA + 1) m20) ∧ Lab.At q20 L w') := fun w' h => ⟨(K75.out w' (hb76.trans (h.mono hb76.size))).1, (K75.out w' (hb76.trans (h.mono hb76.size))).2.1, (K75.out w' (hb76.trans (h.mono hb76.size))).2.2.1, (K75.out w' (hb76.trans (h.mono hb76.size))).2.2.2.1, (K75.out w' (hb76.trans (h.mono hb76.size))).2.2.2.2.1, (K75.out w' (hb76.trans (h.mono hb76.size))).2.2.2.2.2⟩
      have B76 := below_next B75 hb76
      clear K75 B75 hb76
      clear HRT c7 c20
      have n1 := (K76.out _ (Below.refl _ v76)).2.2.2.1
      obtain ⟨hw, rfl, rfl⟩ := HRES.out
      go_wp2_with fail
      obtain ⟨WF, hWF⟩ : ∃ W, W = v76.alloc (.cells #[.func (.func 32) #[] #[.pointer (some ⟨X20, 0, none⟩)], .func (.func 33) #[] #[.pointer (some ⟨X7, 0, none⟩), .pointer (some ⟨X20, 0, none⟩)], .func (.func 34) #[] #[.pointer (some ⟨X20, 0, none⟩), .pointer (some ⟨X7, 0, none⟩)], .func (.func 35) #[] #[.pointer (some ⟨X7, 0, none⟩), .pointer (some ⟨X20, 0, none⟩)], .func (.func 36) #[] #[.pointer (some ⟨X20, 0, none⟩)], .func (.func 37) #[] #[.pointer (some ⟨X20, 0, none⟩)], .func (.func 38) #[] #[.pointer (some ⟨X20, 0, none⟩)]] 57) := ⟨_, rfl⟩
      have hbF : Below v76.heap.size v76 WF := by rw [hWF]; exact (Below.refl _ _).alloc (Nat.le_refl _) _
      have HF : Hid (WF.heap[v76.heap.size]? = some (.cells #[.func (.func 32) #[] #[.pointer (some ⟨X20, 0, none⟩)], .func (.func 33) #[] #[.pointer (some ⟨X7, 0, none⟩), .pointer (some ⟨X20, 0, none⟩)], .func (.func 34) #[] #[.pointer (some ⟨X20, 0, none⟩), .pointer (some ⟨X7, 0, none⟩)], .func (.func 35) #[] #[.pointer (some ⟨X7, 0, none⟩), .pointer (some ⟨X20, 0, none⟩)], .func (.func 36) #[] #[.pointer (some ⟨X20, 0, none⟩)], .func (.func 37) #[] #[.pointer (some ⟨X20, 0, none⟩)], .func (.func 38) #[] #[.pointer (some ⟨X20, 0, none⟩)]] 57)) := by
        show WF.heap[v76.heap.size]? = _
        rw [hWF]
        exact alloc_new _ _
      rw [← hWF]
      clear hWF n1
      have K77 : Hid (∀ w', Below WF.heap.size WF w' → Lab.At pA A w' ∧ w'.cell? ⟨X7, 0, none⟩ = some (.slice pA lA cA) ∧ w'.cell? ⟨W3.heap.size, 0, none⟩ = some (.string bn) ∧ w'.cell? ⟨W3.heap.size, 1, none⟩ = some (.string bv) ∧ w'.cell? ⟨X20, 0, none⟩ = some (.slice q20 (lA + 1) m20) ∧ Lab.At q20 L w' ∧ w'.heap[v76.heap.size]? = some (.cells #[.func (.func 32) #[] #[.pointer (some ⟨X20, 0, none⟩)], .func (.func 33) #[] #[.pointer (some ⟨X7, 0, none⟩), .pointer (some ⟨X20, 0, none⟩)], .func (.func 34) #[] #[.pointer (some ⟨X20, 0, none⟩), .pointer (some ⟨X7, 0, none⟩)], .func (.func 35) #[] #[.pointer (some ⟨X7, 0, none⟩), .pointer (some ⟨X20, 0, none⟩)], .func (.func 36) #[] #[.pointer (some ⟨X20, 0, none⟩)], .func (.func 37) #[] #[.pointer (some ⟨X20, 0, none⟩)], .func (.func 38) #[] #[.pointer (some ⟨X20, 0, none⟩)]] 57)) := fun w' h => ⟨(K76.out w' (hbF.trans (h.mono hbF.size))).1, (K76.out w' (hbF.trans (h.mono hbF.size))).2.1, (K76.out w' (hbF.trans (h.mono hbF.size))).2.2.1, (K76.out w' (hbF.trans (h.mono hbF.size))).2.2.2.1, (K76.out w' (hbF.trans (h.mono hbF.size))).2.2.2.2.1, (K76.out w' (hbF.trans (h.mono hbF.size))).2.2.2.2.2, below_kept h HF.out (lt_of_heap HF.out)⟩
      have B77 := below_next B76 hbF
      clear K76 B76 hbF
      clear HF
      go_loopw [204] (fun i wr => ∃ k : Nat, k ≤ 7 ∧ i = .int .i64 (k : Int) ∧ Below WF.heap.size WF wr) (fun i _ => 7 - (intOf i).toNat)
      case atStart => exact ⟨0, by omega, rfl, Below.refl _ _⟩
      case round =>
        obtain ⟨k, hk, rfl, hb⟩ := hrel
        obtain rfl | rfl | rfl | rfl | rfl | rfl | rfl | rfl : k = 0 ∨ k = 1 ∨ k = 2 ∨ k = 3 ∨ k = 4 ∨ k = 5 ∨ k = 6 ∨ k = 7 := by omega
        · have c0 : wr.cell? ⟨v76.heap.size, 0, none⟩ = some (.func (.func 32) #[] #[.pointer (some ⟨X20, 0, none⟩)]) := by rw [Lib.cell_of_heap ((K77.out wr hb).2.2.2.2.2.2)]; rfl
          have HW := Lib.hid (wr1_is X20 q20 L (lA + 1) m20 wr HBR.out HAL.out ((K77.out wr hb).2.2.2.2.2.1) HFA.out (by omega) ((K77.out wr hb).2.2.2.2.1))
          go_wp2_with (go_at_call 32; refine HW.out.mono ?_)
          rintro e w3 ⟨⟨p3, c3, rfl⟩, hb3⟩
          have hb4 := hb.trans (hb3.mono hb.size)
          clear HW c0
          go_wp2_with fail
          go_roundw
          case rel => exact ⟨1, by omega, rfl, hb4⟩
          case measure => simp [intOf]
        · have c0 : wr.cell? ⟨v76.heap.size, 1, none⟩ = some (.func (.func 33) #[] #[.pointer (some ⟨X7, 0, none⟩), .pointer (some ⟨X20, 0, none⟩)]) := by rw [Lib.cell_of_heap ((K77.out wr hb).2.2.2.2.2.2)]; rfl
          have HW := Lib.hid (wr2_is X20 q20 L (lA + 1) m20 wr HBR.out HAL.out ((K77.out wr hb).2.2.2.2.2.1) HFA.out (by omega) ((K77.out wr hb).2.2.2.2.1) pA A lA cA X7 HLA.out ((K77.out wr hb).1) HG0.out.fit (by omega) ((K77.out wr hb).2.1))
          go_wp2_with (go_at_call 33; refine HW.out.mono ?_)
          rintro e w3 ⟨⟨p3, c3, rfl⟩, hb3⟩
          have hb4 := hb.trans (hb3.mono hb.size)
          clear HW c0
          go_wp2_with fail
          go_roundw
          case rel => exact ⟨2, by omega, rfl, hb4⟩
          case measure => simp [intOf]
        · have c0 : wr.cell? ⟨v76.heap.size, 2, none⟩ = some (.func (.func 34) #[] #[.pointer (some ⟨X20, 0, none⟩), .pointer (some ⟨X7, 0, none⟩)]) := by rw [Lib.cell_of_heap ((K77.out wr hb).2.2.2.2.2.2)]; rfl
          have HW := Lib.hid (wr3_is X20 q20 L (lA + 1) m20 wr HBR.out HAL.out ((K77.out wr hb).2.2.2.2.2.1) HFA.out (by omega) ((K77.out wr hb).2.2.2.2.1) pA A lA cA X7 HLA.out ((K77.out wr hb).1) HG0.out.fit (by omega) ((K77.out wr hb).2.1))
          go_wp2_with (go_at_call 34; refine HW.out.mono ?_)
          rintro e w3 ⟨⟨p3, c3, rfl⟩, hb3⟩
          have hb4 := hb.trans (hb3.mono hb.size)
          clear HW c0
          go_wp2_with fail
          go_roundw
          case rel => exact ⟨3, by omega, rfl, hb4⟩
          case measure => simp [intOf]
        · have c0 : wr.cell? ⟨v76.heap.size, 3, none⟩ = some (.func (.func 35) #[] #[.pointer (some ⟨X7, 0, none⟩), .pointer (some ⟨X20, 0, none⟩)]) := by rw [Lib.cell_of_heap ((K77.out wr hb).2.2.2.2.2.2)]; rfl
          have HW := Lib.hid (wr4_is X20 q20 L (lA + 1) m20 wr HBR.out HAL.out ((K77.out wr hb).2.2.2.2.2.1) HFA.out (by omega) ((K77.out wr hb).2.2.2.2.1) pA A lA cA X7 HLA.out ((K77.out wr hb).1) HG0.out.fit (by omega) ((K77.out wr hb).2.1))
          go_wp2_with (go_at_call 35; refine HW.out.mono ?_)
          rintro e w3 ⟨⟨p3, c3, rfl⟩, hb3⟩
          have hb4 := hb.trans (hb3.mono hb.size)
          clear HW c0
          go_wp2_with fail
          go_roundw
          case rel => exact ⟨4, by omega, rfl, hb4⟩
          case measure => simp [intOf]
        · have c0 : wr.cell? ⟨v76.heap.size, 4, none⟩ = some (.func (.func 36) #[] #[.pointer (some ⟨X20, 0, none⟩)]) := by rw [Lib.cell_of_heap ((K77.out wr hb).2.2.2.2.2.2)]; rfl
          have HW := Lib.hid (wr5_is X20 q20 L (lA + 1) m20 wr HBR.out HAL.out ((K77.out wr hb).2.2.2.2.2.1) HFA.out (by omega) ((K77.out wr hb).2.2.2.2.1))
          go_wp2_with (go_at_call 36; refine HW.out.mono ?_)
          rintro e w3 ⟨⟨p3, c3, rfl⟩, hb3⟩
          have hb4 := hb.trans (hb3.mono hb.size)
          clear HW c0
          go_wp2_with fail
          go_roundw
          case rel => exact ⟨5, by omega, rfl, hb4⟩
          case measure => simp [intOf]
        · have c0 : wr.cell? ⟨v76.heap.size, 5, none⟩ = some (.func (.func 37) #[] #[.pointer (some ⟨X20, 0, none⟩)]) := by rw [Lib.cell_of_heap ((K77.out wr hb).2.2.2.2.2.2)]; rfl
          have HW := Lib.hid (wr6_is X20 q20 L (lA + 1) m20 wr HBR.out HAL.out ((K77.out wr hb).2.2.2.2.2.1) HFA.out (by omega) ((K77.out wr hb).2.2.2.2.1))
          go_wp2_with (go_at_call 37; refine HW.out.mono ?_)
          rintro e w3 ⟨⟨p3, c3, rfl⟩, hb3⟩
          have hb4 := hb.trans (hb3.mono hb.size)
          clear HW c0
          go_wp2_with fail
          go_roundw
          case rel => exact ⟨6, by omega, rfl, hb4⟩
          case measure => simp [intOf]
        · have c0 : wr.cell? ⟨v76.heap.size, 6, none⟩ = some (.func (.func 38) #[] #[.pointer (some ⟨X20, 0, none⟩)]) := by rw [Lib.cell_of_heap ((K77.out wr hb).2.2.2.2.2.2)]; rfl
          have HW := Lib.hid (wr7_is X20 q20 L (lA + 1) m20 wr HBR.out HAL.out ((K77.out wr hb).2.2.2.2.2.1) HFA.out (by omega) ((K77.out wr hb).2.2.2.2.1))
          go_wp2_with (go_at_call 38; refine HW.out.mono ?_)
          rintro e w3 ⟨⟨p3, c3, rfl⟩, hb3⟩
          have hb4 := hb.trans (hb3.mono hb.size)
          clear HW c0
          go_wp2_with fail
          go_roundw
          case rel => exact ⟨7, by omega, rfl, hb4⟩
          case measure => simp [intOf]
        · go_wp2_with fail
          go_ret
          exact ⟨rfl, B3.trans ((B77.trans (hb.mono B77.size)).mono B3.size)⟩
end Go.Proofs.Ytflmojjpdmbnaaa
