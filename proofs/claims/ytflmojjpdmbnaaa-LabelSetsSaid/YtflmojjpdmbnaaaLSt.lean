/- The walk of LabelSets: the law returns true for every input. (Printed by gen_sets.py.) -/
import Derived.Test.YtflmojjpdmbnaaaLStI
namespace Go.Proofs.Ytflmojjpdmbnaaa
open Go.RowKit

set_option maxHeartbeats 12800000 in
set_option maxRecDepth 100000 in
theorem walk_LabelSets (a0 : Option Addr) (xs0 : List Lab.Sm) (len0 cap0 : Nat) (a1 : Option Addr) (xs1 : List Lab.Sm) (len1 cap1 : Nat) (w : World)
    (hlen0 : xs0.length = len0) (hAt0 : Lab.SmAt a0 xs0 w) (hFit0 : Lab.SmFit xs0) (hlc0 : len0 ≤ cap0) (hmax0 : cap0 ≤ maxLen)
    (hlen1 : xs1.length = len1) (hAt1 : Lab.SmAt a1 xs1 w) (hFit1 : Lab.SmFit xs1) (hlc1 : len1 ≤ cap1) (_hmax1 : cap1 ≤ maxLen) :
    Calls Try.prog 10 #[.slice a0 len0 cap0, .slice a1 len1 cap1] w fun e w' => e = .returned (.bool true) ∧ Below w.heap.size w w' := by
  have G0 := Lab.tl_good xs0
  have HR0 := Lib.hid (fun n w hn hA => opened (n := n) hn (lright_is a0 xs0 len0 cap0 w hlen0 hA hFit0 hlc0 hmax0))
  obtain ⟨A, hA⟩ : ∃ A, Lab.tl xs0 = A := ⟨_, rfl⟩
  rw [hA] at HR0 G0
  obtain ⟨lA, hlA⟩ : ∃ n, A.length = n := ⟨_, rfl⟩
  have zA := G0.length
  rw [hlA] at zA
  have HLA := Lib.hid hlA
  have HSET := Lib.hid (fun (one m : List Lab.L) (y : Lab.L) (g : Lab.Good one) (hy : Lab.one y = 0) (hs : Lab.set one [y] = (m, 0)) (ln lm : Nat) (hn : one.length = ln) (hm : m.length = lm) p c G c2 w (hA : Lab.At p one w) (hG : w.heap[G]? = some (.cells #[.string y.n, .string y.v] 36)) => openedB hm (lset_is p (some ⟨G, 0, none⟩) one [y] ln c 1 c2 m 0 hs w hn rfl hA (Lab.at_one hG) g.fit (Lab.fit1 hy) (by have := g.length; omega) (by omega)))
  have HALL := Lib.hid (fun (es one : List Lab.L) (he : Lab.Ed A es one) (le lo : Nat) (hle : es.length = le) (hlo : one.length = lo) (h20 : le ≤ 20) p c p2 c2 w hA hE => opened hlo (lset_is p p2 A es lA c le c2 one 0 (he.all G0) w hlA hle hA hE G0.fit (Lab.fit_of_one he.o) (by omega) (by omega)))
  have HRT := Lib.hid (fun (m : List Lab.L) (g : Lab.Good m) (lm : Nat) (hm : m.length = lm) p c w hA => right_is p m lm c true g.r w hm hA g.fit (by have := g.length; unfold maxLen; omega))
  have HGT := Lib.hid (fun (m : List Lab.L) (lm : Nat) (hm : m.length = lm) (h16 : lm ≤ 16) p c name r h w hA => lget_is p m lm c name r h w hm hA (by omega))
  have HSM := Lib.hid (fun (m : List Lab.L) (lm : Nat) (hm : m.length = lm) (h16 : lm ≤ 16) p1 p2 c1 c2 w hA hB => same_below p1 p2 m lm c1 c2 w hm hA hB (by unfold maxLen; omega))
  have HRP := Lib.hid (fun (k : Nat) (h : k < 3) w => Try.strings_Repeat ⟨#[118]⟩ k w (by omega) (by show 1 * k ≤ _; omega))
  have HN := Lib.hid hlen1
  have HF := Lib.hid hFit1
  have HG0 := Lib.hid G0
  have X0 := Lib.hid hAt0
  have X1 := Lib.hid hAt1
  obtain ⟨m, hm⟩ : ∃ m, min len1 20 = m := ⟨_, rfl⟩
  have hmi : min (len1 : Int) 20 = (m : Int) := by omega
  have hmi2 : max (m : Int) 0 = (m : Int) := by omega
  have hm1 : m ≤ len1 := by omega
  have hm20 : m ≤ 20 := by omega
  obtain ⟨i0, hi, hz0, hz1, hz2⟩ := info_parts infoLab
  have HI := Lib.hid hi
  have hmc : (m : Int) ≤ (cap1 : Int) := by omega
  clear hi hm hAt0 hAt1 hlen0 hlen1 hFit0 hFit1 hlc0 hmax0 hA hlA G0
  go_enter Try.func10, Try.ntmps10
  have K0 : Hid (∀ w', Below w.heap.size w w' → Lab.SmAt a0 xs0 w' ∧ Lab.SmAt a1 xs1 w') := fun w' h => ⟨X0.out.below h (Nat.le_refl _), X1.out.below h (Nat.le_refl _)⟩
  have B0 : Below w.heap.size w w := Below.refl _ _
  go_wp2_with (go_at_call 13; refine (awake4_true _).mono ?_)
  first | rintro e v1 rfl hb1 | rintro e v1 ⟨rfl, hb1⟩
  have K1 : Hid (∀ w', Below v1.heap.size v1 w' → Lab.SmAt a0 xs0 w' ∧ Lab.SmAt a1 xs1 w') := fun w' h => ⟨(K0.out w' (hb1.trans (h.mono hb1.size))).1, (K0.out w' (hb1.trans (h.mono hb1.size))).2⟩
  have B1 := below_next B0 hb1
  clear K0 B0 hb1
  clear X0 X1
  go_wp2_with (go_at_call 20; refine (HR0.out _ _ HLA.out ((K1.out _ (Below.refl _ v1)).1)).mono ?_)
  first | rintro e v2 pA cA rfl hA hb2 | rintro e v2 ⟨⟨pA, cA, rfl, hA⟩, hb2⟩
  have HhA2 := Lib.hid hA
  clear hA
  have K2 : Hid (∀ w', Below v2.heap.size v2 w' → Lab.SmAt a1 xs1 w' ∧ Lab.At pA A w') := fun w' h => ⟨(K1.out w' (hb2.trans (h.mono hb2.size))).2, HhA2.out.below h (Nat.le_refl _)⟩
  have B2 := below_next B1 hb2
  clear K1 B1 hb2
  clear HhA2 HR0
  go_wp2_with fail
  go_loopw [34, 7, 8] (fun i v s wr => ∃ (k : Nat) (es one : List Lab.L) (p : Option Addr) (n q : Nat), k ≤ m ∧ i = .int .i64 (k : Int) ∧ Hid (Lab.Ed A es one) ∧ Hid (es.length = k) ∧ OwnLabels v2.heap.size v es wr ∧ s = .slice p n q ∧ Hid (one.length = n) ∧ Lab.At p one wr ∧ Below v2.heap.size v2 wr) (fun i _ _ _ => m - (intOf i).toNat)
  case atStart => exact ⟨0, [], A, pA, lA, cA, Nat.zero_le _, rfl, Lab.Ed.start A HG0.out, rfl, OwnLabels.nil _ _, rfl, HLA.out, (K2.out _ (Below.refl _ v2)).2, Below.refl _ _⟩
  case round =>
    obtain ⟨k, es, one, p, n, q, hk, rfl, HE, HEL, hown, rfl, HL1, hAone, hb⟩ := hrel
    have h16 : n ≤ 16 := by rw [← HL1.out]; exact HE.out.g.length
    by_cases hlt : k < m
    · have hkx : k < xs1.length := by rw [HN.out]; omega
      obtain ⟨b, o, rfl, hcells⟩ := ((K2.out wr hb).1).open hkx
      have hfx := HF.out xs1[k] (List.getElem_mem _)
      have c0 := (hcells k hkx).1
      have c1 := (hcells k hkx).2
      obtain ⟨x, hx⟩ : ∃ x, xs1[k] = x := ⟨_, rfl⟩
      rw [hx] at c0 c1 hfx
      obtain ⟨xa, xb⟩ := x
      dsimp only at c0 c1 hfx
      have hbr := World.block_lt_of_cell? _ _ c0
      have hy1 := Lab.edit1_one ⟨xa, xb⟩
      have hy2 := Lab.edit1_few ⟨xa, xb⟩
      have hyn : Made.nameC[xa % 16]? = some (.string (Lab.edit1 ⟨xa, xb⟩).n) := Made.name_at2 xa
      have hyv : Hid (∀ w, Calls Try.prog 30 #[.string ⟨#[118]⟩, .int .i64 ((xb : Int) % 3)] w fun e w' => e = .returned (.string (Lab.edit1 ⟨xa, xb⟩).v) ∧ Below w.heap.size w w') := by
        show ∀ w, _
        intro w
        have h := HRP.out (xb % 3) (Nat.mod_lt _ (by omega)) w
        rw [show ((xb % 3 : Nat) : Int) = (xb : Int) % 3 by omega] at h
        exact h
      obtain ⟨y, hy⟩ : ∃ y, Lab.edit1 ⟨xa, xb⟩ = y := ⟨_, rfl⟩
      rw [hy] at hy1 hy2 hyn hyv
      obtain ⟨m2, s1, s2, s3⟩ := HE.out.step y hy1 hy2
      obtain ⟨n2, hn2⟩ : ∃ n, m2.length = n := ⟨_, rfl⟩
      have h162 : n2 ≤ 16 := by rw [← hn2]; exact s2.g.length
      have CS := Lib.hid (HSET.out one m2 y HE.out.g hy1 s1 n n2 HL1.out hn2)
      have CR := Lib.hid (HRT.out m2 s2.g n2 hn2)
      have CG1 := Lib.hid (HGT.out one n HL1.out h16)
      have CG2 := Lib.hid (HGT.out m2 n2 hn2 h162)
      have HE2 := Lib.hid s2
      have HS3 := Lib.hid s3
      have HN2 := Lib.hid hn2
      have HYN := Lib.hid hyn
      have r1 : Int.tmod (xa : Int) 16 = ((xa % 16 : Nat) : Int) := by rw [Int.tmod_eq_emod_of_nonneg (by omega)]; omega
      have r2 : Int.tmod (xb : Int) 3 = ((xb % 3 : Nat) : Int) := by rw [Int.tmod_eq_emod_of_nonneg (by omega)]; omega
      have r3 : xa % 16 < 16 := by omega
      have r4 : xb % 3 < 3 := by omega
      have r5 : IntKind.i64.wrap ((xb % 3 : Nat) : Int) = ((xb % 3 : Nat) : Int) := by rw [IntKind.wrap_i64]; omega
      have hON := Lib.hid hown
      have hAO := Lib.hid hAone
      clear hx hcells hy hy1 hy2 hyn s1 s2 s3 hn2 HE HSET HALL hown hAone
      go_wp2_with fail
      obtain ⟨W, hW⟩ : ∃ W, W = wr.alloc (.cells #[.int .u8 (xa : Int), .int .u8 (xb : Int)] 53) := ⟨_, rfl⟩
      have hbw : Below v2.heap.size v2 W := by rw [hW]; exact hb.alloc hb.size _
      have hbw2 : Below wr.heap.size wr W := by rw [hW]; exact (Below.refl _ _).alloc (Nat.le_refl _) _
      have HX : Hid (W.heap[wr.heap.size]? = some (.cells #[.int .u8 (xa : Int), .int .u8 (xb : Int)] 53)) := by
        show W.heap[wr.heap.size]? = _
        rw [hW]
        exact alloc_new _ _
      have hxl := lt_of_heap HX.out
      rw [← hW]
      have HC : Hid (∀ W', Below W.heap.size W W' → W'.cell? ⟨wr.heap.size, 0, none⟩ = some (.int .u8 (xa : Int)) ∧ W'.cell? ⟨wr.heap.size, 1, none⟩ = some (.int .u8 (xb : Int))) := fun W' hb' => by
        have h1 := below_kept hb' HX.out hxl
        exact ⟨by rw [Lib.cell_of_heap h1]; rfl, by rw [Lib.cell_of_heap h1]; rfl⟩
      clear hW c0 c1 hb
      refine wp_region_inv (by kernel_rfl) (by kernel_rfl) (fun a0 d a w' => ∃ t38 t39 t40 t41 t42 t43 t44 t45 t46 t47 t48 t49 t12 : Value, a = (((((((((((((a0.put (some 38) t38).put (some 39) t39).put (some 40) t40).put (some 41) t41).put (some 42) t42).put (some 43) t43).put (some 44) t44).put (some 45) t45).put (some 46) t46).put (some 47) t47).put (some 48) t48).put (some 49) t49).put (some 12) t12) ∧ Sts.I W.heap.size W wr.heap.size xa xb y d t38 t39 t40 t41 t42 t43 t44 t45 t46 t47 t48 t49 t12 w') ?h0 ?hs ?he
      case h0 => exact ⟨u38, u39, u40, u41, u42, u43, u44, u45, u46, u47, u48, u49, u12, (by go_frame), Sts.start _ _ _ _ _ _ _ _ _ _ _ _ _ _ _ _ _ _⟩
      case hs =>
        refine ⟨?_, ?_, ?_, ?_, ?_, ?_, ?_, ?_, ?_, ?_, ?_, ?_, ?_, ?_, trivial⟩
        · rintro d a w' hd hdep ⟨t38, t39, t40, t41, t42, t43, t44, t45, t46, t47, t48, t49, t12, rfl, h⟩ K hK
          rw [if_pos (by rfl)]
          go_frame
          go_simp
          refine (names_is w').mono ?_
          rintro e w2 ⟨rfl, rfl⟩
          go_simp
          exact hK _ _ ⟨.slice (some ⟨w'.heap.size, 0, none⟩) 16 16, _, _, _, _, _, _, _, _, _, _, _, _, (by go_frame), Sts.s0 h ((Below.refl _ w').alloc h.b.size _) (fun g o hg => alloc_kept hg) hd ⟨w'.heap.size, rfl, alloc_new _ _⟩⟩
        · rintro d a w' hd hdep ⟨t38, t39, t40, t41, t42, t43, t44, t45, t46, t47, t48, t49, t12, rfl, h⟩ K hK
          rw [if_pos (by rfl)]
          go_frame
          go_simp
          exact hK _ _ ⟨_, .pointer (some ⟨wr.heap.size, 0, none⟩), _, _, _, _, _, _, _, _, _, _, _, (by go_frame), Sts.s1 h hd rfl⟩
        · rintro d a w' hd hdep ⟨t38, t39, t40, t41, t42, t43, t44, t45, t46, t47, t48, t49, t12, rfl, h⟩ K hK
          rw [if_pos (by rfl)]
          go_frame
          obtain rfl := h.f1 (hdep 1 (by decide))
          have hc := (HC.out w' h.b).1
          go_simp
          exact hK _ _ ⟨_, _, .int .u8 (xa : Int), _, _, _, _, _, _, _, _, _, _, (by go_frame), Sts.s2 h hd rfl⟩
        · rintro d a w' hd hdep ⟨t38, t39, t40, t41, t42, t43, t44, t45, t46, t47, t48, t49, t12, rfl, h⟩ K hK
          rw [if_pos (by rfl)]
          go_frame
          obtain rfl := h.f2 (hdep 2 (by decide))
          go_simp
          exact hK _ _ ⟨_, _, _, .int .u8 ((xa : Int) % 16), _, _, _, _, _, _, _, _, _, (by go_frame), Sts.s3 h hd rfl⟩
        · rintro d a w' hd hdep ⟨t38, t39, t40, t41, t42, t43, t44, t45, t46, t47, t48, t49, t12, rfl, h⟩ K hK
          rw [if_pos (by rfl)]
          go_frame
          obtain ⟨g, rfl, hg⟩ := h.f0 (hdep 0 (by decide)) (h.notlast 4 (by omega) hd)
          obtain rfl := h.f3 (hdep 3 (by decide))
          have q0 : (0 : Int) ≤ (xa : Int) % 16 := by omega
          have q1 : (xa : Int) % 16 < 16 := by omega
          have q2 : ((xa : Int) % 16).toNat = xa % 16 := by omega
          go_simp
          exact hK _ _ ⟨_, _, _, _, .pointer (some ⟨g, xa % 16, none⟩), _, _, _, _, _, _, _, _, (by go_frame), Sts.s4 h hd ⟨g, rfl, hg⟩⟩
        · rintro d a w' hd hdep ⟨t38, t39, t40, t41, t42, t43, t44, t45, t46, t47, t48, t49, t12, rfl, h⟩ K hK
          rw [if_pos (by rfl)]
          go_frame
          obtain ⟨g, rfl, hg⟩ := h.f4 (hdep 4 (by decide)) (h.notlast 5 (by omega) hd)
          have hc : w'.cell? ⟨g, xa % 16, none⟩ = some (.string y.n) := by rw [Lib.cell_of_heap hg]; exact HYN.out
          go_simp
          exact hK _ _ ⟨_, _, _, _, _, .string y.n, _, _, _, _, _, _, _, (by go_frame), Sts.s5 h hd rfl⟩
        · rintro d a w' hd hdep ⟨t38, t39, t40, t41, t42, t43, t44, t45, t46, t47, t48, t49, t12, rfl, h⟩ K hK
          rw [if_pos (by rfl)]
          go_frame
          go_simp
          exact hK _ _ ⟨_, _, _, _, _, _, .pointer (some ⟨wr.heap.size, 1, none⟩), _, _, _, _, _, _, (by go_frame), Sts.s6 h hd rfl⟩
        · rintro d a w' hd hdep ⟨t38, t39, t40, t41, t42, t43, t44, t45, t46, t47, t48, t49, t12, rfl, h⟩ K hK
          rw [if_pos (by rfl)]
          go_frame
          obtain rfl := h.f6 (hdep 6 (by decide))
          have hc := (HC.out w' h.b).2
          go_simp
          exact hK _ _ ⟨_, _, _, _, _, _, _, .int .u8 (xb : Int), _, _, _, _, _, (by go_frame), Sts.s7 h hd rfl⟩
        · rintro d a w' hd hdep ⟨t38, t39, t40, t41, t42, t43, t44, t45, t46, t47, t48, t49, t12, rfl, h⟩ K hK
          rw [if_pos (by rfl)]
          go_frame
          obtain rfl := h.f7 (hdep 7 (by decide))
          go_simp
          exact hK _ _ ⟨_, _, _, _, _, _, _, _, .int .u8 ((xb : Int) % 3), _, _, _, _, (by go_frame), Sts.s8 h hd rfl⟩
        · rintro d a w' hd hdep ⟨t38, t39, t40, t41, t42, t43, t44, t45, t46, t47, t48, t49, t12, rfl, h⟩ K hK
          rw [if_pos (by rfl)]
          go_frame
          obtain rfl := h.f8 (hdep 8 (by decide))
          have q2 : IntKind.i64.wrap ((xb : Int) % 3) = (xb : Int) % 3 := by rw [IntKind.wrap_i64]; omega
          go_simp
          exact hK _ _ ⟨_, _, _, _, _, _, _, _, _, .int .i64 ((xb : Int) % 3), _, _, _, (by go_frame), Sts.s9 h hd rfl⟩
        · rintro d a w' hd hdep ⟨t38, t39, t40, t41, t42, t43, t44, t45, t46, t47, t48, t49, t12, rfl, h⟩ K hK
          rw [if_pos (by rfl)]
          go_frame
          obtain rfl := h.f9 (hdep 9 (by decide))
          go_simp
          refine (hyv.out _).mono ?_
          rintro e w2 ⟨rfl, hb2⟩
          go_simp
          exact hK _ _ ⟨_, _, _, _, _, _, _, _, _, _, .string y.v, _, _, (by go_frame), Sts.s10 h (hb2.mono h.b.size) (fun g o hg => below_kept hb2 hg (lt_of_heap hg)) hd rfl⟩
        · rintro d a w' hd hdep ⟨t38, t39, t40, t41, t42, t43, t44, t45, t46, t47, t48, t49, t12, rfl, h⟩ K hK
          rw [if_pos (by rfl)]
          go_frame
          obtain rfl := h.f5 (hdep 5 (by decide))
          obtain rfl := h.f10 (hdep 10 (by decide))
          go_simp
          exact hK _ _ ⟨_, _, _, _, _, _, _, _, _, _, _, .agg #[.string y.n, .string y.v], _, (by go_frame), Sts.s11 h hd rfl⟩
        · rintro d a w' hd hdep ⟨t38, t39, t40, t41, t42, t43, t44, t45, t46, t47, t48, t49, t12, rfl, h⟩ K hK
          rw [if_pos (by rfl)]
          go_frame
          go_simp
          exact hK _ _ ⟨_, _, _, _, _, _, _, _, _, _, _, _, .pointer (some ⟨w'.heap.size, 0, none⟩), (by go_frame), Sts.s12 h ((Below.refl _ w').alloc h.b.size _) (fun g o hg => alloc_kept hg) hd ⟨w'.heap.size, rfl, h.b.size, alloc_new _ _⟩⟩
        · rintro d a w' hd hdep ⟨t38, t39, t40, t41, t42, t43, t44, t45, t46, t47, t48, t49, t12, rfl, h⟩ K hK
          rw [if_pos (by rfl)]
          go_frame
          obtain ⟨G, rfl, hG, hZ⟩ := h.f12 (hdep 12 (by decide)) hd
          obtain rfl := h.f11 (hdep 11 (by decide))
          have z0 : w'.cell? ⟨G, 0, none⟩ = some (.string ByteArray.empty) := by rw [Lib.cell_of_heap hZ]; rfl
          have z1 : w'.cell? ⟨G, 1, none⟩ = some (.string ByteArray.empty) := by rw [Lib.cell_of_heap hZ]; rfl
          have z2 : w'.frozen? ⟨G, 0, none⟩ = false := by simp [World.frozen?, hZ]
          have z3 : w'.frozen? ⟨G, 1, none⟩ = false := by simp [World.frozen?, hZ]
          go_simp
          refine hK _ _ ⟨_, _, _, _, _, _, _, _, _, _, _, _, _, (by go_frame), Sts.s13 h (((Below.refl _ w').setCell hG _).setCell hG _) (fun j hj => hdep j (by revert j; decide)) ⟨G, rfl, hG, ?_, ?_⟩⟩
          · rw [World.cell?_setCell_other _ _ _ _ (by simp)]
            exact World.cell?_setCell_same _ _ _ z0
          · exact World.cell?_setCell_same _ _ _ (by rw [World.cell?_setCell_other _ _ _ _ (by simp)]; exact z1)
      case he =>
        rintro a w5 ⟨t38, t39, t40, t41, t42, t43, t44, t45, t46, t47, t48, t49, t12, rfl, h⟩
        obtain ⟨G, rfl, hG, hy0, hy1⟩ := h.f13 (by decide)
        have hB5 : Below v2.heap.size v2 w5 := hbw.trans (h.b.mono hbw.size)
        have hB5r : Below wr.heap.size wr w5 := hbw2.trans (h.b.mono hbw2.size)
        have HY0 := Lib.hid hy0
        have HY1 := Lib.hid hy1
        have hON5 := Lib.hid (hON.out.below hB5r (Nat.le_refl _))
        have hAO5 := Lib.hid (hAO.out.below hB5r (Nat.le_refl _))
        have hGw := World.block_lt_of_cell? _ _ hy0
        clear h hG hy0 hy1 HC HX hxl hbw hbw2 hB5r hON hAO HYN r1 r2 r3 r4 r5
        go_frame
        have K50 : Hid (∀ w', Below w5.heap.size w5 w' → Lab.At p one w' ∧ OwnLabels v2.heap.size u7 es w' ∧ w'.cell? ⟨G, 0, none⟩ = some (.string y.n) ∧ w'.cell? ⟨G, 1, none⟩ = some (.string y.v)) := fun w' h => ⟨hAO5.out.below h (Nat.le_refl _), hON5.out.below h (Nat.le_refl _), cell_later h HY0.out (Nat.le_refl _), cell_later h HY1.out (Nat.le_refl _)⟩
        have B50 := hB5
        clear hB5 hAO5 hON5
        have e0 := HY0.out
        have e1 := HY1.out
        clear HY0 HY1
        go_wp2_with fail
        clear e0 e1
        obtain ⟨w6, hw6⟩ : ∃ W, W = w5.alloc (.cells #[.string y.n, .string y.v] 36) := ⟨_, rfl⟩
        have hb6 : Below w5.heap.size w5 w6 := by rw [hw6]; exact (Below.refl _ _).alloc (Nat.le_refl _) _
        have HG6 : Hid (w6.heap[w5.heap.size]? = some (.cells #[.string y.n, .string y.v] 36)) := by
          show w6.heap[w5.heap.size]? = _
          rw [hw6]
          exact alloc_new _ _
        rw [← hw6]
        clear hw6
        have K51 : Hid (∀ w', Below w6.heap.size w6 w' → Lab.At p one w' ∧ OwnLabels v2.heap.size u7 es w' ∧ w'.cell? ⟨G, 0, none⟩ = some (.string y.n) ∧ w'.cell? ⟨G, 1, none⟩ = some (.string y.v)) := fun w' h => ⟨(K50.out w' (hb6.trans (h.mono hb6.size))).1, (K50.out w' (hb6.trans (h.mono hb6.size))).2.1, (K50.out w' (hb6.trans (h.mono hb6.size))).2.2.1, (K50.out w' (hb6.trans (h.mono hb6.size))).2.2.2⟩
        have B51 := below_next B50 hb6
        clear K50 B50 hb6
        have HOB : Hid (∀ j, u7.ownBlock = some j → j < w6.heap.size) := fun j hj => (World.ownsRow.lt ((K51.out _ (Below.refl _ w6)).2.1) j hj).2
        go_wp2_with (go_at_call 22; refine (CS.out p q w5.heap.size 1 _ ((K51.out _ (Below.refl _ w6)).1) HG6.out).mono ?_)
        first | rintro e v52 p2 q2 rfl hA hfar hb52 | rintro e v52 ⟨⟨p2, q2, rfl, hA, hfar⟩, hb52⟩
        have HhA52 := Lib.hid hA
        clear hA
        have Hhfar52 := Lib.hid hfar
        clear hfar
        have K52 : Hid (∀ w', Below v52.heap.size v52 w' → Lab.At p one w' ∧ OwnLabels v2.heap.size u7 es w' ∧ w'.cell? ⟨G, 0, none⟩ = some (.string y.n) ∧ w'.cell? ⟨G, 1, none⟩ = some (.string y.v) ∧ Lab.At p2 m2 w') := fun w' h => ⟨(K51.out w' (hb52.trans (h.mono hb52.size))).1, (K51.out w' (hb52.trans (h.mono hb52.size))).2.1, (K51.out w' (hb52.trans (h.mono hb52.size))).2.2.1, (K51.out w' (hb52.trans (h.mono hb52.size))).2.2.2, HhA52.out.below h (Nat.le_refl _)⟩
        have B52 := below_next B51 hb52
        clear K51 B51 hb52
        clear HhA52 CS HG6
        go_wp2_with (go_at_call 16; refine (CR.out p2 q2 _ ((K52.out _ (Below.refl _ v52)).2.2.2.2)).mono ?_)
        first | rintro e v53 rfl hb53 | rintro e v53 ⟨rfl, hb53⟩
        have K53 : Hid (∀ w', Below v53.heap.size v53 w' → Lab.At p one w' ∧ OwnLabels v2.heap.size u7 es w' ∧ w'.cell? ⟨G, 0, none⟩ = some (.string y.n) ∧ w'.cell? ⟨G, 1, none⟩ = some (.string y.v) ∧ Lab.At p2 m2 w') := fun w' h => ⟨(K52.out w' (hb53.trans (h.mono hb53.size))).1, (K52.out w' (hb53.trans (h.mono hb53.size))).2.1, (K52.out w' (hb53.trans (h.mono hb53.size))).2.2.1, (K52.out w' (hb53.trans (h.mono hb53.size))).2.2.2.1, (K52.out w' (hb53.trans (h.mono hb53.size))).2.2.2.2⟩
        have B53 := below_next B52 hb53
        clear K52 B52 hb53
        clear CR
        go_wp2_with (go_at_call 18; refine (names_below _).mono ?_)
        first | rintro e v54 rfl hN hb54 | rintro e v54 ⟨⟨rfl, hN⟩, hb54⟩
        have HhN54 := Lib.hid hN
        clear hN
        have K54 : Hid (∀ w', Below v54.heap.size v54 w' → Lab.At p one w' ∧ OwnLabels v2.heap.size u7 es w' ∧ w'.cell? ⟨G, 0, none⟩ = some (.string y.n) ∧ w'.cell? ⟨G, 1, none⟩ = some (.string y.v) ∧ Lab.At p2 m2 w' ∧ w'.heap[v53.heap.size]? = some (.cells Lab.nameC 9)) := fun w' h => ⟨(K53.out w' (hb54.trans (h.mono hb54.size))).1, (K53.out w' (hb54.trans (h.mono hb54.size))).2.1, (K53.out w' (hb54.trans (h.mono hb54.size))).2.2.1, (K53.out w' (hb54.trans (h.mono hb54.size))).2.2.2.1, (K53.out w' (hb54.trans (h.mono hb54.size))).2.2.2.2, below_kept h HhN54.out (lt_of_heap HhN54.out)⟩
        have B54 := below_next B53 hb54
        clear K53 B53 hb54
        clear HhN54
        go_wp2_with fail
        obtain ⟨wo, hwo⟩ : ∃ wo : World, wo = wr := ⟨_, rfl⟩
        subst hwo
        go_loopw [67] (fun i wr => ∃ j : Nat, j ≤ 16 ∧ i = .int .i64 (j : Int) ∧ Below v54.heap.size v54 wr) (fun i _ => 16 - (intOf i).toNat)
        case atStart => exact ⟨0, by omega, rfl, Below.refl _ _⟩
        case round =>
          obtain ⟨j, hj, rfl, hb⟩ := hrel
          by_cases hjt : j < 16
          · have n1 : (0 : Int) ≤ (j : Int) := by omega
            have n3 : (j : Int) < 16 := by omega
            have c0 := Lab.name_at ((K54.out wr hb).2.2.2.2.2) j hjt
            obtain ⟨s, hs⟩ : ∃ s, Lab.nameL[j]'hjt = s := ⟨_, rfl⟩
            rw [hs] at c0
            have hs3 := HS3.out s
            obtain ⟨r, hr⟩ : ∃ r, Lab.get one s = r := ⟨_, rfl⟩
            rw [hr] at hs3
            have R1 := Lib.hid (CG1.out p q s r hr)
            obtain ⟨bq, hbq⟩ : ∃ bq, decide (Lab.bs s = Lab.bs y.n) = bq := ⟨_, rfl⟩
            have q1 : (s.toList == y.n.toList) = bq := by rw [← hbq]; exact Lab.bytes_beq _ _
            have e0 := ((K54.out wr hb).2.2.1)
            have e1 := ((K54.out wr hb).2.2.2.1)
            have HB := Lib.hid hbq
            clear hs hr hbq
            go_wp2_with (go_at_call 19; refine (R1.out wr ((K54.out wr hb).1)).mono ?_)
            first | rintro e x1 rfl hb1 | rintro e x1 ⟨rfl, hb1⟩
            have hb1' := hb.trans (hb1.mono hb.size)
            have e0 := ((K54.out x1 hb1').2.2.1)
            have e1 := ((K54.out x1 hb1').2.2.2.1)
            clear R1 hb1
            cases bq
            · rw [if_neg (of_decide_eq_false HB.out)] at hs3
              have R2 := Lib.hid (CG2.out p2 q2 s r hs3)
              clear hs3 HB
              go_wp2_with (go_at_call 19; refine (R2.out x1 ((K54.out x1 hb1').2.2.2.2.1)).mono ?_)
              first | rintro e x2 rfl hb2 | rintro e x2 ⟨rfl, hb2⟩
              have hb2' := hb1'.trans (hb2.mono hb1'.size)
              go_wp2_with fail
              go_roundw
              case rel => exact ⟨j + 1, by omega, by go_num, hb2'⟩
              case measure => simp [intOf]; omega
            · rw [if_pos (of_decide_eq_true HB.out)] at hs3
              have R2 := Lib.hid (CG2.out p2 q2 s y.v hs3)
              clear hs3 HB
              go_wp2_with (go_at_call 19; refine (R2.out x1 ((K54.out x1 hb1').2.2.2.2.1)).mono ?_)
              first | rintro e x2 rfl hb2 | rintro e x2 ⟨rfl, hb2⟩
              have hb2' := hb1'.trans (hb2.mono hb1'.size)
              go_wp2_with fail
              go_roundw
              case rel => exact ⟨j + 1, by omega, by go_num, hb2'⟩
              case measure => simp [intOf]; omega
          · have n3 : (16 : Int) ≤ (j : Int) := by omega
            have e0 := ((K54.out wr hb).2.2.1)
            have e1 := ((K54.out wr hb).2.2.2.1)
            have hES := ((K54.out wr hb).2.1)
            have hMM := Lib.hid ((K54.out wr hb).2.2.2.2.1)
            have hBB : Below v2.heap.size v2 wr := B54.trans (hb.mono B54.size)
            clear K54 B54 CG1 CG2 HS3
            go_wp2_with (at_builtin; refine wpList_pushL 22 Try.underlying22 rfl _ _ rfl _ _ _ _ rfl hES y _ _ rfl _ rfl (by simp) ?c1 ?c2 ?_)
            case c1 => rw [HEL.out]; omega
            case c2 => exact hBB.size
            intro v' w4 hown' hg
            have hM4 := hMM.out.grown hg (fun ad he e => by have h1 := Hhfar52.out ad he; have h2 := HOB.out _ e; omega)
            have hB4 : Below v2.heap.size v2 w4 := below_push _ hBB hES hg
            have hlen : (es ++ [y]).length = k + 1 := by rw [List.length_append, HEL.out]; rfl
            have HLN := Lib.hid hlen
            have HM4 := Lib.hid hM4
            have HO4 := Lib.hid hown'
            clear hg hMM hES hBB hM4 hlen hown' e0 e1
            go_wp2_with fail
            go_roundw
            case rel => exact ⟨k + 1, es ++ [y], m2, p2, n2, q2, by omega, by go_num, HE2, HLN, HO4.out, rfl, HN2, HM4.out, hB4⟩
            case measure => simp [intOf]; omega
    · have n3 : (m : Int) ≤ (k : Int) := by omega
      obtain rfl : k = m := by omega
      obtain ⟨pe, ce, hv, hAe, _⟩ := OwnLabels.open hown
      rw [HEL.out] at hv
      subst hv
      have CA := Lib.hid (HALL.out es one HE.out k n HEL.out HL1.out (by omega))
      have CM := Lib.hid (HSM.out one n HL1.out h16)
      have HA1 := Lib.hid hAe
      have HA2 := Lib.hid hAone
      clear HALL hown hAe hAone
      go_wp2_with (go_at_call 22; refine (CA.out pA cA pe ce wr ((K2.out wr hb).2) HA1.out).mono ?_)
      first | rintro e x1 p9 c9 rfl hA hb1 | rintro e x1 ⟨⟨p9, c9, rfl, hA⟩, hb1⟩
      have HA9 := Lib.hid hA
      have hb1' := hb.trans (hb1.mono hb.size)
      have HA3 := Lib.hid (HA2.out.below hb1 (Nat.le_refl _))
      clear hA hb1
      go_wp2_with (go_at_call 17; refine (CM.out p9 p c9 q x1 HA9.out HA3.out).mono ?_)
      first | rintro e x2 rfl hb2 | rintro e x2 ⟨rfl, hb2⟩
      have hb2' := hb1'.trans (hb2.mono hb1'.size)
      go_wp2_with fail
      go_ret
      exact ⟨rfl, B2.trans (hb2'.mono B2.size)⟩
end Go.Proofs.Ytflmojjpdmbnaaa
