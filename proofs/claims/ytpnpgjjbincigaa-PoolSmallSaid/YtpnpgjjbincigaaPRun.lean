/- The walk of PoolRuns: the law returns true. -/
import Derived.Test.YtpnpgjjbincigaaPoH
namespace Go.Proofs.Ytpnpgjjbincigaa
open Go.RowKit
set_option linter.unusedVariables false

def row.natOf : Value → Nat
  | .int _ n => n.toNat
  | _ => 0
theorem row.wf_u8 {n : Int} (h : (Lit.int .u8 n).wf = true) : ∃ m : Nat, m < 256 ∧ n = (m : Int) := by
  have h1 : IntKind.u8.min ≤ n ∧ n ≤ IntKind.u8.max := by simpa [Lit.wf] using h
  have e1 : IntKind.u8.min = 0 := by decide
  have e2 : IntKind.u8.max = 255 := by decide
  exact ⟨n.toNat, by omega, by omega⟩
/-- a target of the call's own, of small keys -/
theorem Po.Own.n {B : Nat} {v : Value} {ss : List Sl} {S : List Po.V} {w : World} (h : Po.Own B v ss w) (hv : ss.map Sl.view = S) (hS : ∀ v ∈ S, Po.okU (Po.vu v)) : ∀ s ∈ ss, s.t.ls.length = s.t.n ∧ s.t.n ≤ maxLen := fun s hs => Po.okU.n (h.2 s hs) (Awk.okS hv hS s hs)
theorem Po.Own.n2 {B : Nat} {v : Value} {ss : List Sl} {S : List Po.V} {w : World} (h : Po.Own B v ss w) (hv : ss.map Sl.view = S) (hS : ∀ v ∈ S, Po.okU (Po.vu v)) : ∀ s ∈ ss, s.t.ls.length = s.t.n ∧ s.t.n ≤ 4398046511104 := fun s hs => Po.okU.n2 (h.2 s hs) (Awk.okS hv hS s hs)
theorem Po.Own.any {B : Nat} {v : Value} {ss : List Sl} {S : List Po.V} {w : World} (h : Po.Own B v ss w) (hv : ss.map Sl.view = S) (hS : ∀ v ∈ S, Po.okU (Po.vu v)) : ∀ s ∈ ss, Can.TAny s.t := fun s hs => Po.okU.any (h.2 s hs) (Awk.okS hv hS s hs)
theorem Po.made_len (xs : List Sm5) (k : Nat) : (Po.made xs k).length ≤ k := by
  induction k with
  | zero => simp [Po.made]
  | succ k ih =>
    rw [Po.made_succ, List.length_append]
    have : (Po.row xs k).length ≤ 1 := by unfold Po.row; cases Po.pick xs k <;> simp
    omega
theorem runs_okU {S : List Po.V} (h : ∀ v ∈ S, Po.okU (Po.vu v)) : ∀ u ∈ Po.runs S, Po.okU u := fun u hu => by
  unfold Po.runs at hu
  obtain ⟨s, hs, rfl⟩ := List.mem_map.1 hu
  exact h s ((List.mem_filter.1 hs).1)

set_option maxHeartbeats 6400000 in
set_option maxRecDepth 100000 in
theorem walk_PoolRuns (a0 : Option Addr) (xs0 : List Sm5) (len0 cap0 : Nat) (n1 : Int) (w : World) (hlen0 : xs0.length = len0) (hAt0 : Po.SmAt a0 xs0 w) (hlc0 : len0 ≤ cap0) (hmax0 : cap0 ≤ maxLen) (wn1 : (Lit.int .u8 n1).wf = true) :
    Calls Try.prog 6 #[.slice a0 len0 cap0, .int .u8 n1] w fun e w' => e = .returned (.bool true) ∧ Below w.heap.size w w' := by
  obtain ⟨y, hy, rfl⟩ := row.wf_u8 wn1
  have r1 : IntKind.i64.wrap (y : Int) = (y : Int) := by rw [IntKind.wrap_i64]; omega
  have r2 : Int.tmod (y : Int) 26 = ((y % 26 : Nat) : Int) := by rw [Int.tmod_eq_emod_of_nonneg (by omega)]; omega
  obtain ⟨u, hu⟩ : ∃ u, y % 26 = u := ⟨_, rfl⟩
  rw [hu] at r2
  have hu26 : u < 26 := by omega
  have r3 : IntKind.i64.wrap (u : Int) = (u : Int) := by rw [IntKind.wrap_i64]; omega
  have HAW := Lib.hid (fun w => awake_is w)
  have HMD := Lib.hid (fun w hA => made_is5 a0 xs0 len0 cap0 w hlen0 hlc0 hA (by omega))
  have HT := Lib.hid (fun w => target_is u (by omega) w)
  have HA0 := Lib.hid hAt0
  obtain ⟨S, hS⟩ : ∃ S, Po.made xs0 26 = S := ⟨_, rfl⟩
  have HOK : Hid (Po.okVs S = true) := by show _ = _; rw [← hS]; exact Po.made_ok xs0
  have HU : Hid (∀ v ∈ S, Po.okU (Po.vu v)) := by show ∀ v ∈ S, _; rw [← hS]; exact Po.made_okU xs0 26
  have HL : Hid (S.length ≤ 26) := by show _ ≤ _; rw [← hS]; exact Po.made_len xs0 26
  rw [hS] at HMD
  clear hS hAt0 hlen0 hy wn1 hmax0 hlc0 hu
  go_enter Try.func6, Try.ntmps6
  go_wp2_with (go_at_call 13; refine (HAW.out _).mono ?_)
  first | rintro e w1 rfl hb1 | rintro e w1 ⟨rfl, hb1⟩
  go_wp2_with (go_at_call 17; refine (HMD.out _ (HA0.out.below hb1 (Nat.le_refl _))).mono ?_)
  first | rintro e w2 v ss rfl hO hv hb2 | rintro e w2 ⟨⟨v, ss, rfl, hO, hv⟩, hb2⟩
  have hb3 := below_next hb1 hb2
  have hlen : ss.length = S.length := by rw [← hv, List.length_map]
  obtain ⟨pv, cv, rfl, hcv1, hcv2⟩ := hO.form
  rw [hlen] at hcv1 hO ⊢
  have hO2 := hO.lift hb1.size
  obtain ⟨N, hN⟩ : ∃ N, S.length = N := ⟨_, rfl⟩
  rw [hN] at hcv1 hO hO2 hlen ⊢
  have hN26 : N ≤ 26 := by rw [← hN]; exact HL.out
  have HN := Lib.hid hN
  clear hN hO hb1 hb2 HMD HAW HA0
  go_wp2_with (go_at_call 15; refine (HT.out _).mono ?_)
  first | rintro e w4 t rfl hOt hvt hb4 | rintro e w4 ⟨⟨t, rfl, hOt, hvt⟩, hb4⟩
  obtain ⟨tj, tp, tn, tc, tl⟩ := t
  have hb5 := below_next hb3 hb4
  have HO := Lib.hid (hO2.below hb4 (Nat.le_refl _))
  have HOT : Hid (OwnT w.heap.size ⟨tj, tp, tn, tc, tl⟩ w4) := hOt.lift hb3.size
  have HV := Lib.hid hv
  have HVT := Lib.hid hvt
  have HLN := Lib.hid hlen
  have HB5 := Lib.hid hb5
  have HG : Hid (Can.TAny ⟨tj, tp, tn, tc, tl⟩) := Po.okU.any hOt (by rw [hvt]; exact Po.tgt_ok u)
  have hba : Below w4.heap.size w4 (w4.alloc (.cells #[.string tj, .slice tp tn tc] 29)) := (Below.refl _ _).alloc (Nat.le_refl _) _
  have HBA := Lib.hid hba
  have HKT := Lib.hid (alloc_new w4 (.cells #[.string tj, .slice tp tn tc] 29))
  obtain ⟨⟨er, S2⟩, hend⟩ : ∃ x, Po.endS S (Po.tgt u) = x := ⟨_, rfl⟩
  have HE := Lib.hid (pend_is pv ss ⟨tj, tp, tn, tc, tl⟩ N cv er S2 (by rw [HV.out, HVT.out]; exact hend) _ HLN.out (HO.out.at.1.below HBA.out (Nat.le_refl _)) (HOT.out.at.below HBA.out (Nat.le_refl _)) (HO.out.any HV.out HU.out) HG.out (by omega))
  have HEND := Lib.hid hend
  clear hend hba hb5 hb3 hb4 hv hvt hlen hO2 hOt HT
  go_wp2_with (go_at_call 18; refine HE.out.mono ?_)
  first | rintro e w6 v3 v4 s3 rfl hR hs hb6 | rintro e w6 v3 rfl v4 s3 hR hs hb6 | rintro e w6 ⟨⟨v3, v4, s3, rfl, hR, hs⟩, hb6⟩
  obtain ⟨⟨pE, cE, rfl, hcE, hcE2⟩, _⟩ := hR.form
  have hb7 : Below w4.heap.size w4 w6 := HBA.out.trans (hb6.mono (by simp))
  have HB7 := Lib.hid hb7
  have HBA5 : Hid (w.heap.size ≤ (w4.alloc (.cells #[.string tj, .slice tp tn tc] 29)).heap.size) := by have := HB5.out.size; show _ ≤ _; simp; omega
  have hls3 : s3.length = S2.length := by rw [← hs, List.length_map]
  have HR := Lib.hid hR
  have HS3 := Lib.hid hs
  have HLS3 := Lib.hid hls3
  have HK6 := Lib.hid (below_kept hb6 HKT.out (by simp))
  obtain ⟨b0, hb0⟩ : ∃ b0, 0 < N → pv = some ⟨b0, 0, none⟩ := by
    by_cases h0 : 0 < N
    · obtain ⟨g, c', e, _⟩ := HO.out.1.form (by rw [HLN.out]; exact h0)
      simp only [Value.slice.injEq] at e
      exact ⟨g, fun _ => e.1⟩
    · exact ⟨0, fun h => absurd h h0⟩
  have HB0 := Lib.hid hb0
  have hs65 := hb7.size
  clear hb7 hb6 hR hs hls3 hb0 HE HKT HBA
  have c60 : w6.cell? ⟨w4.heap.size, 0, none⟩ = some (.string tj) := by rw [Lib.cell_of_heap HK6.out]; rfl
  go_wp2_with fail
  go_loopw [9, 10, 11, 30] (fun v9 v10 v11 i wr => ∃ (k : Nat) (rs : List Sl) (ts : List Can.T), k ≤ N ∧ i = .int .i64 (k : Int) ∧ Hid (OwnR slR w6.heap.size v9 rs wr) ∧ Hid (rs.map Sl.view = Po.rest (S.take k) (Po.tgt u)) ∧ Hid (∀ s ∈ rs, s ∈ ss) ∧ Hid (rs.length ≤ k) ∧
    Hid (OwnR tgR w6.heap.size v10 ts wr) ∧ Hid (∀ t ∈ ts, ∃ s ∈ ss, s.t = t) ∧ Hid (ts.map Po.tv = Po.runs (S.take k)) ∧ Hid (ts.length ≤ k) ∧ v11 = .bool (Po.endg (Po.tgt u) false (S.take k)) ∧ Hid (Below w.heap.size w wr) ∧ Hid (Below w6.heap.size w6 wr)) (fun _ _ _ i _ => N - (intOf i).toNat)
  case atStart => exact ⟨0, [], [], Nat.zero_le _, rfl, OwnR.nil _ _ _, rfl, (fun s h => nomatch h), Nat.zero_le _, OwnR.nil _ _ _, (fun s h => nomatch h), rfl, Nat.zero_le _, rfl, HB5.out.trans (HB7.out.mono HB5.out.size), Below.refl _ _⟩
  case round =>
    obtain ⟨wj, rfl⟩ : ∃ wo : World, wo = wr := ⟨_, rfl⟩
    obtain ⟨k, rs, ts, hk, rfl, HRO, HRV, HRM, HRL, HTO, HTM, HTV, HTL, rfl, HB, HB6J⟩ := hrel
    have HBJ : Hid (Below w4.heap.size w4 wj) := HB7.out.trans (HB6J.out.mono HB7.out.size)
    have hsz := HB.out.size
    have hsj := HBJ.out.size
    obtain ⟨p9, c9, rfl, hc9, hc92, _⟩ := HRO.out.shape
    obtain ⟨p10, c10, rfl, _⟩ := HTO.out.shape
    obtain ⟨eg, heg⟩ : ∃ eg, Po.endg (Po.tgt u) false (S.take k) = eg := ⟨_, rfl⟩
    rw [heg]
    have HEG := Lib.hid heg
    clear heg
    by_cases hlt : k < N
    · have hkl : k < ss.length := by rw [HLN.out]; exact hlt
      have hkS : k < S.length := by rw [HN.out]; exact hlt
      have hp := HB0.out (by omega)
      subst hp
      obtain ⟨bb, oo, e, hcl⟩ := HO.out.at.1.cells (by omega)
      simp only [Option.some.injEq, Addr.mk.injEq, and_true] at e
      obtain ⟨rfl, rfl⟩ := e
      obtain ⟨d0, d1, d2, d3, d4⟩ := hcl k hkl
      rw [Nat.zero_add] at d0 d1 d2 d3 d4
      have hbl := World.block_lt_of_cell? _ _ d0
      have hbl' : b0 < w4.heap.size := hbl
      replace d0 := (HBJ.out.cell (p := ⟨b0, k * 5, none⟩) hbl).trans d0
      replace d1 := (HBJ.out.cell (p := ⟨b0, k * 5 + 1, none⟩) hbl).trans d1
      replace d2 := (HBJ.out.cell (p := ⟨b0, k * 5 + 2, none⟩) hbl).trans d2
      replace d3 := (HBJ.out.cell (p := ⟨b0, k * 5 + 3, none⟩) hbl).trans d3
      replace d4 := (HBJ.out.cell (p := ⟨b0, k * 5 + 4, none⟩) hbl).trans d4
      have hlab := (HO.out.2 ss[k] (List.getElem_mem _)).at.below HBJ.out (Nat.le_refl _)
      have hsn := HO.out.n HV.out HU.out ss[k] (List.getElem_mem _)
      have hvs : Sl.view ss[k] = S[k] := view_at HV.out k hkl hkS
      have h1 := Po.rest_take S (Po.tgt u) k hkS
      have h2 := Po.runs_take S k hkS
      have h3 := Po.endg_take S (Po.tgt u) k hkS
      rw [← hvs, ← HRV.out] at h1
      rw [← hvs, ← HTV.out] at h2
      rw [← hvs, HEG.out] at h3
      have hmem : ss[k] ∈ ss := List.getElem_mem _
      obtain ⟨s, hs⟩ : ∃ s, ss[k] = s := ⟨_, rfl⟩
      rw [hs] at d0 d1 d2 d3 d4 hlab hsn h1 h2 h3 hmem
      obtain ⟨⟨sj, sp, sn, sc, sl⟩, ev, ti, en⟩ := s
      dsimp only at d0 d1 d2 d3 d4 hlab hsn
      have H1 : Hid (Po.rest (S.take (k + 1)) (Po.tgt u) = if (sj, sl) = Po.tgt u then rs.map Sl.view else rs.map Sl.view ++ [(sj, sl, ev, ti, en)]) := h1
      have H2 : Hid (Po.runs (S.take (k + 1)) = if en = true then ts.map Po.tv else ts.map Po.tv ++ [(sj, sl)]) := h2
      have H3 : Hid (Po.endg (Po.tgt u) false (S.take (k + 1)) = if (sj, sl) = Po.tgt u then en else eg) := h3
      have HMEM := Lib.hid hmem
      have n1 : (0 : Int) ≤ (k : Int) := by omega
      have n2 : (k : Int) < (N : Int) := by omega
      have hk6j : wj.heap[w4.heap.size]? = some (.cells #[.string tj, .slice tp tn tc] 29) := below_kept HB6J.out HK6.out (lt_of_heap HK6.out)
      have hjk : w4.heap.size < wj.heap.size := lt_of_heap hk6j
      have ct0 : wj.cell? ⟨w4.heap.size, 0, none⟩ = some (.string tj) := by rw [Lib.cell_of_heap hk6j]; rfl
      have ct1 : wj.cell? ⟨w4.heap.size, 1, none⟩ = some (.slice tp tn tc) := by rw [Lib.cell_of_heap hk6j]; rfl
      have hlabt := HOT.out.at.below HBJ.out (Nat.le_refl _)
      have hjsz := HRL.out
      have htsz := HTL.out
      have hbj : b0 < wj.heap.size := by omega
      obtain ⟨r, hr⟩ : ∃ r, decide ((sj, sl) = Po.tgt u) = r := ⟨_, rfl⟩
      have HSAME := Lib.hid (fun w hA hB => sametarget_is sj tj sp tp sl tl sn tn sc tc r (by rw [← hr, decide_eq_true_eq, ← HVT.out]; show (sj, sl) = (tj, tl) ↔ _; rw [Prod.mk.injEq]) w hsn.1 HG.out.2.1 hA hB hsn.2 HG.out.2.2.2.2)
      have HRR := Lib.hid hr
      clear hs hr h1 h2 h3 hmem hk6j hcl hsn
      cases r with
      | true =>
        cases en with
        | true =>
          have hu : (sj, sl) = Po.tgt u := of_decide_eq_true HRR.out
          have g1 := H1.out
          have g2 := H2.out
          have g3 := H3.out
          rw [if_pos hu] at g1 g3
          rw [if_pos rfl] at g2
          have G1 := Lib.hid g1
          have G2 := Lib.hid g2
          have G3 := Lib.hid g3
          clear g1 g2 g3 hu
          have hba : Below wj.heap.size wj (wj.alloc (.cells #[.string sj, .slice sp sn sc, .int .i64 ev, .int .i64 ti, .bool true] 33)) := (Below.refl _ _).alloc (Nat.le_refl _) _
          have kx := alloc_new wj (.cells #[.string sj, .slice sp sn sc, .int .i64 ev, .int .i64 ti, .bool true] 33)
          have HL1 := Lib.hid (hlab.below hba (Nat.le_refl _))
          have HL2 := Lib.hid (hlabt.below hba (Nat.le_refl _))
          have KX := Lib.hid kx
          have HBA2 := Lib.hid hba
          clear kx hba hlab hlabt
          go_wp2_with (go_at_call 19; refine (HSAME.out _ HL1.out HL2.out).mono ?_)
          first | rintro e w7 rfl hb7 | rintro e w7 ⟨rfl, hb7⟩
          have hbx : Below wj.heap.size wj w7 := HBA2.out.trans (hb7.mono (by simp))
          have k7 := below_kept hb7 KX.out (by simp)
          have x0 : w7.cell? ⟨wj.heap.size, 0, none⟩ = some (.string sj) := by rw [Lib.cell_of_heap k7]; rfl
          have x1 : w7.cell? ⟨wj.heap.size, 1, none⟩ = some (.slice sp sn sc) := by rw [Lib.cell_of_heap k7]; rfl
          have x2 : w7.cell? ⟨wj.heap.size, 2, none⟩ = some (.int .i64 ev) := by rw [Lib.cell_of_heap k7]; rfl
          have x3 : w7.cell? ⟨wj.heap.size, 3, none⟩ = some (.int .i64 ti) := by rw [Lib.cell_of_heap k7]; rfl
          have x4 : w7.cell? ⟨wj.heap.size, 4, none⟩ = some (.bool true) := by rw [Lib.cell_of_heap k7]; rfl
          have hlt7 : wj.heap.size < w7.heap.size := lt_of_heap k7
          have HRO7 : Hid (OwnR slR w6.heap.size (.slice p9 rs.length c9) rs w7) := HRO.out.below hbx (Nat.le_refl _)
          have HTO7 : Hid (OwnR tgR w6.heap.size (.slice p10 ts.length c10) ts w7) := HTO.out.below hbx (Nat.le_refl _)
          have HB68 : Hid (Below w6.heap.size w6 w7) := HB6J.out.trans (hbx.mono HB6J.out.size)
          have K7 := Lib.hid k7
          have hs68 := HB68.out.size
          clear hb7 k7 hbx HL1 HL2 KX HBA2 HSAME
          go_wp2_with fail
          go_roundw
          case rel => exact ⟨k + 1, rs, ts, by omega, by go_num, HRO7.out, (by show _ = _; rw [G1.out]), HRM.out, (by show _ ≤ _; omega), HTO7.out, HTM.out, (by show _ = _; rw [G2.out]), (by show _ ≤ _; omega), by rw [G3.out], HB5.out.trans ((HB7.out.trans (HB68.out.mono HB7.out.size)).mono HB5.out.size), HB68.out⟩
          case measure => simp [intOf]; omega
        | false =>
          have hu : (sj, sl) = Po.tgt u := of_decide_eq_true HRR.out
          have g1 := H1.out
          have g2 := H2.out
          have g3 := H3.out
          rw [if_pos hu] at g1 g3
          rw [if_neg (by simp)] at g2
          have G1 := Lib.hid g1
          have G2 := Lib.hid g2
          have G3 := Lib.hid g3
          clear g1 g2 g3 hu
          have hba : Below wj.heap.size wj (wj.alloc (.cells #[.string sj, .slice sp sn sc, .int .i64 ev, .int .i64 ti, .bool false] 33)) := (Below.refl _ _).alloc (Nat.le_refl _) _
          have kx := alloc_new wj (.cells #[.string sj, .slice sp sn sc, .int .i64 ev, .int .i64 ti, .bool false] 33)
          have HL1 := Lib.hid (hlab.below hba (Nat.le_refl _))
          have HL2 := Lib.hid (hlabt.below hba (Nat.le_refl _))
          have KX := Lib.hid kx
          have HBA2 := Lib.hid hba
          clear kx hba hlab hlabt
          go_wp2_with (go_at_call 19; refine (HSAME.out _ HL1.out HL2.out).mono ?_)
          first | rintro e w7 rfl hb7 | rintro e w7 ⟨rfl, hb7⟩
          have hbx : Below wj.heap.size wj w7 := HBA2.out.trans (hb7.mono (by simp))
          have k7 := below_kept hb7 KX.out (by simp)
          have x0 : w7.cell? ⟨wj.heap.size, 0, none⟩ = some (.string sj) := by rw [Lib.cell_of_heap k7]; rfl
          have x1 : w7.cell? ⟨wj.heap.size, 1, none⟩ = some (.slice sp sn sc) := by rw [Lib.cell_of_heap k7]; rfl
          have x2 : w7.cell? ⟨wj.heap.size, 2, none⟩ = some (.int .i64 ev) := by rw [Lib.cell_of_heap k7]; rfl
          have x3 : w7.cell? ⟨wj.heap.size, 3, none⟩ = some (.int .i64 ti) := by rw [Lib.cell_of_heap k7]; rfl
          have x4 : w7.cell? ⟨wj.heap.size, 4, none⟩ = some (.bool false) := by rw [Lib.cell_of_heap k7]; rfl
          have hlt7 : wj.heap.size < w7.heap.size := lt_of_heap k7
          have HRO7 : Hid (OwnR slR w6.heap.size (.slice p9 rs.length c9) rs w7) := HRO.out.below hbx (Nat.le_refl _)
          have HTO7 : Hid (OwnR tgR w6.heap.size (.slice p10 ts.length c10) ts w7) := HTO.out.below hbx (Nat.le_refl _)
          have HB68 : Hid (Below w6.heap.size w6 w7) := HB6J.out.trans (hbx.mono HB6J.out.size)
          have K7 := Lib.hid k7
          have hs68 := HB68.out.size
          clear hb7 k7 hbx HL1 HL2 KX HBA2 HSAME
          go_wp2_with (at_builtin; refine wpList_pushRec tgOk 23 Try.underlying23 rfl _ _ rfl w6.heap.size _ ts w7 rfl (by exact HTO7.out) ⟨sj, sp, sn, sc, sl⟩ _ _ rfl _ rfl rfl ?_ ?_ ?_)
          · omega
          · exact hs68
          intro v10 w10 hto10 hg10
          have hb610 : Below w6.heap.size w6 w10 := (HB68.out.alloc hs68 _).grown hg10 (by simp; omega) (fun j hj => (World.ownsRow.lt HTO7.out j hj).1)
          have hro10 := OwnR.grown2 (HRO7.out.alloc (.cells #[.string sj, .slice sp sn sc] 29)) (by decide) (HTO7.out.alloc _) hg10
          go_wp2_with fail
          go_roundw
          case rel => exact ⟨k + 1, rs, ts ++ [(⟨sj, sp, sn, sc, sl⟩ : Can.T)], by omega, by go_num, hro10, (by show _ = _; rw [G1.out]), HRM.out, (by show _ ≤ _; omega), hto10, (fun t ht => by rcases List.mem_append.1 ht with h | h; exact HTM.out t h; rw [List.mem_singleton] at h; subst h; exact ⟨_, HMEM.out, rfl⟩), (by show _ = _; rw [G2.out, List.map_append]; rfl), (by show _ ≤ _; rw [List.length_append, List.length_singleton]; omega), by rw [G3.out], HB5.out.trans ((HB7.out.trans (hb610.mono HB7.out.size)).mono HB5.out.size), hb610⟩
          case measure => simp [intOf]; omega
      | false =>
        cases en with
        | true =>
          have hu : ¬ (sj, sl) = Po.tgt u := of_decide_eq_false HRR.out
          have g1 := H1.out
          have g2 := H2.out
          have g3 := H3.out
          rw [if_neg hu] at g1 g3
          rw [if_pos rfl] at g2
          have G1 := Lib.hid g1
          have G2 := Lib.hid g2
          have G3 := Lib.hid g3
          clear g1 g2 g3 hu
          have hba : Below wj.heap.size wj (wj.alloc (.cells #[.string sj, .slice sp sn sc, .int .i64 ev, .int .i64 ti, .bool true] 33)) := (Below.refl _ _).alloc (Nat.le_refl _) _
          have kx := alloc_new wj (.cells #[.string sj, .slice sp sn sc, .int .i64 ev, .int .i64 ti, .bool true] 33)
          have HL1 := Lib.hid (hlab.below hba (Nat.le_refl _))
          have HL2 := Lib.hid (hlabt.below hba (Nat.le_refl _))
          have KX := Lib.hid kx
          have HBA2 := Lib.hid hba
          clear kx hba hlab hlabt
          go_wp2_with (go_at_call 19; refine (HSAME.out _ HL1.out HL2.out).mono ?_)
          first | rintro e w7 rfl hb7 | rintro e w7 ⟨rfl, hb7⟩
          have hbx : Below wj.heap.size wj w7 := HBA2.out.trans (hb7.mono (by simp))
          have k7 := below_kept hb7 KX.out (by simp)
          have x0 : w7.cell? ⟨wj.heap.size, 0, none⟩ = some (.string sj) := by rw [Lib.cell_of_heap k7]; rfl
          have x1 : w7.cell? ⟨wj.heap.size, 1, none⟩ = some (.slice sp sn sc) := by rw [Lib.cell_of_heap k7]; rfl
          have x2 : w7.cell? ⟨wj.heap.size, 2, none⟩ = some (.int .i64 ev) := by rw [Lib.cell_of_heap k7]; rfl
          have x3 : w7.cell? ⟨wj.heap.size, 3, none⟩ = some (.int .i64 ti) := by rw [Lib.cell_of_heap k7]; rfl
          have x4 : w7.cell? ⟨wj.heap.size, 4, none⟩ = some (.bool true) := by rw [Lib.cell_of_heap k7]; rfl
          have hlt7 : wj.heap.size < w7.heap.size := lt_of_heap k7
          have HRO7 : Hid (OwnR slR w6.heap.size (.slice p9 rs.length c9) rs w7) := HRO.out.below hbx (Nat.le_refl _)
          have HTO7 : Hid (OwnR tgR w6.heap.size (.slice p10 ts.length c10) ts w7) := HTO.out.below hbx (Nat.le_refl _)
          have HB68 : Hid (Below w6.heap.size w6 w7) := HB6J.out.trans (hbx.mono HB6J.out.size)
          have K7 := Lib.hid k7
          have hs68 := HB68.out.size
          clear hb7 k7 hbx HL1 HL2 KX HBA2 HSAME
          go_wp2_with (at_builtin; refine wpList_pushRec slOk 22 Try.underlying22 rfl _ _ rfl w6.heap.size _ rs w7 rfl (by exact HRO7.out) ⟨⟨sj, sp, sn, sc, sl⟩, ev, ti, true⟩ _ _ rfl _ rfl rfl ?_ ?_ ?_)
          · omega
          · exact hs68
          intro v8 w8 hro8 hg8
          have HB69 : Hid (Below w6.heap.size w6 w8) := (HB68.out.alloc hs68 _).grown hg8 (by simp; omega) (fun j hj => (World.ownsRow.lt HRO7.out j hj).1)
          have hv8 : ∃ p c, v8 = .slice p (rs.length + 1) c := by obtain ⟨p, c, e, _⟩ := hro8.shape; rw [List.length_append] at e; exact ⟨p, c, e⟩
          obtain ⟨q8, d8, rfl⟩ := hv8
          have k8 : w8.heap[wj.heap.size]? = some (.cells #[.string sj, .slice sp sn sc, .int .i64 ev, .int .i64 ti, .bool true] 33) := by
            refine (hg8.block wj.heap.size (by simp; omega) (fun e => ?_)).trans (alloc_kept K7.out)
            have h9 := (OwnR.own_lt (HRO.out) wj.heap.size e.symm).2
            omega
          have HTO8 : Hid (OwnR tgR w6.heap.size (.slice p10 ts.length c10) ts w8) := OwnR.grown2 (HTO7.out.alloc _) (by decide) (HRO7.out.alloc _) hg8
          have HRO8 : Hid (OwnR slR w6.heap.size (.slice q8 (rs.length + 1) d8) (rs ++ [(⟨⟨sj, sp, sn, sc, sl⟩, ev, ti, true⟩ : Sl)]) w8) := hro8
          have y0 : w8.cell? ⟨wj.heap.size, 0, none⟩ = some (.string sj) := by rw [Lib.cell_of_heap k8]; rfl
          have y1 : w8.cell? ⟨wj.heap.size, 1, none⟩ = some (.slice sp sn sc) := by rw [Lib.cell_of_heap k8]; rfl
          have y2 : w8.cell? ⟨wj.heap.size, 2, none⟩ = some (.int .i64 ev) := by rw [Lib.cell_of_heap k8]; rfl
          have y3 : w8.cell? ⟨wj.heap.size, 3, none⟩ = some (.int .i64 ti) := by rw [Lib.cell_of_heap k8]; rfl
          have y4 : w8.cell? ⟨wj.heap.size, 4, none⟩ = some (.bool true) := by rw [Lib.cell_of_heap k8]; rfl
          have hlt8 : wj.heap.size < w8.heap.size := lt_of_heap k8
          have hs69 := HB69.out.size
          clear k8 hg8 hro8 x0 x1 x2 x3 x4
          go_wp2_with fail
          go_roundw
          case rel => exact ⟨k + 1, rs ++ [(⟨⟨sj, sp, sn, sc, sl⟩, ev, ti, true⟩ : Sl)], ts, by omega, by go_num, HRO8.out, (by show _ = _; rw [G1.out, List.map_append]; rfl), (fun s hs => by rcases List.mem_append.1 hs with h | h; exact HRM.out s h; rw [List.mem_singleton] at h; subst h; exact HMEM.out), (by show _ ≤ _; rw [List.length_append, List.length_singleton]; omega), HTO8.out, HTM.out, (by show _ = _; rw [G2.out]), (by show _ ≤ _; omega), by rw [G3.out], HB5.out.trans ((HB7.out.trans (HB69.out.mono HB7.out.size)).mono HB5.out.size), HB69.out⟩
          case measure => simp [intOf]; omega
        | false =>
          have hu : ¬ (sj, sl) = Po.tgt u := of_decide_eq_false HRR.out
          have g1 := H1.out
          have g2 := H2.out
          have g3 := H3.out
          rw [if_neg hu] at g1 g3
          rw [if_neg (by simp)] at g2
          have G1 := Lib.hid g1
          have G2 := Lib.hid g2
          have G3 := Lib.hid g3
          clear g1 g2 g3 hu
          have hba : Below wj.heap.size wj (wj.alloc (.cells #[.string sj, .slice sp sn sc, .int .i64 ev, .int .i64 ti, .bool false] 33)) := (Below.refl _ _).alloc (Nat.le_refl _) _
          have kx := alloc_new wj (.cells #[.string sj, .slice sp sn sc, .int .i64 ev, .int .i64 ti, .bool false] 33)
          have HL1 := Lib.hid (hlab.below hba (Nat.le_refl _))
          have HL2 := Lib.hid (hlabt.below hba (Nat.le_refl _))
          have KX := Lib.hid kx
          have HBA2 := Lib.hid hba
          clear kx hba hlab hlabt
          go_wp2_with (go_at_call 19; refine (HSAME.out _ HL1.out HL2.out).mono ?_)
          first | rintro e w7 rfl hb7 | rintro e w7 ⟨rfl, hb7⟩
          have hbx : Below wj.heap.size wj w7 := HBA2.out.trans (hb7.mono (by simp))
          have k7 := below_kept hb7 KX.out (by simp)
          have x0 : w7.cell? ⟨wj.heap.size, 0, none⟩ = some (.string sj) := by rw [Lib.cell_of_heap k7]; rfl
          have x1 : w7.cell? ⟨wj.heap.size, 1, none⟩ = some (.slice sp sn sc) := by rw [Lib.cell_of_heap k7]; rfl
          have x2 : w7.cell? ⟨wj.heap.size, 2, none⟩ = some (.int .i64 ev) := by rw [Lib.cell_of_heap k7]; rfl
          have x3 : w7.cell? ⟨wj.heap.size, 3, none⟩ = some (.int .i64 ti) := by rw [Lib.cell_of_heap k7]; rfl
          have x4 : w7.cell? ⟨wj.heap.size, 4, none⟩ = some (.bool false) := by rw [Lib.cell_of_heap k7]; rfl
          have hlt7 : wj.heap.size < w7.heap.size := lt_of_heap k7
          have HRO7 : Hid (OwnR slR w6.heap.size (.slice p9 rs.length c9) rs w7) := HRO.out.below hbx (Nat.le_refl _)
          have HTO7 : Hid (OwnR tgR w6.heap.size (.slice p10 ts.length c10) ts w7) := HTO.out.below hbx (Nat.le_refl _)
          have HB68 : Hid (Below w6.heap.size w6 w7) := HB6J.out.trans (hbx.mono HB6J.out.size)
          have K7 := Lib.hid k7
          have hs68 := HB68.out.size
          clear hb7 k7 hbx HL1 HL2 KX HBA2 HSAME
          go_wp2_with (at_builtin; refine wpList_pushRec slOk 22 Try.underlying22 rfl _ _ rfl w6.heap.size _ rs w7 rfl (by exact HRO7.out) ⟨⟨sj, sp, sn, sc, sl⟩, ev, ti, false⟩ _ _ rfl _ rfl rfl ?_ ?_ ?_)
          · omega
          · exact hs68
          intro v8 w8 hro8 hg8
          have HB69 : Hid (Below w6.heap.size w6 w8) := (HB68.out.alloc hs68 _).grown hg8 (by simp; omega) (fun j hj => (World.ownsRow.lt HRO7.out j hj).1)
          have hv8 : ∃ p c, v8 = .slice p (rs.length + 1) c := by obtain ⟨p, c, e, _⟩ := hro8.shape; rw [List.length_append] at e; exact ⟨p, c, e⟩
          obtain ⟨q8, d8, rfl⟩ := hv8
          have k8 : w8.heap[wj.heap.size]? = some (.cells #[.string sj, .slice sp sn sc, .int .i64 ev, .int .i64 ti, .bool false] 33) := by
            refine (hg8.block wj.heap.size (by simp; omega) (fun e => ?_)).trans (alloc_kept K7.out)
            have h9 := (OwnR.own_lt (HRO.out) wj.heap.size e.symm).2
            omega
          have HTO8 : Hid (OwnR tgR w6.heap.size (.slice p10 ts.length c10) ts w8) := OwnR.grown2 (HTO7.out.alloc _) (by decide) (HRO7.out.alloc _) hg8
          have HRO8 : Hid (OwnR slR w6.heap.size (.slice q8 (rs.length + 1) d8) (rs ++ [(⟨⟨sj, sp, sn, sc, sl⟩, ev, ti, false⟩ : Sl)]) w8) := hro8
          have y0 : w8.cell? ⟨wj.heap.size, 0, none⟩ = some (.string sj) := by rw [Lib.cell_of_heap k8]; rfl
          have y1 : w8.cell? ⟨wj.heap.size, 1, none⟩ = some (.slice sp sn sc) := by rw [Lib.cell_of_heap k8]; rfl
          have y2 : w8.cell? ⟨wj.heap.size, 2, none⟩ = some (.int .i64 ev) := by rw [Lib.cell_of_heap k8]; rfl
          have y3 : w8.cell? ⟨wj.heap.size, 3, none⟩ = some (.int .i64 ti) := by rw [Lib.cell_of_heap k8]; rfl
          have y4 : w8.cell? ⟨wj.heap.size, 4, none⟩ = some (.bool false) := by rw [Lib.cell_of_heap k8]; rfl
          have hlt8 : wj.heap.size < w8.heap.size := lt_of_heap k8
          have hs69 := HB69.out.size
          clear k8 hg8 hro8 x0 x1 x2 x3 x4
          go_wp2_with (at_builtin; refine wpList_pushRec tgOk 23 Try.underlying23 rfl _ _ rfl w6.heap.size _ ts w8 rfl (by exact HTO8.out) ⟨sj, sp, sn, sc, sl⟩ _ _ rfl _ rfl rfl ?_ ?_ ?_)
          · omega
          · exact hs69
          intro v10 w10 hto10 hg10
          have hb610 : Below w6.heap.size w6 w10 := (HB69.out.alloc hs69 _).grown hg10 (by simp; omega) (fun j hj => (World.ownsRow.lt HTO8.out j hj).1)
          have hro10 := OwnR.grown2 (HRO8.out.alloc (.cells #[.string sj, .slice sp sn sc] 29)) (by decide) (HTO8.out.alloc _) hg10
          go_wp2_with fail
          go_roundw
          case rel => exact ⟨k + 1, rs ++ [(⟨⟨sj, sp, sn, sc, sl⟩, ev, ti, false⟩ : Sl)], ts ++ [(⟨sj, sp, sn, sc, sl⟩ : Can.T)], by omega, by go_num, hro10, (by show _ = _; rw [G1.out, List.map_append]; rfl), (fun s hs => by rcases List.mem_append.1 hs with h | h; exact HRM.out s h; rw [List.mem_singleton] at h; subst h; exact HMEM.out), (by show _ ≤ _; rw [List.length_append, List.length_singleton]; omega), hto10, (fun t ht => by rcases List.mem_append.1 ht with h | h; exact HTM.out t h; rw [List.mem_singleton] at h; subst h; exact ⟨_, HMEM.out, rfl⟩), (by show _ = _; rw [G2.out, List.map_append]; rfl), (by show _ ≤ _; rw [List.length_append, List.length_singleton]; omega), by rw [G3.out], HB5.out.trans ((HB7.out.trans (hb610.mono HB7.out.size)).mono HB5.out.size), hb610⟩
          case measure => simp [intOf]; omega
    · obtain rfl : k = N := by omega
      have n2 : (k : Int) ≤ (k : Int) := Int.le_refl _
      have hSk : S.take k = S := List.take_of_length_le (by rw [HN.out]; exact Nat.le_refl _)
      have hrv := HRV.out
      have htv := HTV.out
      have heg := HEG.out
      rw [hSk] at hrv htv heg
      have HRV2 := Lib.hid hrv
      have HTV2 := Lib.hid htv
      have hcase := Po.end_cases HOK.out HEND.out heg
      have HRU := Lib.hid (running_is pv ss k cv wj HLN.out (HO.out.at.1.below HBJ.out (Nat.le_refl _)) (HO.out.n2 HV.out HU.out) (by omega))
      have hown : ∀ s ∈ ss, OwnT w.heap.size s.t wj := fun s hs => (HO.out.2 s hs).below HBJ.out (Nat.le_refl _)
      have HOWN := Lib.hid hown
      have HCASE := Lib.hid hcase
      clear hrv htv heg hSk HRV HTV HEG hcase hown
      go_wp2_with (go_at_call 21; refine HRU.out.mono ?_)
      first | rintro e w7 v1 tr rfl hTr htr hb7 | rintro e w7 ⟨⟨v1, tr, rfl, hTr, htr⟩, hb7⟩
      obtain ⟨p1, c1, rfl⟩ := hTr.form
      have htr2 : tr.map Po.tv = ts.map Po.tv := by rw [htr, HV.out]; exact HTV2.out.symm
      have hlr : tr.length = ts.length := by
        have := congrArg List.length htr2
        rwa [List.length_map, List.length_map] at this
      have hts : OwnTs w.heap.size (.slice p10 ts.length c10) ts w7 := ⟨row_lift (HTO.out.below hb7 (Nat.le_refl _)) (by have := HB5.out.size; omega), fun t ht => by
        obtain ⟨s, hs, rfl⟩ := HTM.out t ht
        exact (HOWN.out s hs).below hb7 (Nat.le_refl _)⟩
      have HST := Lib.hid (sametargets_gen p1 p10 tr ts ts.length c1 c10 w7 hlr rfl (by rw [hlr] at hTr; exact hTr.pos.1) hts.pos.1 htr2 (hTr.fa (htr.trans (by rw [HV.out])) (runs_okU HU.out)) (fun t ht => (hts.2 t ht).1) (by have := HTL.out; omega))
      have hb8 : Below w.heap.size w w7 := HB.out.trans (hb7.mono hsz)
      have HB67 : Hid (Below w6.heap.size w6 w7) := HB6J.out.trans (hb7.mono HB6J.out.size)
      have HRO7 : Hid (OwnR slR w6.heap.size (.slice p9 rs.length c9) rs w7) := HRO.out.below hb7 (Nat.le_refl _)
      have HTS7 := Lib.hid hts
      have HB8 := Lib.hid hb8
      have HOWN7 : Hid (∀ s ∈ ss, OwnT w.heap.size s.t w7) := fun s hs => (HOWN.out s hs).below hb7 (Nat.le_refl _)
      rw [hlr]
      clear hTr htr htr2 hlr hts hb7 hb8 HRU HRO HTO HOWN
      go_wp2_with (go_at_call 20; refine HST.out.mono ?_)
      first | rintro e w8 rfl hb9 | rintro e w8 ⟨rfl, hb9⟩
      have HB9 := Lib.hid (below_next HB8.out hb9)
      have HB68 : Hid (Below w6.heap.size w6 w8) := below_next HB67.out hb9
      rcases HCASE.out with ⟨rfl, rfl, h2⟩ | ⟨rfl, rfl, h2, h3, h4⟩
      · have hl3 : s3.length = 0 := by rw [HLS3.out, h2]; rfl
        rw [hl3]
        clear hb9 h2
        go_wp2_with fail
        go_ret
        exact ⟨rfl, HB9.out⟩
      · have HOK2 := Lib.hid h3
        have hU2 : ∀ v ∈ S2, Po.okU (Po.vu v) := by
          rw [h2]
          intro v hv
          exact HU.out v (List.mem_filter.1 hv).1
        have HU2 := Lib.hid hU2
        have hR8 := HR.out.below HB68.out (Nat.le_refl _)
        have hO3 : Po.Own w.heap.size (.slice pE s3.length cE) s3 w8 := ⟨hR8.rs.lift (by have := HB5.out.size; have := HBA5.out; omega), fun s hs => (hR8.ts s hs).lift (by have := HB5.out.size; have := HBA5.out; omega)⟩
        have hRo : Po.Own w.heap.size (.slice p9 rs.length c9) rs w8 := ⟨(HRO7.out.below hb9 (Nat.le_refl _)).lift (by have := HB5.out.size; omega), fun s hs => (HOWN7.out s (HRM.out s hs)).below hb9 (Nat.le_refl _)⟩
        have hrU : ∀ v ∈ Po.rest S (Po.tgt u), Po.okU (Po.vu v) := fun v hv => HU.out v (List.mem_filter.1 hv).1
        have HSM := Lib.hid (same35_is pE p9 s3 rs s3.length rs.length cE c9 (by rw [HS3.out, h2]; exact HRV2.out.symm) w8 rfl rfl hO3.at.1 hRo.at.1 (hO3.n HS3.out hU2) (fun s hs => (hRo.n HRV2.out hrU s hs).1) (by have := HLS3.out; have h9 := congrArg List.length HRV2.out; rw [List.length_map, ← h2] at h9; have := HRL.out; omega))
        have hl3 : s3.length ≤ 1000000 := by have := HLS3.out; have h9 := congrArg List.length HRV2.out; rw [List.length_map, ← h2] at h9; have := HRL.out; omega
        have HRG := Lib.hid (fun w9 hA => pright_is pE s3 s3.length cE true (by rw [HS3.out]; exact h3) w9 rfl hA (hO3.any HS3.out hU2) hl3)
        have HRN := Lib.hid (fun w9 hA => running_is pE s3 s3.length cE w9 rfl hA (hO3.n2 HS3.out hU2) hl3)
        have HO3 := Lib.hid hO3
        have H4 : Hid (Po.runs (s3.map Sl.view) = Po.runs S) := by show _ = _; rw [HS3.out]; exact h4
        have HTS8 : Hid (OwnTs w.heap.size (.slice p10 ts.length c10) ts w8) := HTS7.out.below hb9 (Nat.le_refl _)
        have hwz := HB9.out.size
        clear hb9 h2 h3 h4 hU2 hR8 hO3 hRo hrU hl3 HST
        go_wp2_with (go_at_call 22; refine HSM.out.mono ?_)
        first | rintro e w9 rfl hb9 | rintro e w9 ⟨rfl, hb9⟩
        have hA9 := HO3.out.at.1.below hb9 (Nat.le_refl _)
        have HA9 := Lib.hid hA9
        have HBB9 := Lib.hid (below_next HB9.out hb9)
        have HTS9 : Hid (OwnTs w.heap.size (.slice p10 ts.length c10) ts w9) := HTS8.out.below hb9 (Nat.le_refl _)
        clear hb9 hA9 HSM
        go_wp2_with (go_at_call 23; refine (HRG.out _ HA9.out).mono ?_)
        first | rintro e w10 rfl hb9 | rintro e w10 ⟨rfl, hb9⟩
        have HA10 := Lib.hid (HA9.out.below hb9 (Nat.le_refl _))
        have HBB10 := Lib.hid (below_next HBB9.out hb9)
        have HTS10 : Hid (OwnTs w.heap.size (.slice p10 ts.length c10) ts w10) := HTS9.out.below hb9 (Nat.le_refl _)
        clear hb9 HRG
        go_wp2_with (go_at_call 21; refine (HRN.out _ HA10.out).mono ?_)
        first | rintro e w11 v1 tq rfl hTr htr hb9 | rintro e w11 ⟨⟨v1, tq, rfl, hTr, htr⟩, hb9⟩
        obtain ⟨p2, c2, rfl⟩ := hTr.form
        have htr2 : tq.map Po.tv = ts.map Po.tv := by rw [htr, H4.out]; exact HTV2.out.symm
        have hlr : tq.length = ts.length := by
          have := congrArg List.length htr2
          rwa [List.length_map, List.length_map] at this
        have hts := HTS10.out.below hb9 (Nat.le_refl _)
        have HST := Lib.hid (sametargets_gen p2 p10 tq ts ts.length c2 c10 w11 hlr rfl (by rw [hlr] at hTr; exact hTr.pos.1) hts.pos.1 htr2 (hTr.fa (htr.trans H4.out) (runs_okU HU.out)) (fun t ht => (hts.2 t ht).1) (by have := HTL.out; omega))
        have HBB11 := Lib.hid (below_next HBB10.out hb9)
        rw [hlr]
        clear hb9 hTr htr htr2 hlr hts HRN
        go_wp2_with (go_at_call 20; refine HST.out.mono ?_)
        first | rintro e w12 rfl hb9 | rintro e w12 ⟨rfl, hb9⟩
        have HBB12 := Lib.hid (below_next HBB11.out hb9)
        clear hb9
        go_wp2_with fail
        go_ret
        exact ⟨rfl, HBB12.out⟩
end Go.Proofs.Ytpnpgjjbincigaa
