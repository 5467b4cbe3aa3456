/- The walk of PoolMoves: the law returns true. (Printed by gen_pmov.py.) -/
import Derived.Test.YtpnpgjjbincigaaRws
import Derived.Test.YtpnpgjjbincigaaPRun
import Derived.BigQuiet
namespace Go.Proofs.Ytpnpgjjbincigaa
open Go.RowKit
set_option linter.unusedVariables false

/-- moves of the call's own -/
def Po.OwnM (B : Nat) (v : Value) (ms : List Mv) (w : World) : Prop := OwnR mvR B v ms w ∧ ∀ m ∈ ms, OwnT B m.t w
theorem Po.OwnM.nil (B : Nat) (w : World) : Po.OwnM B (.slice none 0 0) [] w := ⟨OwnR.nil _ _ _, fun _ h => nomatch h⟩
theorem Po.OwnM.below {B C : Nat} {v : Value} {ms : List Mv} {w w' : World} (h : Po.OwnM B v ms w) (hb : Below C w w') (hC : w.heap.size ≤ C) : Po.OwnM B v ms w' := ⟨h.1.below hb hC, fun s hs => (h.2 s hs).below hb hC⟩
theorem Po.OwnM.at {B n c : Nat} {p : Option Addr} {ms : List Mv} {w : World} (h : Po.OwnM B (.slice p n c) ms w) : Po.MAt p ms w ∧ ms.length = n := by
  refine ⟨⟨h.1.lies mvOk, fun s hs => (h.2 s hs).at⟩, ?_⟩
  obtain ⟨p', c', e, _⟩ := h.1.shape
  simp only [Value.slice.injEq] at e
  exact e.2.1.symm
theorem Po.OwnM.push {B : Nat} {v v' : Value} {ms : List Mv} {W w4 : World} (h : Po.OwnM B v ms W) (m : Mv) (ht : OwnT B m.t W) (ho : OwnR mvR B v' (ms ++ [m]) w4) (C : Obj) (hg : (W.alloc C).grownBy w4 v.ownBlock) : Po.OwnM B v' (ms ++ [m]) w4 := by
  refine ⟨ho, fun x hx => ?_⟩
  have hW : Below W.heap.size W (W.alloc C) := (Below.refl _ _).alloc (Nat.le_refl _) _
  have h1 := h.below hW (Nat.le_refl _)
  rcases List.mem_append.1 hx with hx | hx
  · exact (h1.2 x hx).grown (by decide) h1.1 hg
  · rw [List.mem_singleton] at hx
    subst hx
    exact (ht.below hW (Nat.le_refl _)).grown (by decide) h1.1 hg
/-- the moves of a number -/
def Po.mvs (f : Nat → Option Po.V) (T : List Po.U) (ev ti : Int) (k : Nat) : List (Int × Po.U) := (List.range k).flatMap fun n => Po.oM ev ti (f n) (Po.tT T n)
theorem Po.mvs_succ (f : Nat → Option Po.V) (T : List Po.U) (ev ti : Int) (k : Nat) : Po.mvs f T ev ti (k + 1) = Po.mvs f T ev ti k ++ Po.oM ev ti (f k) (Po.tT T k) := by
  unfold Po.mvs
  rw [List.range_succ, List.flatMap_append]
  simp
theorem Po.oM_len (ev ti : Int) (a : Option Po.V) (b : Option Po.U) : (Po.oM ev ti a b).length ≤ 2 := by
  rcases a with _ | a <;> rcases b with _ | b <;> simp [Po.oM] <;> (repeat' split) <;> simp
theorem Po.mvs_len (f : Nat → Option Po.V) (T : List Po.U) (ev ti : Int) (k : Nat) : (Po.mvs f T ev ti k).length ≤ 2 * k := by
  induction k with
  | zero => simp [Po.mvs]
  | succ k ih =>
    rw [Po.mvs_succ, List.length_append]
    have := Po.oM_len ev ti (f k) (Po.tT T k)
    omega
/-- the cells of the k-th slot of a row -/
theorem Po.At.cell35 {p : Option Addr} {ss : List Sl} {S : List Po.V} {w : World} (h : Po.At p ss w) (hv : ss.map Sl.view = S) {k : Nat} (hk : k < S.length) : ∃ b o, p = some ⟨b, o, none⟩ ∧ b < w.heap.size ∧
    w.cell? ⟨b, o + k * 5 + 2, none⟩ = some (.int .i64 S[k].2.2.1) ∧ w.cell? ⟨b, o + k * 5 + 3, none⟩ = some (.int .i64 S[k].2.2.2.1) ∧ w.cell? ⟨b, o + k * 5 + 4, none⟩ = some (.bool S[k].2.2.2.2) := by
  have hk2 : k < ss.length := by rw [← hv, List.length_map] at hk; exact hk
  obtain ⟨b, o, hp, hc⟩ := h.cells (by omega)
  obtain ⟨_, _, d2, d3, d4⟩ := hc k hk2
  have e := view_at hv k hk2 hk
  refine ⟨b, o, hp, World.block_lt_of_cell? _ _ d2, ?_, ?_, ?_⟩
  · rw [d2, ← e]; rfl
  · rw [d3, ← e]; rfl
  · rw [d4, ← e]; rfl

theorem Po.mvs_okU {f : Nat → Option Po.V} (hf : Po.Good f) (T : List Po.U) (ev ti : Int) : ∀ v ∈ Po.mvs f T ev ti 26, Po.okU v.2 := fun v hv => by
  unfold Po.mvs at hv
  obtain ⟨n, hn, h⟩ := List.mem_flatMap.1 hv
  rw [Po.oM_okU hf T ev ti n (List.mem_range.1 hn) v h]
  exact Po.tgt_ok n
set_option maxHeartbeats 6400000 in
set_option maxRecDepth 100000 in
theorem walk_PoolMoves (a0 : Option Addr) (xs0 : List Sm5) (len0 cap0 : Nat) (a1 : Option Addr) (xs1 : List UInt8) (len1 cap1 : Nat) (n2 : Int) (w : World) (hlen0 : xs0.length = len0) (hAt0 : Po.SmAt a0 xs0 w) (hlc0 : len0 ≤ cap0) (hmax0 : cap0 ≤ maxLen) (hlen1 : xs1.length = len1) (hAt1 : Po.U8At a1 xs1 w) (hlc1 : len1 ≤ cap1) (hmax1 : cap1 ≤ maxLen) (wn2 : (Lit.int .u8 n2).wf = true) :
    Calls Try.prog 9 #[.slice a0 len0 cap0, .slice a1 len1 cap1, .int .u8 n2] w fun e w' => e = .returned (.bool true) ∧ Below w.heap.size w w' := by
  obtain ⟨y, hy, rfl⟩ := row.wf_u8 wn2
  obtain ⟨⟨ev, ti⟩, hpl⟩ : ∃ x, Po.pl y = x := ⟨_, rfl⟩
  have HAW := Lib.hid (fun w => awake_is w)
  have HMD := Lib.hid (fun w hA => made_is5 a0 xs0 len0 cap0 w hlen0 hlc0 hA (by omega))
  have HWD := Lib.hid (fun w hA => wanted_is a1 xs1 len1 cap1 w hlen1 hlc1 hA (by omega))
  have HPLN := Lib.hid (fun w => plans_is y (y : Int) rfl hy ev ti hpl w)
  have HA0 := Lib.hid hAt0
  have HA1 := Lib.hid hAt1
  have HNUM : Hid (Po.num ev ti = true) := by have := Po.pl_num y; rw [hpl] at this; exact this
  obtain ⟨f, hf⟩ : ∃ f, Po.fmade xs0 = f := ⟨_, rfl⟩
  obtain ⟨TT, hTT⟩ : ∃ TT, Po.want xs1 = TT := ⟨_, rfl⟩
  have HGF : Hid (Po.Good f) := by show Po.Good f; rw [← hf]; exact Po.fmade_good xs0
  have HTS : Hid (Po.Small TT) := by show Po.Small TT; rw [← hTT]; exact Po.want_small xs1
  have HOK : Hid (Po.okVs (Po.rowsOf f 26) = true) := by show _ = _; rw [← hf]; exact Po.made_ok xs0
  have hmr : Po.made xs0 26 = Po.rowsOf f 26 := by rw [← hf]; rfl
  have HWLEN : Hid (TT.length ≤ 30) := by show _ ≤ _; rw [← hTT]; unfold Po.want; rw [List.length_map, List.length_take]; omega
  rw [hmr] at HMD
  rw [hTT] at HWD
  clear hf hTT hmr hAt0 hAt1 hlen0 hlen1 hlc0 hlc1 hmax0 hmax1 wn2 hpl hy
  go_enter Try.func9, Try.ntmps9
  go_wp2_with (go_at_call 13; refine (HAW.out _).mono ?_)
  first | rintro e w1 rfl hb1 | rintro e w1 ⟨rfl, hb1⟩
  go_wp2_with (go_at_call 17; refine (HMD.out _ (HA0.out.below hb1 (Nat.le_refl _))).mono ?_)
  first | rintro e w2 v ss rfl hO hv hb2 | rintro e w2 ⟨⟨v, ss, rfl, hO, hv⟩, hb2⟩
  have hb3 := below_next hb1 hb2
  obtain ⟨pv, cv, rfl, hcv1, hcv2⟩ := hO.form
  obtain ⟨N, hN⟩ : ∃ N, ss.length = N := ⟨_, rfl⟩
  rw [hN] at hO hcv1 ⊢
  have HO2 := Lib.hid (hO.lift hb1.size)
  have HV := Lib.hid hv
  have hN26 : N ≤ 26 := by rw [← hN, ← List.length_map (f := Sl.view), hv]; exact Po.rows_len _ _
  have HN := Lib.hid hN
  have HB3 := Lib.hid hb3
  clear hO hv hN hb1 hb2 HMD HAW HA0
  go_wp2_with (go_at_call 26; refine (HWD.out _ (HA1.out.below hb3 (Nat.le_refl _))).mono ?_)
  first | rintro e w4 v1 ts rfl hT hvt hb4 | rintro e w4 ⟨⟨v1, ts, rfl, hT, hvt⟩, hb4⟩
  obtain ⟨pt, ct, rfl⟩ := hT.form
  obtain ⟨M, hM⟩ : ∃ M, ts.length = M := ⟨_, rfl⟩
  rw [hM] at hT ⊢
  have hb5 := below_next hb3 hb4
  have HT4 := Lib.hid (hT.lift hb3.size)
  have HVT := Lib.hid hvt
  have HM := Lib.hid hM
  have hM30 : M ≤ 30 := by
    rw [← hM, ← List.length_map (f := Po.tv), hvt]
    exact HWLEN.out
  clear hT hvt hM hb3 HWD HA1
  have HB5 := Lib.hid hb5
  have HO4 : Hid (Po.Own w.heap.size (.slice pv N cv) ss w4) := HO2.out.below hb4 (Nat.le_refl _)
  clear hb4 HO2
  go_wp2_with (go_at_call 27; refine (HPLN.out _).mono ?_)
  first | rintro e w5 rfl hb6 | rintro e w5 ⟨rfl, hb6⟩
  have HB6 := Lib.hid (below_next hb5 hb6)
  have HO5 : Hid (Po.Own w.heap.size (.slice pv N cv) ss w5) := HO4.out.below hb6 (Nat.le_refl _)
  have HT5 : Hid (OwnTs w.heap.size (.slice pt M ct) ts w5) := HT4.out.below hb6 (Nat.le_refl _)
  have HUS := Lib.hid (Po.rows_okU HGF.out)
  have HUT := Lib.hid (Po.small_okU HTS.out)
  have HSY := Lib.hid (sync_is pv pt ss ts N cv M ct ev ti 0 _ _ (by rw [HV.out, HVT.out]; exact Po.rows_sync HGF.out HOK.out HTS.out ev ti HNUM.out) w5 HN.out HM.out HO5.out.at.1 HT5.out.pos.1 (HO5.out.any HV.out HUS.out) (fun t ht => Po.okU.any ⟨(HT5.out.2 t ht).1, (HT5.out.2 t ht).2⟩ (Awk.okT HVT.out HUT.out t ht)) (by omega) (by omega))
  clear hb5 hb6 HO4 HT4 HPLN
  go_wp2_with (go_at_call 25; refine HSY.out.mono ?_)
  first | rintro e w6 v1 v2 s2 m2 rfl hR hs hm hb7 | rintro e w6 v1 v2 rfl s2 m2 hR hs hm hb7 | rintro e w6 ⟨⟨v1, v2, s2, m2, rfl, hR, hs, hm⟩, hb7⟩
  obtain ⟨⟨pS, cS, rfl, hcS, hcS2⟩, pM, cM, rfl, hcM, hcM2⟩ := hR.form
  obtain ⟨N2, hN2⟩ : ∃ N2, s2.length = N2 := ⟨_, rfl⟩
  obtain ⟨M2, hM2⟩ : ∃ M2, m2.length = M2 := ⟨_, rfl⟩
  rw [hN2, hM2] at hR
  rw [hN2] at hcS ⊢
  rw [hM2] at hcM ⊢
  obtain ⟨g, hg⟩ : ∃ g, Po.fS f TT ev ti = g := ⟨_, rfl⟩
  rw [hg] at hs
  have HGG : Hid (Po.Good g) := by show Po.Good g; rw [← hg]; exact Po.fS_good HGF.out TT ev ti
  have HG := Lib.hid hg
  have hN226 : N2 ≤ 26 := by rw [← hN2, ← List.length_map (f := Sl.view), hs]; exact Po.rows_len _ _
  have HB7 := Lib.hid (below_next HB6.out hb7)
  have HR := Lib.hid hR
  have HS2 := Lib.hid hs
  have HM2 : Hid (m2.map Mv.view = Po.mvs f TT ev ti 26) := hm
  have HN2 := Lib.hid hN2
  have HLM2 := Lib.hid hM2
  have HO6 : Hid (Po.Own w.heap.size (.slice pv N cv) ss w6) := HO5.out.below hb7 (Nat.le_refl _)
  have HT6 : Hid (OwnTs w.heap.size (.slice pt M ct) ts w6) := HT5.out.below hb7 (Nat.le_refl _)
  have HOS : Hid (Po.Own w5.heap.size (.slice pS N2 cS) s2 w6) := ⟨hR.rs, hR.ts⟩
  have HUS2 := Lib.hid (Po.rows_okU HGG.out)
  have HF1 := Lib.hid (HO6.out.n HV.out HUS.out)
  have HF2 := Lib.hid (HOS.out.n HS2.out HUS2.out)
  have HFT : Hid (∀ s ∈ ts, s.ls.length = s.n ∧ s.n ≤ maxLen) := fun t ht => ⟨(HT6.out.2 t ht).1, by have h9 := (Awk.okT HVT.out HUT.out t ht).2.2; have h8 := (HT6.out.2 t ht).1; have h7 : t.ls.length ≤ 1000 := h9; unfold maxLen; omega⟩
  clear hg hR hs hm hb7 hN2 hM2 HSY HO5 HT5
  go_wp2_with fail
  go_loopw [14, 43] (fun v14 i wr => ∃ (k : Nat) (ms : List Mv), k ≤ 26 ∧ i = .int .i64 (k : Int) ∧ Hid (Po.OwnM w6.heap.size v14 ms wr) ∧ Hid (ms.map Mv.view = Po.mvs f TT ev ti k) ∧ Hid (Below w6.heap.size w6 wr)) (fun _ i _ => 26 - (intOf i).toNat)
  case atStart => exact ⟨0, [], Nat.zero_le _, rfl, Po.OwnM.nil _ _, rfl, Below.refl _ _⟩
  case round =>
    obtain ⟨wj, rfl⟩ : ∃ wo : World, wo = wr := ⟨_, rfl⟩
    obtain ⟨k, ms, hk, rfl, HMO, HMV, HBJ⟩ := hrel
    have hsj := HBJ.out.size
    have hml : ms.length ≤ 52 := by
      have h1 := congrArg List.length HMV.out
      rw [List.length_map] at h1
      have := Po.mvs_len f TT ev ti k
      omega
    obtain ⟨p14, c14, rfl, _⟩ := HMO.out.1.shape
    by_cases hlt : k < 26
    · have n1 : (0 : Int) ≤ (k : Int) := by omega
      have n3 : (k : Int) < 26 := by omega
      have HT := Lib.hid (fun w => target_is k (by omega) w)
      go_wp2_with (go_at_call 15; refine (HT.out _).mono ?_)
      first | rintro e w7 t rfl hOt hvt hb8 | rintro e w7 ⟨⟨t, rfl, hOt, hvt⟩, hb8⟩
      obtain ⟨tj, tp, tn, tc, tl⟩ := t
      have hb9 : Below w6.heap.size w6 w7 := HBJ.out.trans (hb8.mono hsj)
      have hs7 := hb9.size
      have hj7 := hb8.size
      have HMO7 : Hid (Po.OwnM w6.heap.size (.slice p14 ms.length c14) ms w7) := HMO.out.below hb8 (Nat.le_refl _)
      have HOT : Hid (OwnT w6.heap.size ⟨tj, tp, tn, tc, tl⟩ w7) := hOt.lift hsj
      have HVK := Lib.hid hvt
      have HTN : Hid ((⟨tj, tp, tn, tc, tl⟩ : Can.T).ls.length = (⟨tj, tp, tn, tc, tl⟩ : Can.T).n ∧ (⟨tj, tp, tn, tc, tl⟩ : Can.T).n ≤ maxLen) := Po.okU.n hOt (by rw [hvt]; exact Po.tgt_ok k)
      have HB9 := Lib.hid hb9
      have HKB := Lib.hid (alloc_new w7 (.cells #[.string tj, .slice tp tn tc] 29))
      have hba : Below w7.heap.size w7 (w7.alloc (.cells #[.string tj, .slice tp tn tc] 29)) := (Below.refl _ _).alloc (Nat.le_refl _) _
      have HB10 := Lib.hid (HB9.out.trans (hba.mono hs7))
      obtain ⟨⟨i1, was⟩, hfi⟩ : ∃ x, Po.find (Po.rowsOf f 26) (Po.tgt k) = x := ⟨_, rfl⟩
      obtain ⟨⟨i2, is⟩, hfk⟩ : ∃ x, Po.find (Po.rowsOf g 26) (Po.tgt k) = x := ⟨_, rfl⟩
      have HL1 := Lib.hid (lfind_is pv ss ⟨tj, tp, tn, tc, tl⟩ N cv i1 was (by rw [HV.out, HVK.out]; exact hfi) _ HN.out (HO6.out.at.1.below HB10.out (Nat.le_refl _)) (HOT.out.at.below hba (Nat.le_refl _)) HF1.out HTN.out.1 HTN.out.2 (by omega))
      have HL2 := Lib.hid (fun w hA hB => lfind_is pS s2 ⟨tj, tp, tn, tc, tl⟩ N2 cS i2 is (by rw [HS2.out, HVK.out]; exact hfk) w HN2.out hA hB HF2.out HTN.out.1 HTN.out.2 (by omega))
      have HFI := Lib.hid hfi
      have HFK := Lib.hid hfk
      have HLB := Lib.hid (HOT.out.at.below hba (Nat.le_refl _))
      clear hfi hfk hOt hvt hb8 hb9 hba HT
      go_wp2_with (go_at_call 28; refine HL1.out.mono ?_)
      first | rintro e w8 rfl hb11 | rintro e w8 ⟨rfl, hb11⟩
      have HB8 : Hid (Below w6.heap.size w6 w8) := HB10.out.trans (hb11.mono (by simp; omega))
      have hk8 := below_kept hb11 HKB.out (by simp)
      have c80 : w8.cell? ⟨w7.heap.size, 0, none⟩ = some (.string tj) := by rw [Lib.cell_of_heap hk8]; rfl
      have c81 : w8.cell? ⟨w7.heap.size, 1, none⟩ = some (.slice tp tn tc) := by rw [Lib.cell_of_heap hk8]; rfl
      have HLB8 : Hid (Lab.At tp tl w8) := HLB.out.below hb11 (Nat.le_refl _)
      have HK8 := Lib.hid hk8
      have HW78 : Hid (Below w7.heap.size w7 w8) := ((Below.refl _ w7).alloc (Nat.le_refl _) _).trans (hb11.mono (by simp))
      clear hb11 hk8 HL1 HKB
      go_wp2_with (go_at_call 28; refine (HL2.out _ (HOS.out.at.1.below HB8.out (Nat.le_refl _)) HLB8.out).mono ?_)
      first | rintro e w9 rfl hb12 | rintro e w9 ⟨rfl, hb12⟩
      have HB12 : Hid (Below w6.heap.size w6 w9) := below_next HB8.out hb12
      have hk9 := below_kept hb12 HK8.out (lt_of_heap HK8.out)
      have c90 : w9.cell? ⟨w7.heap.size, 0, none⟩ = some (.string tj) := by rw [Lib.cell_of_heap hk9]; rfl
      have c91 : w9.cell? ⟨w7.heap.size, 1, none⟩ = some (.slice tp tn tc) := by rw [Lib.cell_of_heap hk9]; rfl
      have HK9 := Lib.hid hk9
      have HLB9 : Hid (Lab.At tp tl w9) := HLB8.out.below hb12 (Nat.le_refl _)
      have HW79 : Hid (Below w7.heap.size w7 w9) := below_next HW78.out hb12
      have HMO9 : Hid (Po.OwnM w6.heap.size (.slice p14 ms.length c14) ms w9) := HMO7.out.below HW79.out (Nat.le_refl _)
      have HOT9 : Hid (OwnT w6.heap.size ⟨tj, tp, tn, tc, tl⟩ w9) := HOT.out.below HW79.out (Nat.le_refl _)
      have hlt9 : w7.heap.size < w9.heap.size := lt_of_heap hk9
      have hs9 := HB12.out.size
      have HMS := Lib.hid (Po.mvs_succ f TT ev ti k)
      clear hb12 hk9 c80 c81 HL2 HK8 HMO7 HW78 HB10 HLB HLB8
      by_cases hin : Po.tgt k ∈ TT
      · cases hfa : f k with
        | none =>
          have hgk : g k = some ((Po.tgt k).1, (Po.tgt k).2, ev, ti, false) := by
            rw [← HG.out]
            unfold Po.fS Po.tT
            rw [hfa, if_pos hin]
            rfl
          have hom : Po.oM ev ti (f k) (Po.tT TT k) = [(1, Po.tgt k)] := by
            unfold Po.tT
            rw [hfa, if_pos hin]
            rfl
          have h1 := Po.rows_none HGF.out k hlt hfa
          rw [HFI.out] at h1
          simp only [Prod.mk.injEq] at h1
          obtain ⟨rfl, rfl⟩ := h1
          obtain ⟨q2, h2, hq2, e2⟩ := Po.rows_some HGG.out k hlt _ hgk
          rw [HFK.out] at h2
          simp only [Prod.mk.injEq] at h2
          obtain ⟨rfl, rfl⟩ := h2
          have HOM := Lib.hid hom
          clear hom hgk
          go_wp2_with (at_builtin; refine wpList_pushRec mvOk 50 Try.underlying50 rfl _ _ rfl w6.heap.size _ ms w9 rfl (by exact HMO9.out.1) ⟨1, ⟨tj, tp, tn, tc, tl⟩⟩ _ _ rfl _ rfl rfl ?_ ?_ ?_)
          · omega
          · exact hs9
          intro vp0 wp0 hop0 hgp0
          have HMP0 : Hid (Po.OwnM w6.heap.size vp0 (ms ++ [⟨1, ⟨tj, tp, tn, tc, tl⟩⟩]) wp0) := HMO9.out.push ⟨1, ⟨tj, tp, tn, tc, tl⟩⟩ HOT9.out (by first | exact hop0 | (rw [List.append_assoc]; exact hop0)) _ hgp0
          have hbp0 : Below w6.heap.size w6 wp0 := (HB12.out.alloc hs9 _).grown hgp0 (by simp; omega) (fun j hj => (World.ownsRow.lt HMO9.out.1 j hj).1)
          have hkp0 : wp0.heap[w7.heap.size]? = some (.cells #[.string tj, .slice tp tn tc] 29) := OwnR.grown_block (HMO9.out.1.alloc _) hgp0 (alloc_kept HK9.out) (by decide)
          have HOTP0 : Hid (OwnT w6.heap.size ⟨tj, tp, tn, tc, tl⟩ wp0) := HMP0.out.2 ⟨1, ⟨tj, tp, tn, tc, tl⟩⟩ (List.mem_append_right _ (List.mem_singleton.2 rfl))
          obtain ⟨pp0, cp0, hvp0, _⟩ := hop0.shape
          rw [List.length_append] at hvp0
          replace hvp0 : vp0 = .slice pp0 (ms.length + 1) cp0 := hvp0
          subst hvp0
          have cp00 : wp0.cell? ⟨w7.heap.size, 0, none⟩ = some (.string tj) := by rw [Lib.cell_of_heap hkp0]; rfl
          have cp01 : wp0.cell? ⟨w7.heap.size, 1, none⟩ = some (.slice tp tn tc) := by rw [Lib.cell_of_heap hkp0]; rfl
          have HKP0 := Lib.hid hkp0
          have HBP0 := Lib.hid hbp0
          have hsp0 := hbp0.size
          have hltp0 : w7.heap.size < wp0.heap.size := lt_of_heap hkp0
          clear hop0 hgp0 hbp0 hkp0
          go_wp2_with fail
          go_quiet (fail)
          go_wp2_with fail
          go_roundw
          case rel => exact ⟨k + 1, (ms ++ [(⟨1, ⟨tj, tp, tn, tc, tl⟩⟩ : Mv)]), by omega, by go_num, HMP0.out.below (below_drewN (Below.refl _ _) _) (Nat.le_refl _), (by show _ = _; rw [HMS.out, HOM.out, ← HMV.out]; simp only [List.map_append, List.map_cons, List.map_nil]; try (rw [← HVK.out]; rfl)), below_drewN HBP0.out _⟩
          case measure => simp [intOf]; omega
        | some a =>
          obtain ⟨aj, al, aev, ati, aen⟩ := a
          cases aen with
          | true =>
            have hgk : g k = some (aj, al, aev, ati, true) := by
              rw [← HG.out]
              unfold Po.fS Po.tT
              rw [hfa, if_pos hin]
              show some (aj, al, aev, ati, if _ then false else true) = _
              rw [if_neg (fun hh => by cases hh.2.2.1)]
            have hom : Po.oM ev ti (f k) (Po.tT TT k) = [(3, Po.tgt k)] := by
              unfold Po.tT
              rw [hfa, if_pos hin]
              have htk : (aj, al) = Po.tgt k := HGF.out k _ hlt hfa
              try rw [← htk]
              show (if _ then [] else _) = _
              rw [if_neg (fun hh => by cases hh.2.2.1)]
              rfl
            obtain ⟨q1, h1, hq1, e1⟩ := Po.rows_some HGF.out k hlt _ hfa
            rw [HFI.out] at h1
            simp only [Prod.mk.injEq] at h1
            obtain ⟨rfl, rfl⟩ := h1
            obtain ⟨b1, o1, rfl, hb1, u2, u3, u4⟩ := HO6.out.at.1.cell35 HV.out hq1
            rw [e1] at u2 u3 u4
            have m1 : (0 : Int) ≤ (q1 : Int) := by omega
            have m2 : (q1 : Int) < (N : Int) := by have := HN.out; have h3 := congrArg List.length HV.out; rw [List.length_map] at h3; omega
            obtain ⟨q2, h2, hq2, e2⟩ := Po.rows_some HGG.out k hlt _ hgk
            rw [HFK.out] at h2
            simp only [Prod.mk.injEq] at h2
            obtain ⟨rfl, rfl⟩ := h2
            obtain ⟨b2, o2, rfl, hb2, x2, x3, x4⟩ := HOS.out.at.1.cell35 HS2.out hq2
            rw [e2] at x2 x3 x4
            dsimp only at u2 u3 u4 x2 x3 x4
            have m3 : (0 : Int) ≤ (q2 : Int) := by omega
            have m4 : (q2 : Int) < (N2 : Int) := by have := HN2.out; have h3 := congrArg List.length HS2.out; rw [List.length_map] at h3; omega
            have HU := Lib.hid (show _ ∧ _ ∧ _ ∧ _ ∧ _ ∧ _ from ⟨u2, u3, u4, x2, x3, x4⟩)
            have HU := Lib.hid (show _ ∧ _ ∧ _ ∧ _ ∧ _ ∧ _ from ⟨u2, u3, u4, x2, x3, x4⟩)
            clear u2 u3 u4 x2 x3 x4
            have qe : (aev != aev) = false := by simp
            have qt : (ati != ati) = false := by simp
            have HOM := Lib.hid hom
            clear hom hgk
            have u2a := (HB12.out.cell (p := ⟨b1, o1 + q1 * 5 + 2, none⟩) hb1).trans HU.out.1
            have u3a := (HB12.out.cell (p := ⟨b1, o1 + q1 * 5 + 3, none⟩) hb1).trans HU.out.2.1
            have u4a := (HB12.out.cell (p := ⟨b1, o1 + q1 * 5 + 4, none⟩) hb1).trans HU.out.2.2.1
            have x2a := (HB12.out.cell (p := ⟨b2, o2 + q2 * 5 + 2, none⟩) hb2).trans HU.out.2.2.2.1
            have x3a := (HB12.out.cell (p := ⟨b2, o2 + q2 * 5 + 3, none⟩) hb2).trans HU.out.2.2.2.2.1
            have x4a := (HB12.out.cell (p := ⟨b2, o2 + q2 * 5 + 4, none⟩) hb2).trans HU.out.2.2.2.2.2
            have hb1a : b1 < w9.heap.size := by omega
            have hb2a : b2 < w9.heap.size := by omega
            have HHA := Lib.hid (has_is pt ts ⟨tj, tp, tn, tc, tl⟩ M ct true (by rw [HVK.out, HVT.out]; simp [hin]) w9 HM.out (HT6.out.pos.1.below HB12.out (Nat.le_refl _)) HOT9.out.at HFT.out HTN.out.1 HTN.out.2 (by omega))
            go_wp2_with (go_at_call 31; refine HHA.out.mono ?_)
            first | rintro e wh rfl hbh | rintro e wh ⟨rfl, hbh⟩
            have HBH : Hid (Below w6.heap.size w6 wh) := below_next HB12.out hbh
            have hkh := below_kept hbh HK9.out (lt_of_heap HK9.out)
            have ch0 : wh.cell? ⟨w7.heap.size, 0, none⟩ = some (.string tj) := by rw [Lib.cell_of_heap hkh]; rfl
            have ch1 : wh.cell? ⟨w7.heap.size, 1, none⟩ = some (.slice tp tn tc) := by rw [Lib.cell_of_heap hkh]; rfl
            have HMOH := Lib.hid (HMO9.out.below hbh (Nat.le_refl _))
            have HOTH : Hid (OwnT w6.heap.size ⟨tj, tp, tn, tc, tl⟩ wh) := HOT9.out.below hbh (Nat.le_refl _)
            have HKH := Lib.hid hkh
            have hsh := HBH.out.size
            have hlth : w7.heap.size < wh.heap.size := lt_of_heap hkh
            have u2h := (HBH.out.cell (p := ⟨b1, o1 + q1 * 5 + 2, none⟩) hb1).trans HU.out.1
            have u3h := (HBH.out.cell (p := ⟨b1, o1 + q1 * 5 + 3, none⟩) hb1).trans HU.out.2.1
            have u4h := (HBH.out.cell (p := ⟨b1, o1 + q1 * 5 + 4, none⟩) hb1).trans HU.out.2.2.1
            have x2h := (HBH.out.cell (p := ⟨b2, o2 + q2 * 5 + 2, none⟩) hb2).trans HU.out.2.2.2.1
            have x3h := (HBH.out.cell (p := ⟨b2, o2 + q2 * 5 + 3, none⟩) hb2).trans HU.out.2.2.2.2.1
            have x4h := (HBH.out.cell (p := ⟨b2, o2 + q2 * 5 + 4, none⟩) hb2).trans HU.out.2.2.2.2.2
            have hb1h : b1 < wh.heap.size := by omega
            have hb2h : b2 < wh.heap.size := by omega
            clear hbh hkh HHA
            go_wp2_with (at_builtin; refine wpList_pushRec mvOk 50 Try.underlying50 rfl _ _ rfl w6.heap.size _ ms wh rfl (by exact HMOH.out.1) ⟨3, ⟨tj, tp, tn, tc, tl⟩⟩ _ _ rfl _ rfl rfl ?_ ?_ ?_)
            · omega
            · exact hsh
            intro vp0 wp0 hop0 hgp0
            have HMP0 : Hid (Po.OwnM w6.heap.size vp0 (ms ++ [⟨3, ⟨tj, tp, tn, tc, tl⟩⟩]) wp0) := HMOH.out.push ⟨3, ⟨tj, tp, tn, tc, tl⟩⟩ HOTH.out (by first | exact hop0 | (rw [List.append_assoc]; exact hop0)) _ hgp0
            have hbp0 : Below w6.heap.size w6 wp0 := (HBH.out.alloc hsh _).grown hgp0 (by simp; omega) (fun j hj => (World.ownsRow.lt HMOH.out.1 j hj).1)
            have hkp0 : wp0.heap[w7.heap.size]? = some (.cells #[.string tj, .slice tp tn tc] 29) := OwnR.grown_block (HMOH.out.1.alloc _) hgp0 (alloc_kept HKH.out) (by decide)
            have HOTP0 : Hid (OwnT w6.heap.size ⟨tj, tp, tn, tc, tl⟩ wp0) := HMP0.out.2 ⟨3, ⟨tj, tp, tn, tc, tl⟩⟩ (List.mem_append_right _ (List.mem_singleton.2 rfl))
            obtain ⟨pp0, cp0, hvp0, _⟩ := hop0.shape
            rw [List.length_append] at hvp0
            replace hvp0 : vp0 = .slice pp0 (ms.length + 1) cp0 := hvp0
            subst hvp0
            have cp00 : wp0.cell? ⟨w7.heap.size, 0, none⟩ = some (.string tj) := by rw [Lib.cell_of_heap hkp0]; rfl
            have cp01 : wp0.cell? ⟨w7.heap.size, 1, none⟩ = some (.slice tp tn tc) := by rw [Lib.cell_of_heap hkp0]; rfl
            have HKP0 := Lib.hid hkp0
            have HBP0 := Lib.hid hbp0
            have hsp0 := hbp0.size
            have hltp0 : w7.heap.size < wp0.heap.size := lt_of_heap hkp0
            have u2p0 := (HBP0.out.cell (p := ⟨b1, o1 + q1 * 5 + 2, none⟩) hb1).trans HU.out.1
            have u3p0 := (HBP0.out.cell (p := ⟨b1, o1 + q1 * 5 + 3, none⟩) hb1).trans HU.out.2.1
            have u4p0 := (HBP0.out.cell (p := ⟨b1, o1 + q1 * 5 + 4, none⟩) hb1).trans HU.out.2.2.1
            have x2p0 := (HBP0.out.cell (p := ⟨b2, o2 + q2 * 5 + 2, none⟩) hb2).trans HU.out.2.2.2.1
            have x3p0 := (HBP0.out.cell (p := ⟨b2, o2 + q2 * 5 + 3, none⟩) hb2).trans HU.out.2.2.2.2.1
            have x4p0 := (HBP0.out.cell (p := ⟨b2, o2 + q2 * 5 + 4, none⟩) hb2).trans HU.out.2.2.2.2.2
            have hb1p0 : b1 < wp0.heap.size := by omega
            have hb2p0 : b2 < wp0.heap.size := by omega
            clear hop0 hgp0 hbp0 hkp0
            go_wp2_with fail
            go_quiet (fail)
            go_wp2_with fail
            go_roundw
            case rel => exact ⟨k + 1, (ms ++ [(⟨3, ⟨tj, tp, tn, tc, tl⟩⟩ : Mv)]), by omega, by go_num, HMP0.out.below (below_drewN (Below.refl _ _) _) (Nat.le_refl _), (by show _ = _; rw [HMS.out, HOM.out, ← HMV.out]; simp only [List.map_append, List.map_cons, List.map_nil]; try (rw [← HVK.out]; rfl)), below_drewN HBP0.out _⟩
            case measure => simp [intOf]; omega
          | false =>
            by_cases hsame : aev = ev ∧ ati = ti
            · skip
              have hgk : g k = some (aj, al, aev, ati, false) := by
                rw [← HG.out]
                unfold Po.fS Po.tT
                rw [hfa, if_pos hin]
                show some (aj, al, aev, ati, if _ then false else true) = _
                rw [if_pos (⟨hsame.1, hsame.2, rfl, rfl⟩)]
              have hom : Po.oM ev ti (f k) (Po.tT TT k) = [] := by
                unfold Po.tT
                rw [hfa, if_pos hin]
                have htk : (aj, al) = Po.tgt k := HGF.out k _ hlt hfa
                try rw [← htk]
                show (if _ then [] else _) = _
                rw [if_pos (⟨hsame.1, hsame.2, rfl, rfl⟩)]
              obtain ⟨q1, h1, hq1, e1⟩ := Po.rows_some HGF.out k hlt _ hfa
              rw [HFI.out] at h1
              simp only [Prod.mk.injEq] at h1
              obtain ⟨rfl, rfl⟩ := h1
              obtain ⟨b1, o1, rfl, hb1, u2, u3, u4⟩ := HO6.out.at.1.cell35 HV.out hq1
              rw [e1] at u2 u3 u4
              have m1 : (0 : Int) ≤ (q1 : Int) := by omega
              have m2 : (q1 : Int) < (N : Int) := by have := HN.out; have h3 := congrArg List.length HV.out; rw [List.length_map] at h3; omega
              obtain ⟨q2, h2, hq2, e2⟩ := Po.rows_some HGG.out k hlt _ hgk
              rw [HFK.out] at h2
              simp only [Prod.mk.injEq] at h2
              obtain ⟨rfl, rfl⟩ := h2
              obtain ⟨b2, o2, rfl, hb2, x2, x3, x4⟩ := HOS.out.at.1.cell35 HS2.out hq2
              rw [e2] at x2 x3 x4
              dsimp only at u2 u3 u4 x2 x3 x4
              have m3 : (0 : Int) ≤ (q2 : Int) := by omega
              have m4 : (q2 : Int) < (N2 : Int) := by have := HN2.out; have h3 := congrArg List.length HS2.out; rw [List.length_map] at h3; omega
              have HU := Lib.hid (show _ ∧ _ ∧ _ ∧ _ ∧ _ ∧ _ from ⟨u2, u3, u4, x2, x3, x4⟩)
              have HU := Lib.hid (show _ ∧ _ ∧ _ ∧ _ ∧ _ ∧ _ from ⟨u2, u3, u4, x2, x3, x4⟩)
              clear u2 u3 u4 x2 x3 x4
              have qe : (aev != aev) = false := by simp
              have qt : (ati != ati) = false := by simp
              have HOM := Lib.hid hom
              clear hom hgk
              have u2a := (HB12.out.cell (p := ⟨b1, o1 + q1 * 5 + 2, none⟩) hb1).trans HU.out.1
              have u3a := (HB12.out.cell (p := ⟨b1, o1 + q1 * 5 + 3, none⟩) hb1).trans HU.out.2.1
              have u4a := (HB12.out.cell (p := ⟨b1, o1 + q1 * 5 + 4, none⟩) hb1).trans HU.out.2.2.1
              have x2a := (HB12.out.cell (p := ⟨b2, o2 + q2 * 5 + 2, none⟩) hb2).trans HU.out.2.2.2.1
              have x3a := (HB12.out.cell (p := ⟨b2, o2 + q2 * 5 + 3, none⟩) hb2).trans HU.out.2.2.2.2.1
              have x4a := (HB12.out.cell (p := ⟨b2, o2 + q2 * 5 + 4, none⟩) hb2).trans HU.out.2.2.2.2.2
              have hb1a : b1 < w9.heap.size := by omega
              have hb2a : b2 < w9.heap.size := by omega
              go_wp2_with fail
              go_quiet (fail)
              go_wp2_with fail
              go_roundw
              case rel => exact ⟨k + 1, ms, by omega, by go_num, HMO9.out.below (below_drewN (Below.refl _ _) _) (Nat.le_refl _), (by show _ = _; rw [HMS.out, HOM.out, ← HMV.out]; simp only [List.append_nil]; try (rw [← HVK.out]; rfl)), below_drewN HB12.out _⟩
              case measure => simp [intOf]; omega
            · skip
              have hgk : g k = some (aj, al, aev, ati, true) := by
                rw [← HG.out]
                unfold Po.fS Po.tT
                rw [hfa, if_pos hin]
                show some (aj, al, aev, ati, if _ then false else true) = _
                rw [if_neg (fun hh => hsame ⟨hh.1, hh.2.1⟩)]
              have hom : Po.oM ev ti (f k) (Po.tT TT k) = [(2, Po.tgt k), (3, Po.tgt k)] := by
                unfold Po.tT
                rw [hfa, if_pos hin]
                have htk : (aj, al) = Po.tgt k := HGF.out k _ hlt hfa
                try rw [← htk]
                show (if _ then [] else _) = _
                rw [if_neg (fun hh => hsame ⟨hh.1, hh.2.1⟩)]
                rfl
              obtain ⟨q1, h1, hq1, e1⟩ := Po.rows_some HGF.out k hlt _ hfa
              rw [HFI.out] at h1
              simp only [Prod.mk.injEq] at h1
              obtain ⟨rfl, rfl⟩ := h1
              obtain ⟨b1, o1, rfl, hb1, u2, u3, u4⟩ := HO6.out.at.1.cell35 HV.out hq1
              rw [e1] at u2 u3 u4
              have m1 : (0 : Int) ≤ (q1 : Int) := by omega
              have m2 : (q1 : Int) < (N : Int) := by have := HN.out; have h3 := congrArg List.length HV.out; rw [List.length_map] at h3; omega
              obtain ⟨q2, h2, hq2, e2⟩ := Po.rows_some HGG.out k hlt _ hgk
              rw [HFK.out] at h2
              simp only [Prod.mk.injEq] at h2
              obtain ⟨rfl, rfl⟩ := h2
              obtain ⟨b2, o2, rfl, hb2, x2, x3, x4⟩ := HOS.out.at.1.cell35 HS2.out hq2
              rw [e2] at x2 x3 x4
              dsimp only at u2 u3 u4 x2 x3 x4
              have m3 : (0 : Int) ≤ (q2 : Int) := by omega
              have m4 : (q2 : Int) < (N2 : Int) := by have := HN2.out; have h3 := congrArg List.length HS2.out; rw [List.length_map] at h3; omega
              have HU := Lib.hid (show _ ∧ _ ∧ _ ∧ _ ∧ _ ∧ _ from ⟨u2, u3, u4, x2, x3, x4⟩)
              have HU := Lib.hid (show _ ∧ _ ∧ _ ∧ _ ∧ _ ∧ _ from ⟨u2, u3, u4, x2, x3, x4⟩)
              clear u2 u3 u4 x2 x3 x4
              have qe : (aev != aev) = false := by simp
              have qt : (ati != ati) = false := by simp
              have HOM := Lib.hid hom
              clear hom hgk
              have u2a := (HB12.out.cell (p := ⟨b1, o1 + q1 * 5 + 2, none⟩) hb1).trans HU.out.1
              have u3a := (HB12.out.cell (p := ⟨b1, o1 + q1 * 5 + 3, none⟩) hb1).trans HU.out.2.1
              have u4a := (HB12.out.cell (p := ⟨b1, o1 + q1 * 5 + 4, none⟩) hb1).trans HU.out.2.2.1
              have x2a := (HB12.out.cell (p := ⟨b2, o2 + q2 * 5 + 2, none⟩) hb2).trans HU.out.2.2.2.1
              have x3a := (HB12.out.cell (p := ⟨b2, o2 + q2 * 5 + 3, none⟩) hb2).trans HU.out.2.2.2.2.1
              have x4a := (HB12.out.cell (p := ⟨b2, o2 + q2 * 5 + 4, none⟩) hb2).trans HU.out.2.2.2.2.2
              have hb1a : b1 < w9.heap.size := by omega
              have hb2a : b2 < w9.heap.size := by omega
              go_wp2_with (at_builtin; refine wpList_pushRec mvOk 50 Try.underlying50 rfl _ _ rfl w6.heap.size _ ms w9 rfl (by exact HMO9.out.1) ⟨2, ⟨tj, tp, tn, tc, tl⟩⟩ _ _ rfl _ rfl rfl ?_ ?_ ?_)
              · omega
              · exact hs9
              intro vp0 wp0 hop0 hgp0
              have HMP0 : Hid (Po.OwnM w6.heap.size vp0 (ms ++ [⟨2, ⟨tj, tp, tn, tc, tl⟩⟩]) wp0) := HMO9.out.push ⟨2, ⟨tj, tp, tn, tc, tl⟩⟩ HOT9.out (by first | exact hop0 | (rw [List.append_assoc]; exact hop0)) _ hgp0
              have hbp0 : Below w6.heap.size w6 wp0 := (HB12.out.alloc hs9 _).grown hgp0 (by simp; omega) (fun j hj => (World.ownsRow.lt HMO9.out.1 j hj).1)
              have hkp0 : wp0.heap[w7.heap.size]? = some (.cells #[.string tj, .slice tp tn tc] 29) := OwnR.grown_block (HMO9.out.1.alloc _) hgp0 (alloc_kept HK9.out) (by decide)
              have HOTP0 : Hid (OwnT w6.heap.size ⟨tj, tp, tn, tc, tl⟩ wp0) := HMP0.out.2 ⟨2, ⟨tj, tp, tn, tc, tl⟩⟩ (List.mem_append_right _ (List.mem_singleton.2 rfl))
              obtain ⟨pp0, cp0, hvp0, _⟩ := hop0.shape
              rw [List.length_append] at hvp0
              replace hvp0 : vp0 = .slice pp0 (ms.length + 1) cp0 := hvp0
              subst hvp0
              have cp00 : wp0.cell? ⟨w7.heap.size, 0, none⟩ = some (.string tj) := by rw [Lib.cell_of_heap hkp0]; rfl
              have cp01 : wp0.cell? ⟨w7.heap.size, 1, none⟩ = some (.slice tp tn tc) := by rw [Lib.cell_of_heap hkp0]; rfl
              have HKP0 := Lib.hid hkp0
              have HBP0 := Lib.hid hbp0
              have hsp0 := hbp0.size
              have hltp0 : w7.heap.size < wp0.heap.size := lt_of_heap hkp0
              have u2p0 := (HBP0.out.cell (p := ⟨b1, o1 + q1 * 5 + 2, none⟩) hb1).trans HU.out.1
              have u3p0 := (HBP0.out.cell (p := ⟨b1, o1 + q1 * 5 + 3, none⟩) hb1).trans HU.out.2.1
              have u4p0 := (HBP0.out.cell (p := ⟨b1, o1 + q1 * 5 + 4, none⟩) hb1).trans HU.out.2.2.1
              have x2p0 := (HBP0.out.cell (p := ⟨b2, o2 + q2 * 5 + 2, none⟩) hb2).trans HU.out.2.2.2.1
              have x3p0 := (HBP0.out.cell (p := ⟨b2, o2 + q2 * 5 + 3, none⟩) hb2).trans HU.out.2.2.2.2.1
              have x4p0 := (HBP0.out.cell (p := ⟨b2, o2 + q2 * 5 + 4, none⟩) hb2).trans HU.out.2.2.2.2.2
              have hb1p0 : b1 < wp0.heap.size := by omega
              have hb2p0 : b2 < wp0.heap.size := by omega
              clear hop0 hgp0 hbp0 hkp0
              have HHA := Lib.hid (has_is pt ts ⟨tj, tp, tn, tc, tl⟩ M ct true (by rw [HVK.out, HVT.out]; simp [hin]) wp0 HM.out (HT6.out.pos.1.below HBP0.out (Nat.le_refl _)) HOTP0.out.at HFT.out HTN.out.1 HTN.out.2 (by omega))
              go_wp2_with (go_at_call 31; refine HHA.out.mono ?_)
              first | rintro e wh rfl hbh | rintro e wh ⟨rfl, hbh⟩
              have HBH : Hid (Below w6.heap.size w6 wh) := below_next HBP0.out hbh
              have hkh := below_kept hbh HKP0.out (lt_of_heap HKP0.out)
              have ch0 : wh.cell? ⟨w7.heap.size, 0, none⟩ = some (.string tj) := by rw [Lib.cell_of_heap hkh]; rfl
              have ch1 : wh.cell? ⟨w7.heap.size, 1, none⟩ = some (.slice tp tn tc) := by rw [Lib.cell_of_heap hkh]; rfl
              have HMOH := Lib.hid (HMP0.out.below hbh (Nat.le_refl _))
              have HOTH : Hid (OwnT w6.heap.size ⟨tj, tp, tn, tc, tl⟩ wh) := HOTP0.out.below hbh (Nat.le_refl _)
              have HKH := Lib.hid hkh
              have hsh := HBH.out.size
              have hlth : w7.heap.size < wh.heap.size := lt_of_heap hkh
              have u2h := (HBH.out.cell (p := ⟨b1, o1 + q1 * 5 + 2, none⟩) hb1).trans HU.out.1
              have u3h := (HBH.out.cell (p := ⟨b1, o1 + q1 * 5 + 3, none⟩) hb1).trans HU.out.2.1
              have u4h := (HBH.out.cell (p := ⟨b1, o1 + q1 * 5 + 4, none⟩) hb1).trans HU.out.2.2.1
              have x2h := (HBH.out.cell (p := ⟨b2, o2 + q2 * 5 + 2, none⟩) hb2).trans HU.out.2.2.2.1
              have x3h := (HBH.out.cell (p := ⟨b2, o2 + q2 * 5 + 3, none⟩) hb2).trans HU.out.2.2.2.2.1
              have x4h := (HBH.out.cell (p := ⟨b2, o2 + q2 * 5 + 4, none⟩) hb2).trans HU.out.2.2.2.2.2
              have hb1h : b1 < wh.heap.size := by omega
              have hb2h : b2 < wh.heap.size := by omega
              clear hbh hkh HHA
              go_wp2_with (at_builtin; refine wpList_pushRec mvOk 50 Try.underlying50 rfl _ _ rfl w6.heap.size _ (ms ++ [(⟨2, ⟨tj, tp, tn, tc, tl⟩⟩ : Mv)]) wh rfl (by exact HMOH.out.1) ⟨3, ⟨tj, tp, tn, tc, tl⟩⟩ _ _ rfl _ rfl rfl ?_ ?_ ?_)
              · simp only [List.length_append, List.length_cons, List.length_nil]; omega
              · exact hsh
              intro vp1 wp1 hop1 hgp1
              have HMP1 : Hid (Po.OwnM w6.heap.size vp1 ((ms ++ [(⟨2, ⟨tj, tp, tn, tc, tl⟩⟩ : Mv)]) ++ [⟨3, ⟨tj, tp, tn, tc, tl⟩⟩]) wp1) := HMOH.out.push ⟨3, ⟨tj, tp, tn, tc, tl⟩⟩ HOTH.out (by first | exact hop1 | (rw [List.append_assoc]; exact hop1)) _ hgp1
              have hbp1 : Below w6.heap.size w6 wp1 := (HBH.out.alloc hsh _).grown hgp1 (by simp; omega) (fun j hj => (World.ownsRow.lt HMOH.out.1 j hj).1)
              have hkp1 : wp1.heap[w7.heap.size]? = some (.cells #[.string tj, .slice tp tn tc] 29) := OwnR.grown_block (HMOH.out.1.alloc _) hgp1 (alloc_kept HKH.out) (by decide)
              have HOTP1 : Hid (OwnT w6.heap.size ⟨tj, tp, tn, tc, tl⟩ wp1) := HMP1.out.2 ⟨3, ⟨tj, tp, tn, tc, tl⟩⟩ (List.mem_append_right _ (List.mem_singleton.2 rfl))
              obtain ⟨pp1, cp1, hvp1, _⟩ := hop1.shape
              rw [List.length_append] at hvp1
              replace hvp1 : vp1 = .slice pp1 (ms.length + 1 + 1) cp1 := hvp1.trans (by first | rfl | (rw [List.length_append]; rfl))
              subst hvp1
              have cp10 : wp1.cell? ⟨w7.heap.size, 0, none⟩ = some (.string tj) := by rw [Lib.cell_of_heap hkp1]; rfl
              have cp11 : wp1.cell? ⟨w7.heap.size, 1, none⟩ = some (.slice tp tn tc) := by rw [Lib.cell_of_heap hkp1]; rfl
              have HKP1 := Lib.hid hkp1
              have HBP1 := Lib.hid hbp1
              have hsp1 := hbp1.size
              have hltp1 : w7.heap.size < wp1.heap.size := lt_of_heap hkp1
              have u2p1 := (HBP1.out.cell (p := ⟨b1, o1 + q1 * 5 + 2, none⟩) hb1).trans HU.out.1
              have u3p1 := (HBP1.out.cell (p := ⟨b1, o1 + q1 * 5 + 3, none⟩) hb1).trans HU.out.2.1
              have u4p1 := (HBP1.out.cell (p := ⟨b1, o1 + q1 * 5 + 4, none⟩) hb1).trans HU.out.2.2.1
              have x2p1 := (HBP1.out.cell (p := ⟨b2, o2 + q2 * 5 + 2, none⟩) hb2).trans HU.out.2.2.2.1
              have x3p1 := (HBP1.out.cell (p := ⟨b2, o2 + q2 * 5 + 3, none⟩) hb2).trans HU.out.2.2.2.2.1
              have x4p1 := (HBP1.out.cell (p := ⟨b2, o2 + q2 * 5 + 4, none⟩) hb2).trans HU.out.2.2.2.2.2
              have hb1p1 : b1 < wp1.heap.size := by omega
              have hb2p1 : b2 < wp1.heap.size := by omega
              clear hop1 hgp1 hbp1 hkp1
              go_wp2_with fail
              go_quiet (fail)
              go_wp2_with fail
              go_roundw
              case rel => exact ⟨k + 1, ((ms ++ [(⟨2, ⟨tj, tp, tn, tc, tl⟩⟩ : Mv)]) ++ [(⟨3, ⟨tj, tp, tn, tc, tl⟩⟩ : Mv)]), by omega, by go_num, HMP1.out.below (below_drewN (Below.refl _ _) _) (Nat.le_refl _), (by show _ = _; rw [HMS.out, HOM.out, ← HMV.out]; simp only [List.map_append, List.map_cons, List.map_nil, List.append_assoc, List.cons_append, List.nil_append]; try (rw [← HVK.out]; rfl)), below_drewN HBP1.out _⟩
              case measure => simp [intOf]; omega
      · cases hfa : f k with
        | none =>
          have hgk : g k = none := by
            rw [← HG.out]
            unfold Po.fS Po.tT
            rw [hfa, if_neg hin]
            rfl
          have hom : Po.oM ev ti (f k) (Po.tT TT k) = [] := by
            unfold Po.tT
            rw [hfa, if_neg hin]
            rfl
          have h1 := Po.rows_none HGF.out k hlt hfa
          rw [HFI.out] at h1
          simp only [Prod.mk.injEq] at h1
          obtain ⟨rfl, rfl⟩ := h1
          have h2 := Po.rows_none HGG.out k hlt hgk
          rw [HFK.out] at h2
          simp only [Prod.mk.injEq] at h2
          obtain ⟨rfl, rfl⟩ := h2
          have HOM := Lib.hid hom
          clear hom hgk
          go_wp2_with fail
          go_quiet (fail)
          go_wp2_with fail
          go_roundw
          case rel => exact ⟨k + 1, ms, by omega, by go_num, HMO9.out.below (below_drewN (Below.refl _ _) _) (Nat.le_refl _), (by show _ = _; rw [HMS.out, HOM.out, ← HMV.out]; simp only [List.append_nil]; try (rw [← HVK.out]; rfl)), below_drewN HB12.out _⟩
          case measure => simp [intOf]; omega
        | some a =>
          obtain ⟨aj, al, aev, ati, aen⟩ := a
          cases aen with
          | true =>
            have hgk : g k = some (aj, al, aev, ati, true) := by
              rw [← HG.out]
              unfold Po.fS Po.tT
              rw [hfa, if_neg hin]
              show some (aj, al, aev, ati, if _ then false else true) = _
              rw [if_neg (fun hh => by cases hh.2.2.1)]
            have hom : Po.oM ev ti (f k) (Po.tT TT k) = [] := by
              unfold Po.tT
              rw [hfa, if_neg hin]
              have htk : (aj, al) = Po.tgt k := HGF.out k _ hlt hfa
              try rw [← htk]
              show (if _ then [] else _) = _
              rw [if_neg (fun hh => by cases hh.2.2.1)]
              rfl
            obtain ⟨q1, h1, hq1, e1⟩ := Po.rows_some HGF.out k hlt _ hfa
            rw [HFI.out] at h1
            simp only [Prod.mk.injEq] at h1
            obtain ⟨rfl, rfl⟩ := h1
            obtain ⟨b1, o1, rfl, hb1, u2, u3, u4⟩ := HO6.out.at.1.cell35 HV.out hq1
            rw [e1] at u2 u3 u4
            have m1 : (0 : Int) ≤ (q1 : Int) := by omega
            have m2 : (q1 : Int) < (N : Int) := by have := HN.out; have h3 := congrArg List.length HV.out; rw [List.length_map] at h3; omega
            obtain ⟨q2, h2, hq2, e2⟩ := Po.rows_some HGG.out k hlt _ hgk
            rw [HFK.out] at h2
            simp only [Prod.mk.injEq] at h2
            obtain ⟨rfl, rfl⟩ := h2
            obtain ⟨b2, o2, rfl, hb2, x2, x3, x4⟩ := HOS.out.at.1.cell35 HS2.out hq2
            rw [e2] at x2 x3 x4
            dsimp only at u2 u3 u4 x2 x3 x4
            have m3 : (0 : Int) ≤ (q2 : Int) := by omega
            have m4 : (q2 : Int) < (N2 : Int) := by have := HN2.out; have h3 := congrArg List.length HS2.out; rw [List.length_map] at h3; omega
            have HU := Lib.hid (show _ ∧ _ ∧ _ ∧ _ ∧ _ ∧ _ from ⟨u2, u3, u4, x2, x3, x4⟩)
            have HU := Lib.hid (show _ ∧ _ ∧ _ ∧ _ ∧ _ ∧ _ from ⟨u2, u3, u4, x2, x3, x4⟩)
            clear u2 u3 u4 x2 x3 x4
            have qe : (aev != aev) = false := by simp
            have qt : (ati != ati) = false := by simp
            have HOM := Lib.hid hom
            clear hom hgk
            have u2a := (HB12.out.cell (p := ⟨b1, o1 + q1 * 5 + 2, none⟩) hb1).trans HU.out.1
            have u3a := (HB12.out.cell (p := ⟨b1, o1 + q1 * 5 + 3, none⟩) hb1).trans HU.out.2.1
            have u4a := (HB12.out.cell (p := ⟨b1, o1 + q1 * 5 + 4, none⟩) hb1).trans HU.out.2.2.1
            have x2a := (HB12.out.cell (p := ⟨b2, o2 + q2 * 5 + 2, none⟩) hb2).trans HU.out.2.2.2.1
            have x3a := (HB12.out.cell (p := ⟨b2, o2 + q2 * 5 + 3, none⟩) hb2).trans HU.out.2.2.2.2.1
            have x4a := (HB12.out.cell (p := ⟨b2, o2 + q2 * 5 + 4, none⟩) hb2).trans HU.out.2.2.2.2.2
            have hb1a : b1 < w9.heap.size := by omega
            have hb2a : b2 < w9.heap.size := by omega
            have HHA := Lib.hid (has_is pt ts ⟨tj, tp, tn, tc, tl⟩ M ct false (by rw [HVK.out, HVT.out]; simp [hin]) w9 HM.out (HT6.out.pos.1.below HB12.out (Nat.le_refl _)) HOT9.out.at HFT.out HTN.out.1 HTN.out.2 (by omega))
            go_wp2_with (go_at_call 31; refine HHA.out.mono ?_)
            first | rintro e wh rfl hbh | rintro e wh ⟨rfl, hbh⟩
            have HBH : Hid (Below w6.heap.size w6 wh) := below_next HB12.out hbh
            have hkh := below_kept hbh HK9.out (lt_of_heap HK9.out)
            have ch0 : wh.cell? ⟨w7.heap.size, 0, none⟩ = some (.string tj) := by rw [Lib.cell_of_heap hkh]; rfl
            have ch1 : wh.cell? ⟨w7.heap.size, 1, none⟩ = some (.slice tp tn tc) := by rw [Lib.cell_of_heap hkh]; rfl
            have HMOH := Lib.hid (HMO9.out.below hbh (Nat.le_refl _))
            have HOTH : Hid (OwnT w6.heap.size ⟨tj, tp, tn, tc, tl⟩ wh) := HOT9.out.below hbh (Nat.le_refl _)
            have HKH := Lib.hid hkh
            have hsh := HBH.out.size
            have hlth : w7.heap.size < wh.heap.size := lt_of_heap hkh
            have u2h := (HBH.out.cell (p := ⟨b1, o1 + q1 * 5 + 2, none⟩) hb1).trans HU.out.1
            have u3h := (HBH.out.cell (p := ⟨b1, o1 + q1 * 5 + 3, none⟩) hb1).trans HU.out.2.1
            have u4h := (HBH.out.cell (p := ⟨b1, o1 + q1 * 5 + 4, none⟩) hb1).trans HU.out.2.2.1
            have x2h := (HBH.out.cell (p := ⟨b2, o2 + q2 * 5 + 2, none⟩) hb2).trans HU.out.2.2.2.1
            have x3h := (HBH.out.cell (p := ⟨b2, o2 + q2 * 5 + 3, none⟩) hb2).trans HU.out.2.2.2.2.1
            have x4h := (HBH.out.cell (p := ⟨b2, o2 + q2 * 5 + 4, none⟩) hb2).trans HU.out.2.2.2.2.2
            have hb1h : b1 < wh.heap.size := by omega
            have hb2h : b2 < wh.heap.size := by omega
            clear hbh hkh HHA
            go_wp2_with fail
            go_quiet (fail)
            go_wp2_with fail
            go_roundw
            case rel => exact ⟨k + 1, ms, by omega, by go_num, HMOH.out.below (below_drewN (Below.refl _ _) _) (Nat.le_refl _), (by show _ = _; rw [HMS.out, HOM.out, ← HMV.out]; simp only [List.append_nil]; try (rw [← HVK.out]; rfl)), below_drewN HBH.out _⟩
            case measure => simp [intOf]; omega
          | false =>
            have hgk : g k = some (aj, al, aev, ati, true) := by
              rw [← HG.out]
              unfold Po.fS Po.tT
              rw [hfa, if_neg hin]
              show some (aj, al, aev, ati, if _ then false else true) = _
              rw [if_neg (fun hh => by cases hh.2.2.2)]
            have hom : Po.oM ev ti (f k) (Po.tT TT k) = [(2, Po.tgt k)] := by
              unfold Po.tT
              rw [hfa, if_neg hin]
              have htk : (aj, al) = Po.tgt k := HGF.out k _ hlt hfa
              try rw [← htk]
              show (if _ then [] else _) = _
              rw [if_neg (fun hh => by cases hh.2.2.2)]
              rfl
            obtain ⟨q1, h1, hq1, e1⟩ := Po.rows_some HGF.out k hlt _ hfa
            rw [HFI.out] at h1
            simp only [Prod.mk.injEq] at h1
            obtain ⟨rfl, rfl⟩ := h1
            obtain ⟨b1, o1, rfl, hb1, u2, u3, u4⟩ := HO6.out.at.1.cell35 HV.out hq1
            rw [e1] at u2 u3 u4
            have m1 : (0 : Int) ≤ (q1 : Int) := by omega
            have m2 : (q1 : Int) < (N : Int) := by have := HN.out; have h3 := congrArg List.length HV.out; rw [List.length_map] at h3; omega
            obtain ⟨q2, h2, hq2, e2⟩ := Po.rows_some HGG.out k hlt _ hgk
            rw [HFK.out] at h2
            simp only [Prod.mk.injEq] at h2
            obtain ⟨rfl, rfl⟩ := h2
            obtain ⟨b2, o2, rfl, hb2, x2, x3, x4⟩ := HOS.out.at.1.cell35 HS2.out hq2
            rw [e2] at x2 x3 x4
            dsimp only at u2 u3 u4 x2 x3 x4
            have m3 : (0 : Int) ≤ (q2 : Int) := by omega
            have m4 : (q2 : Int) < (N2 : Int) := by have := HN2.out; have h3 := congrArg List.length HS2.out; rw [List.length_map] at h3; omega
            have HU := Lib.hid (show _ ∧ _ ∧ _ ∧ _ ∧ _ ∧ _ from ⟨u2, u3, u4, x2, x3, x4⟩)
            have HU := Lib.hid (show _ ∧ _ ∧ _ ∧ _ ∧ _ ∧ _ from ⟨u2, u3, u4, x2, x3, x4⟩)
            clear u2 u3 u4 x2 x3 x4
            have qe : (aev != aev) = false := by simp
            have qt : (ati != ati) = false := by simp
            have HOM := Lib.hid hom
            clear hom hgk
            have u2a := (HB12.out.cell (p := ⟨b1, o1 + q1 * 5 + 2, none⟩) hb1).trans HU.out.1
            have u3a := (HB12.out.cell (p := ⟨b1, o1 + q1 * 5 + 3, none⟩) hb1).trans HU.out.2.1
            have u4a := (HB12.out.cell (p := ⟨b1, o1 + q1 * 5 + 4, none⟩) hb1).trans HU.out.2.2.1
            have x2a := (HB12.out.cell (p := ⟨b2, o2 + q2 * 5 + 2, none⟩) hb2).trans HU.out.2.2.2.1
            have x3a := (HB12.out.cell (p := ⟨b2, o2 + q2 * 5 + 3, none⟩) hb2).trans HU.out.2.2.2.2.1
            have x4a := (HB12.out.cell (p := ⟨b2, o2 + q2 * 5 + 4, none⟩) hb2).trans HU.out.2.2.2.2.2
            have hb1a : b1 < w9.heap.size := by omega
            have hb2a : b2 < w9.heap.size := by omega
            go_wp2_with (at_builtin; refine wpList_pushRec mvOk 50 Try.underlying50 rfl _ _ rfl w6.heap.size _ ms w9 rfl (by exact HMO9.out.1) ⟨2, ⟨tj, tp, tn, tc, tl⟩⟩ _ _ rfl _ rfl rfl ?_ ?_ ?_)
            · omega
            · exact hs9
            intro vp0 wp0 hop0 hgp0
            have HMP0 : Hid (Po.OwnM w6.heap.size vp0 (ms ++ [⟨2, ⟨tj, tp, tn, tc, tl⟩⟩]) wp0) := HMO9.out.push ⟨2, ⟨tj, tp, tn, tc, tl⟩⟩ HOT9.out (by first | exact hop0 | (rw [List.append_assoc]; exact hop0)) _ hgp0
            have hbp0 : Below w6.heap.size w6 wp0 := (HB12.out.alloc hs9 _).grown hgp0 (by simp; omega) (fun j hj => (World.ownsRow.lt HMO9.out.1 j hj).1)
            have hkp0 : wp0.heap[w7.heap.size]? = some (.cells #[.string tj, .slice tp tn tc] 29) := OwnR.grown_block (HMO9.out.1.alloc _) hgp0 (alloc_kept HK9.out) (by decide)
            have HOTP0 : Hid (OwnT w6.heap.size ⟨tj, tp, tn, tc, tl⟩ wp0) := HMP0.out.2 ⟨2, ⟨tj, tp, tn, tc, tl⟩⟩ (List.mem_append_right _ (List.mem_singleton.2 rfl))
            obtain ⟨pp0, cp0, hvp0, _⟩ := hop0.shape
            rw [List.length_append] at hvp0
            replace hvp0 : vp0 = .slice pp0 (ms.length + 1) cp0 := hvp0
            subst hvp0
            have cp00 : wp0.cell? ⟨w7.heap.size, 0, none⟩ = some (.string tj) := by rw [Lib.cell_of_heap hkp0]; rfl
            have cp01 : wp0.cell? ⟨w7.heap.size, 1, none⟩ = some (.slice tp tn tc) := by rw [Lib.cell_of_heap hkp0]; rfl
            have HKP0 := Lib.hid hkp0
            have HBP0 := Lib.hid hbp0
            have hsp0 := hbp0.size
            have hltp0 : w7.heap.size < wp0.heap.size := lt_of_heap hkp0
            have u2p0 := (HBP0.out.cell (p := ⟨b1, o1 + q1 * 5 + 2, none⟩) hb1).trans HU.out.1
            have u3p0 := (HBP0.out.cell (p := ⟨b1, o1 + q1 * 5 + 3, none⟩) hb1).trans HU.out.2.1
            have u4p0 := (HBP0.out.cell (p := ⟨b1, o1 + q1 * 5 + 4, none⟩) hb1).trans HU.out.2.2.1
            have x2p0 := (HBP0.out.cell (p := ⟨b2, o2 + q2 * 5 + 2, none⟩) hb2).trans HU.out.2.2.2.1
            have x3p0 := (HBP0.out.cell (p := ⟨b2, o2 + q2 * 5 + 3, none⟩) hb2).trans HU.out.2.2.2.2.1
            have x4p0 := (HBP0.out.cell (p := ⟨b2, o2 + q2 * 5 + 4, none⟩) hb2).trans HU.out.2.2.2.2.2
            have hb1p0 : b1 < wp0.heap.size := by omega
            have hb2p0 : b2 < wp0.heap.size := by omega
            clear hop0 hgp0 hbp0 hkp0
            have HHA := Lib.hid (has_is pt ts ⟨tj, tp, tn, tc, tl⟩ M ct false (by rw [HVK.out, HVT.out]; simp [hin]) wp0 HM.out (HT6.out.pos.1.below HBP0.out (Nat.le_refl _)) HOTP0.out.at HFT.out HTN.out.1 HTN.out.2 (by omega))
            go_wp2_with (go_at_call 31; refine HHA.out.mono ?_)
            first | rintro e wh rfl hbh | rintro e wh ⟨rfl, hbh⟩
            have HBH : Hid (Below w6.heap.size w6 wh) := below_next HBP0.out hbh
            have hkh := below_kept hbh HKP0.out (lt_of_heap HKP0.out)
            have ch0 : wh.cell? ⟨w7.heap.size, 0, none⟩ = some (.string tj) := by rw [Lib.cell_of_heap hkh]; rfl
            have ch1 : wh.cell? ⟨w7.heap.size, 1, none⟩ = some (.slice tp tn tc) := by rw [Lib.cell_of_heap hkh]; rfl
            have HMOH := Lib.hid (HMP0.out.below hbh (Nat.le_refl _))
            have HOTH : Hid (OwnT w6.heap.size ⟨tj, tp, tn, tc, tl⟩ wh) := HOTP0.out.below hbh (Nat.le_refl _)
            have HKH := Lib.hid hkh
            have hsh := HBH.out.size
            have hlth : w7.heap.size < wh.heap.size := lt_of_heap hkh
            have u2h := (HBH.out.cell (p := ⟨b1, o1 + q1 * 5 + 2, none⟩) hb1).trans HU.out.1
            have u3h := (HBH.out.cell (p := ⟨b1, o1 + q1 * 5 + 3, none⟩) hb1).trans HU.out.2.1
            have u4h := (HBH.out.cell (p := ⟨b1, o1 + q1 * 5 + 4, none⟩) hb1).trans HU.out.2.2.1
            have x2h := (HBH.out.cell (p := ⟨b2, o2 + q2 * 5 + 2, none⟩) hb2).trans HU.out.2.2.2.1
            have x3h := (HBH.out.cell (p := ⟨b2, o2 + q2 * 5 + 3, none⟩) hb2).trans HU.out.2.2.2.2.1
            have x4h := (HBH.out.cell (p := ⟨b2, o2 + q2 * 5 + 4, none⟩) hb2).trans HU.out.2.2.2.2.2
            have hb1h : b1 < wh.heap.size := by omega
            have hb2h : b2 < wh.heap.size := by omega
            clear hbh hkh HHA
            go_wp2_with fail
            go_quiet (fail)
            go_wp2_with fail
            go_roundw
            case rel => exact ⟨k + 1, (ms ++ [(⟨2, ⟨tj, tp, tn, tc, tl⟩⟩ : Mv)]), by omega, by go_num, HMOH.out.below (below_drewN (Below.refl _ _) _) (Nat.le_refl _), (by show _ = _; rw [HMS.out, HOM.out, ← HMV.out]; simp only [List.map_append, List.map_cons, List.map_nil]; try (rw [← HVK.out]; rfl)), below_drewN HBH.out _⟩
            case measure => simp [intOf]; omega
    · have n3 : (26 : Int) ≤ (k : Int) := by omega
      obtain rfl : k = 26 := by omega
      have HMD2 := Lib.hid (moved_is pM p14 m2 ms M2 ms.length cM c14 (by rw [HM2.out]; exact HMV.out.symm) wj HLM2.out rfl (HR.out.mat.1.below HBJ.out (Nat.le_refl _)) HMO.out.at.1 (fun m hm => Po.okU.n (HR.out.tm m hm) (Awk.okM HM2.out (Po.mvs_okU HGF.out TT ev ti) m hm)) (fun m hm => (HMO.out.2 m hm).1) (by have h3 := congrArg List.length HM2.out; rw [List.length_map] at h3; have := HLM2.out; have := Po.mvs_len f TT ev ti 26; omega))
      go_wp2_with (go_at_call 33; refine HMD2.out.mono ?_)
      first | rintro e w8 rfl hb11 | rintro e w8 ⟨rfl, hb11⟩
      have hbz : Below w.heap.size w w8 := below_next (HB7.out.trans (HBJ.out.mono HB7.out.size)) hb11
      clear hb11
      go_wp2_with fail
      go_ret
      exact ⟨rfl, hbz⟩
end Go.Proofs.Ytpnpgjjbincigaa
