/- The walk of PoolOrder: the law returns true. (Printed by gen_pord.py.) -/
import Derived.Test.YtpnpgjjbincigaaCct
import Derived.Test.YtpnpgjjbincigaaPMov
import Derived.Deep.RegionHeld3
namespace Go.Proofs.Ytpnpgjjbincigaa
open Go.RowKit
set_option linter.unusedVariables false

/-- a sync looks at what is wanted, not at its order -/
theorem Po.sync_same {f : Nat → Option Po.V} (hf : Po.Good f) (hok : Po.okVs (Po.rowsOf f 26) = true) {T T' : List Po.U} (hT : Po.Small T) (h : ∀ u, u ∈ T' ↔ u ∈ T) (ev ti : Int) (hn : Po.num ev ti = true) :
    Po.sync (Po.rowsOf f 26) T' ev ti = Po.sync (Po.rowsOf f 26) T ev ti := by
  have hT' : Po.Small T' := fun t ht => hT t ((h t).1 ht)
  have e : Po.tT T' = Po.tT T := funext fun n => by
    unfold Po.tT
    simp only [h]
  have e2 : Po.fS f T' ev ti = Po.fS f T ev ti := funext fun n => by
    unfold Po.fS
    rw [e]
  rw [Po.rows_sync hf hok hT' ev ti hn, Po.rows_sync hf hok hT ev ti hn, e2, e]
/-- a part of a row of targets -/
theorem Po.TgAt.part {g a : Nat} {ts : List Can.T} {w : World} (h : Can.TAt g a ts w) (hg : g < w.heap.size) (k m : Nat) : Po.TgAt (some ⟨g, a + k * 2, none⟩) ((ts.drop k).take m) w := by
  refine .inr ⟨g, a + k * 2, rfl, hg, fun i hi => ?_⟩
  rw [List.length_take, List.length_drop] at hi
  have hk : k + i < ts.length := by omega
  obtain ⟨h1, h2, h3⟩ := h (k + i) hk
  rw [List.getElem_take, List.getElem_drop]
  rw [show a + k * 2 + i * 2 = a + (k + i) * 2 by omega]
  exact ⟨h1, h2, h3⟩

set_option maxHeartbeats 6400000 in
set_option maxRecDepth 100000 in
theorem walk_PoolOrder (a0 : Option Addr) (xs0 : List Sm5) (len0 cap0 : Nat) (a1 : Option Addr) (xs1 : List UInt8) (len1 cap1 : Nat) (n2 n3 : Int) (w : World) (hlen0 : xs0.length = len0) (hAt0 : Po.SmAt a0 xs0 w) (hlc0 : len0 ≤ cap0) (hmax0 : cap0 ≤ maxLen) (hlen1 : xs1.length = len1) (hAt1 : Po.U8At a1 xs1 w) (hlc1 : len1 ≤ cap1) (hmax1 : cap1 ≤ maxLen) (wn2 : (Lit.int .u8 n2).wf = true) (wn3 : (Lit.int .u8 n3).wf = true) :
    Calls Try.prog 11 #[.slice a0 len0 cap0, .slice a1 len1 cap1, .int .u8 n2, .int .u8 n3] w fun e w' => e = .returned (.bool true) ∧ Below w.heap.size w w' := by
  obtain ⟨y, hy, rfl⟩ := row.wf_u8 wn2
  obtain ⟨z, hz, rfl⟩ := row.wf_u8 wn3
  obtain ⟨⟨ev, ti⟩, hpl⟩ : ∃ x, Po.pl y = x := ⟨_, rfl⟩
  have HAW := Lib.hid (fun w => awake_is w)
  have HMD := Lib.hid (fun w hA => made_is5 a0 xs0 len0 cap0 w hlen0 hlc0 hA (by omega))
  have HWD := Lib.hid (fun w hA => wanted_is a1 xs1 len1 cap1 w hlen1 hlc1 hA (by omega))
  have HPLN := Lib.hid (fun w => plans_is y (y : Int) rfl hy ev ti hpl w)
  have HA0 := Lib.hid hAt0
  have HA1 := Lib.hid hAt1
  have HNUM : Hid (Po.num ev ti = true) := by have := Po.pl_num y; rw [hpl] at this; exact this
  obtain ⟨f, hf⟩ : ∃ f, Po.fmade xs0 = f := ⟨_, rfl⟩
  obtain ⟨TT, hTT⟩ : ∃ TT, Po.want xs1 = TT := ⟨_, rfl⟩
  have HGF : Hid (Po.Good f) := by show Po.Good f; rw [← hf]; exact Po.fmade_good xs0
  have HTS : Hid (Po.Small TT) := by show Po.Small TT; rw [← hTT]; exact Po.want_small xs1
  have HOK : Hid (Po.okVs (Po.rowsOf f 26) = true) := by show _ = _; rw [← hf]; exact Po.made_ok xs0
  have hmr : Po.made xs0 26 = Po.rowsOf f 26 := by rw [← hf]; rfl
  have HWLEN : Hid (TT.length ≤ 30) := by show _ ≤ _; rw [← hTT]; unfold Po.want; rw [List.length_map, List.length_take]; omega
  rw [hmr] at HMD
  rw [hTT] at HWD
  clear hf hTT hmr hAt0 hAt1 hlen0 hlen1 hlc0 hlc1 hmax0 hmax1 wn2 wn3 hpl hy
  go_enter Try.func11, Try.ntmps11
  go_wp2_with (go_at_call 13; refine (HAW.out _).mono ?_)
  first | rintro e w1 rfl hb1 | rintro e w1 ⟨rfl, hb1⟩
  go_wp2_with (go_at_call 17; refine (HMD.out _ (HA0.out.below hb1 (Nat.le_refl _))).mono ?_)
  first | rintro e w2 v ss rfl hO hv hb2 | rintro e w2 ⟨⟨v, ss, rfl, hO, hv⟩, hb2⟩
  have hb3 := below_next hb1 hb2
  obtain ⟨pv, cv, rfl, hcv1, hcv2⟩ := hO.form
  obtain ⟨N, hN⟩ : ∃ N, ss.length = N := ⟨_, rfl⟩
  rw [hN] at hO hcv1 ⊢
  have HO2 := Lib.hid (hO.lift hb1.size)
  have HV := Lib.hid hv
  have hN26 : N ≤ 26 := by rw [← hN, ← List.length_map (f := Sl.view), hv]; exact Po.rows_len _ _
  have HN := Lib.hid hN
  have HB3 := Lib.hid hb3
  clear hO hv hN hb1 hb2 HMD HAW HA0
  go_wp2_with (go_at_call 26; refine (HWD.out _ (HA1.out.below hb3 (Nat.le_refl _))).mono ?_)
  first | rintro e w4 v1 ts rfl hT hvt hb4 | rintro e w4 ⟨⟨v1, ts, rfl, hT, hvt⟩, hb4⟩
  obtain ⟨pt, ct, rfl⟩ := hT.form
  obtain ⟨M, hM⟩ : ∃ M, ts.length = M := ⟨_, rfl⟩
  rw [hM] at hT ⊢
  have hb5 := below_next hb3 hb4
  have HT4 := Lib.hid (hT.lift hb3.size)
  have HVT := Lib.hid hvt
  have HM := Lib.hid hM
  have hM30 : M ≤ 30 := by
    rw [← hM, ← List.length_map (f := Po.tv), hvt]
    exact HWLEN.out
  clear hT hvt hM hb3 HWD HA1
  have HB5 := Lib.hid hb5
  have HO4 : Hid (Po.Own w.heap.size (.slice pv N cv) ss w4) := HO2.out.below hb4 (Nat.le_refl _)
  clear hb4 HO2
  go_wp2_with (go_at_call 27; refine (HPLN.out _).mono ?_)
  first | rintro e w5 rfl hb6 | rintro e w5 ⟨rfl, hb6⟩
  have HB6 := Lib.hid (below_next hb5 hb6)
  have HO5 : Hid (Po.Own w.heap.size (.slice pv N cv) ss w5) := HO4.out.below hb6 (Nat.le_refl _)
  have HT5 : Hid (OwnTs w.heap.size (.slice pt M ct) ts w5) := HT4.out.below hb6 (Nat.le_refl _)
  have r1 : IntKind.i64.wrap (z : Int) = (z : Int) := by rw [IntKind.wrap_i64]; omega
  have r3 : IntKind.i64.wrap ((M : Int) + 1) = (M : Int) + 1 := by rw [IntKind.wrap_i64]; omega
  have key : ∀ N : Nat, Int.tmod (z : Int) (N : Int) = ((z % N : Nat) : Int) := fun N => by rw [Int.tmod_eq_emod_of_nonneg (by omega)]; omega
  have r2 : Int.tmod (z : Int) ((M : Int) + 1) = ((z % (M + 1) : Nat) : Int) := by have h9 := key (M + 1); rwa [show ((M + 1 : Nat) : Int) = (M : Int) + 1 by omega] at h9
  clear key
  obtain ⟨k, hk⟩ : ∃ k, z % (M + 1) = k := ⟨_, rfl⟩
  have hkM : k ≤ M := by have h9 := Nat.mod_lt z (show 0 < M + 1 by omega); rw [hk] at h9; exact Nat.lt_succ_iff.1 h9
  rw [hk] at r2
  clear hk hz
  have HUS := Lib.hid (Po.rows_okU HGF.out)
  have HUT := Lib.hid (Po.small_okU HTS.out)
  have HSY := Lib.hid (sync_is pv pt ss ts N cv M ct ev ti 0 _ _ (by rw [HV.out, HVT.out]; exact Po.rows_sync HGF.out HOK.out HTS.out ev ti HNUM.out) w5 HN.out HM.out HO5.out.at.1 HT5.out.pos.1 (HO5.out.any HV.out HUS.out) (fun t ht => Po.okU.any ⟨(HT5.out.2 t ht).1, (HT5.out.2 t ht).2⟩ (Awk.okT HVT.out HUT.out t ht)) (by omega) (by omega))
  clear hb5 hb6 HO4 HT4 HPLN
  go_wp2_with (go_at_call 25; refine HSY.out.mono ?_)
  first | rintro e w6 v1 v2 s2 m2 rfl hR hs hm hb7 | rintro e w6 v1 v2 rfl s2 m2 hR hs hm hb7 | rintro e w6 ⟨⟨v1, v2, s2, m2, rfl, hR, hs, hm⟩, hb7⟩
  obtain ⟨⟨pS, cS, rfl, hcS, hcS2⟩, pM, cM, rfl, hcM, hcM2⟩ := hR.form
  obtain ⟨N2, hN2⟩ : ∃ N2, s2.length = N2 := ⟨_, rfl⟩
  obtain ⟨M2, hM2⟩ : ∃ M2, m2.length = M2 := ⟨_, rfl⟩
  rw [hN2, hM2] at hR
  rw [hN2] at hcS ⊢
  rw [hM2] at hcM ⊢
  obtain ⟨g, hg⟩ : ∃ g, Po.fS f TT ev ti = g := ⟨_, rfl⟩
  rw [hg] at hs
  have HGG : Hid (Po.Good g) := by show Po.Good g; rw [← hg]; exact Po.fS_good HGF.out TT ev ti
  have HG := Lib.hid hg
  have hN226 : N2 ≤ 26 := by rw [← hN2, ← List.length_map (f := Sl.view), hs]; exact Po.rows_len _ _
  have HB7 := Lib.hid (below_next HB6.out hb7)
  have HR := Lib.hid hR
  have HS2 := Lib.hid hs
  have HM2 : Hid (m2.map Mv.view = Po.mvs f TT ev ti 26) := hm
  have HN2 := Lib.hid hN2
  have HLM2 := Lib.hid hM2
  have HO6 : Hid (Po.Own w.heap.size (.slice pv N cv) ss w6) := HO5.out.below hb7 (Nat.le_refl _)
  have HT6 : Hid (OwnTs w.heap.size (.slice pt M ct) ts w6) := HT5.out.below hb7 (Nat.le_refl _)
  have HOS : Hid (Po.Own w5.heap.size (.slice pS N2 cS) s2 w6) := ⟨hR.rs, hR.ts⟩
  have HUS2 := Lib.hid (Po.rows_okU HGG.out)
  have HF1 := Lib.hid (HO6.out.n HV.out HUS.out)
  have HF2 := Lib.hid (HOS.out.n HS2.out HUS2.out)
  have HFT : Hid (∀ s ∈ ts, s.ls.length = s.n ∧ s.n ≤ maxLen) := fun t ht => ⟨(HT6.out.2 t ht).1, by have h9 := (Awk.okT HVT.out HUT.out t ht).2.2; have h8 := (HT6.out.2 t ht).1; have h7 : t.ls.length ≤ 1000 := h9; unfold maxLen; omega⟩
  clear hg hR hs hm hb7 hN2 hM2 HSY HO5 HT5
  have k0 : (0 : Int) ≤ (k : Int) := by omega
  have k1 : (k : Int) ≤ (M : Int) := by omega
  go_wp2_with fail
  have HTT := Lib.hid HT6.out.2
  rcases HT6.out.open with ⟨e0, hts⟩ | ⟨gt, c0, e0, hgt, hgl, hMc, hcm, hTA⟩
  · simp only [Value.slice.injEq] at e0
    obtain ⟨rfl, rfl, rfl⟩ := e0
    obtain rfl : k = 0 := by omega
    obtain ⟨D, hD⟩ : ∃ D, D = (w6.alloc (.cells #[.slice (none : Option Addr) 0 0, .slice (none : Option Addr) 0 0, .slice (none : Option Addr) 0 0] 23)).drew := ⟨_, rfl⟩
    have hKD : D.heap[w6.heap.size]? = some (.cells #[.slice (none : Option Addr) 0 0, .slice (none : Option Addr) 0 0, .slice (none : Option Addr) 0 0] 23) := by rw [hD]; exact alloc_new w6 _
    have hBD : Below w6.heap.size w6 D := by rw [hD]; exact ((Below.refl _ _).alloc (Nat.le_refl _) _).drew
    have HSA : Hid (Po.SrcAt w6.heap.size [((none : Option Addr), 0, 0, ts.drop 0), ((none : Option Addr), 0, 0, ts.take 0), ((none : Option Addr), 0, 0, ts)] D) := fun i hi => by
      rw [Lib.cell_of_heap hKD]
      match i, hi with
      | 0, _ => rfl
      | 1, _ => rfl
      | 2, _ => rfl
    have HSO : Hid (Po.SrcOk [((none : Option Addr), 0, 0, ts.drop 0), ((none : Option Addr), 0, 0, ts.take 0), ((none : Option Addr), 0, 0, ts)] D) := fun x hx => by
      simp only [List.mem_cons, List.not_mem_nil, or_false] at hx
      rcases hx with rfl | rfl | rfl
      · exact ⟨by show (ts.drop 0).length = 0; rw [hts]; rfl, (fun _ => ⟨rfl, rfl⟩), (Po.TgAt.pos (.inl (by rw [hts]; rfl) : Po.TgAt _ _ w6)).below hBD (Nat.le_refl _), (by show 0 ≤ 1000; omega)⟩
      · exact ⟨by show (ts.take 0).length = 0; rw [hts]; rfl, (fun _ => ⟨rfl, rfl⟩), (Po.TgAt.pos (.inl (by rw [hts]; rfl) : Po.TgAt _ _ w6)).below hBD (Nat.le_refl _), (by show 0 ≤ 1000; omega)⟩
      · exact ⟨HM.out, (fun _ => ⟨rfl, rfl⟩), (Po.TgAt.pos (.inl hts : Po.TgAt _ _ w6)).below hBD (Nat.le_refl _), (by show 0 ≤ 1000; omega)⟩
    have hmem : ∀ x, x ∈ (ts.drop 0 ++ (ts.take 0 ++ (ts ++ []))) ↔ x ∈ ts := fun x => by
      simp only [List.mem_append, List.not_mem_nil, or_false]
      exact ⟨fun h => by rcases h with h | h | h; exact List.mem_of_mem_drop h; exact List.mem_of_mem_take h; exact h, fun h => .inr (.inr h)⟩
    have hflat : ([((none : Option Addr), 0, 0, ts.drop 0), ((none : Option Addr), 0, 0, ts.take 0), ((none : Option Addr), 0, 0, ts)] : List Po.Src).flatMap (·.2.2.2) = ts.drop 0 ++ (ts.take 0 ++ (ts ++ [])) := rfl
    have HMEM := Lib.hid hmem
    have HFLAT := Lib.hid hflat
    have HBD := Lib.hid hBD
    have hzD : w6.heap.size ≤ D.heap.size := hBD.size
    clear hKD hBD hmem hflat
    refine wp_region_held_drew (S := (fun _ => True)) (by kernel_rfl) trivial (fun hHeld => ?_)
    refine Rnd.take (i := 0) (v := ?_) rfl (by kernel_rfl) (by kernel_rfl) (by kernel_rfl) (fun _ _ _ h => h) (.inl ⟨by rfl, ?_⟩) (by assumption) ?_
    rotate_left
    · (intro w9 hS9; (try dsimp only at hS9); go_simp; try with_reducible rfl)
    try simp only [Act.put, List.setIfInBounds_toArray, List.set_cons_zero, List.set_cons_succ]
    refine Rnd.take (i := 1) (v := ?_) rfl (by kernel_rfl) (by kernel_rfl) (by kernel_rfl) (fun _ _ _ h => h) (.inl ⟨by rfl, ?_⟩) (by assumption) ?_
    rotate_left
    · (intro w9 hS9; (try dsimp only at hS9); go_simp; try with_reducible rfl)
    try simp only [Act.put, List.setIfInBounds_toArray, List.set_cons_zero, List.set_cons_succ]
    refine Rnd.take (i := 2) (v := ?_) rfl (by kernel_rfl) (by kernel_rfl) (by kernel_rfl) (fun _ _ _ h => h) (.inl ⟨by rfl, ?_⟩) (by assumption) ?_
    rotate_left
    · (intro w9 hS9; (try dsimp only at hS9); go_simp; try with_reducible rfl)
    try simp only [Act.put, List.setIfInBounds_toArray, List.set_cons_zero, List.set_cons_succ]
    refine Rnd.take (i := 3) (v := ?_) rfl (by kernel_rfl) (by kernel_rfl) (by kernel_rfl) (fun _ _ _ h => h) (.inl ⟨by rfl, ?_⟩) (by assumption) ?_
    rotate_left
    · (intro w9 hS9; (try dsimp only at hS9); go_simp; try with_reducible rfl)
    try simp only [Act.put, List.setIfInBounds_toArray, List.set_cons_zero, List.set_cons_succ]
    refine Rnd.take (i := 4) (v := ?_) rfl (by kernel_rfl) (by kernel_rfl) (by kernel_rfl) (fun _ _ _ h => h) (.inl ⟨by rfl, ?_⟩) (by assumption) ?_
    rotate_left
    · (intro w9 hS9; (try dsimp only at hS9); go_simp; try with_reducible rfl)
    try simp only [Act.put, List.setIfInBounds_toArray, List.set_cons_zero, List.set_cons_succ]
    refine Rnd.take (i := 5) (v := ?_) rfl (by kernel_rfl) (by kernel_rfl) (by kernel_rfl) (fun _ _ _ h => h) (.inl ⟨by rfl, ?_⟩) (by assumption) ?_
    rotate_left
    · (intro w9 hS9; (try dsimp only at hS9); go_simp; try with_reducible rfl)
    try simp only [Act.put, List.setIfInBounds_toArray, List.set_cons_zero, List.set_cons_succ]
    refine Rnd.take (i := 6) (v := ?_) rfl (by kernel_rfl) (by kernel_rfl) (by kernel_rfl) (fun _ _ _ h => h) (.inl ⟨by rfl, ?_⟩) (by assumption) ?_
    rotate_left
    · (intro w9 hS9; (try dsimp only at hS9); go_simp; try with_reducible rfl)
    try simp only [Act.put, List.setIfInBounds_toArray, List.set_cons_zero, List.set_cons_succ]
    refine Rnd.take (i := 7) (v := ?_) rfl (by kernel_rfl) (by kernel_rfl) (by kernel_rfl) (fun _ _ _ h => h) (.inl ⟨by rfl, ?_⟩) (by assumption) ?_
    rotate_left
    · (intro w9 hS9; (try dsimp only at hS9); go_simp; try with_reducible rfl)
    try simp only [Act.put, List.setIfInBounds_toArray, List.set_cons_zero, List.set_cons_succ]
    refine Rnd.take (i := 10) (v := ?_) rfl (by kernel_rfl) (by kernel_rfl) (by kernel_rfl) (fun _ _ _ h => h) (.inl ⟨by rfl, ?_⟩) (by assumption) ?_
    rotate_left
    · (intro w9 hS9; (try dsimp only at hS9); go_simp; try with_reducible rfl)
    try simp only [Act.put, List.setIfInBounds_toArray, List.set_cons_zero, List.set_cons_succ]
    refine Rnd.take (i := 11) (v := ?_) rfl (by kernel_rfl) (by kernel_rfl) (by kernel_rfl) (fun _ _ _ h => h) (.inl ⟨by rfl, ?_⟩) (by assumption) ?_
    rotate_left
    · (intro w9 hS9; (try dsimp only at hS9); go_simp; try with_reducible rfl)
    try simp only [Act.put, List.setIfInBounds_toArray, List.set_cons_zero, List.set_cons_succ]
    refine wpAnyH_ready (rs := [8]) (by kernel_rfl) (by simp) ?_
    refine AllReadyH.cons rfl (fun K hK => ?_) AllReadyH.nil
    go_simp
    refine hK.out _ _ trivial (fun hHeld => ?_)
    clear hK K
    try simp only [Act.put, List.setIfInBounds_toArray, List.set_cons_zero, List.set_cons_succ]
    refine wpAnyH_ready (rs := [9]) (by kernel_rfl) (by simp) ?_
    refine AllReadyH.cons rfl (fun K hK => ?_) AllReadyH.nil
    go_simp
    rw [← hD]
    refine (concatT_is w6.heap.size [((none : Option Addr), 0, 0, ts.drop 0), ((none : Option Addr), 0, 0, ts.take 0), ((none : Option Addr), 0, 0, ts)] 3 3 D rfl (by decide) HSA.out HSO.out).mono ?_
    first | rintro e w7 v rfl hC hb8 | rintro e w7 ⟨⟨v, rfl, hC⟩, hb8⟩
    rw [HFLAT.out] at hC
    obtain ⟨tq, htq⟩ : ∃ tq, (ts.drop 0 ++ (ts.take 0 ++ (ts ++ []))) = tq := ⟨_, rfl⟩
    have hmq : ∀ x, x ∈ tq ↔ x ∈ ts := fun x => by rw [← htq]; exact HMEM.out x
    have hlq : tq.length ≤ 100 := by rw [← htq]; simp only [List.length_append, List.length_drop, List.length_take, List.length_nil]; have := HM.out; omega
    rw [htq] at hC
    obtain ⟨pQ, cQ, rfl, _⟩ := hC.shape
    have hB7 : Below w6.heap.size w6 w7 := HBD.out.trans (hb8.mono hzD)
    have hLq : ∀ t ∈ tq, Lab.At t.p t.ls w7 := fun t ht => (OwnT.at (B := w.heap.size) ⟨(HTT.out t ((hmq t).1 ht)).1, (HTT.out t ((hmq t).1 ht)).2⟩).below hB7 (Nat.le_refl _)
    refine hK.out _ _ trivial (fun hHeld => ?_)
    clear hK K
    try simp only [Act.put, List.setIfInBounds_toArray, List.set_cons_zero, List.set_cons_succ]
    refine wpAnyH_ready (rs := [12]) (by kernel_rfl) (by simp) ?_
    refine AllReadyH.cons rfl (fun K hK => ?_) AllReadyH.nil
    go_simp
    refine (sync_is pv pQ ss tq N cv tq.length cQ ev ti 0 _ _ (by rw [HV.out]; exact (Po.sync_same HGF.out HOK.out HTS.out (fun u => by rw [← HVT.out, List.mem_map, List.mem_map]; exact ⟨fun ⟨x, h1, h2⟩ => ⟨x, (hmq x).1 h1, h2⟩, fun ⟨x, h1, h2⟩ => ⟨x, (hmq x).2 h1, h2⟩⟩) ev ti HNUM.out).trans (Po.rows_sync HGF.out HOK.out HTS.out ev ti HNUM.out)) w7 HN.out rfl (HO6.out.at.1.below hB7 (Nat.le_refl _)) (hC.tgAt hLq) (HO6.out.any HV.out HUS.out) (fun t ht => Po.okU.any ⟨(HT6.out.2 t ((hmq t).1 ht)).1, (HT6.out.2 t ((hmq t).1 ht)).2⟩ (Awk.okT HVT.out HUT.out t ((hmq t).1 ht))) (by omega) (by omega)).mono ?_
    first | rintro e w8 v3 v4 s3 m3 rfl hR3 hs3 hm3 hb9 | rintro e w8 v3 v4 rfl s3 m3 hR3 hs3 hm3 hb9 | rintro e w8 ⟨⟨v3, v4, s3, m3, rfl, hR3, hs3, hm3⟩, hb9⟩
    obtain ⟨⟨pS3, cS3, rfl, hcS3, _⟩, pM3, cM3, rfl, hcM3, _⟩ := hR3.form
    have hB8 : Below w6.heap.size w6 w8 := below_next hB7 hb9
    refine hK.out _ _ trivial (fun hHeld => ?_)
    clear hK K
    try simp only [Act.put, List.setIfInBounds_toArray, List.set_cons_zero, List.set_cons_succ]
    refine Rnd.take (i := 13) (v := ?_) rfl (by kernel_rfl) (by kernel_rfl) (by kernel_rfl) (fun _ _ _ h => h) (.inl ⟨by rfl, ?_⟩) (by assumption) ?_
    rotate_left
    · (intro w9 hS9; (try dsimp only at hS9); go_simp; try with_reducible rfl)
    try simp only [Act.put, List.setIfInBounds_toArray, List.set_cons_zero, List.set_cons_succ]
    refine Rnd.take (i := 14) (v := ?_) rfl (by kernel_rfl) (by kernel_rfl) (by kernel_rfl) (fun _ _ _ h => h) (.inl ⟨by rfl, ?_⟩) (by assumption) ?_
    rotate_left
    · (intro w9 hS9; (try dsimp only at hS9); go_simp; try with_reducible rfl)
    try simp only [Act.put, List.setIfInBounds_toArray, List.set_cons_zero, List.set_cons_succ]
    refine Rnd.take (i := 15) (v := ?_) rfl (by kernel_rfl) (by kernel_rfl) (by kernel_rfl) (fun _ _ _ h => h) (.inl ⟨by rfl, ?_⟩) (by assumption) ?_
    rotate_left
    · (intro w9 hS9; (try dsimp only at hS9); go_simp; try with_reducible rfl)
    try simp only [Act.put, List.setIfInBounds_toArray, List.set_cons_zero, List.set_cons_succ]
    refine Rnd.take (i := 16) (v := ?_) rfl (by kernel_rfl) (by kernel_rfl) (by kernel_rfl) (fun _ _ _ h => h) (.inl ⟨by rfl, ?_⟩) (by assumption) ?_
    rotate_left
    · (intro w9 hS9; (try dsimp only at hS9); go_simp; try with_reducible rfl)
    try simp only [Act.put, List.setIfInBounds_toArray, List.set_cons_zero, List.set_cons_succ]
    refine Rnd.take (i := 17) (v := ?_) rfl (by kernel_rfl) (by kernel_rfl) (by kernel_rfl) (fun _ _ _ h => h) (.inl ⟨by rfl, ?_⟩) (by assumption) ?_
    rotate_left
    · (intro w9 hS9; (try dsimp only at hS9); go_simp; try with_reducible rfl)
    try simp only [Act.put, List.setIfInBounds_toArray, List.set_cons_zero, List.set_cons_succ]
    refine Rnd.take (i := 18) (v := ?_) rfl (by kernel_rfl) (by kernel_rfl) (by kernel_rfl) (fun _ _ _ h => h) (.inl ⟨by rfl, ?_⟩) (by assumption) ?_
    rotate_left
    · (intro w9 hS9; (try dsimp only at hS9); go_simp; try with_reducible rfl)
    try simp only [Act.put, List.setIfInBounds_toArray, List.set_cons_zero, List.set_cons_succ]
    refine Rnd.take (i := 19) (v := ?_) rfl (by kernel_rfl) (by kernel_rfl) (by kernel_rfl) (fun _ _ _ h => h) (.inl ⟨by rfl, ?_⟩) (by assumption) ?_
    rotate_left
    · (intro w9 hS9; (try dsimp only at hS9); go_simp; try with_reducible rfl)
    try simp only [Act.put, List.setIfInBounds_toArray, List.set_cons_zero, List.set_cons_succ]
    refine wpAnyH_done (by kernel_rfl) ?_ _
    have HR3 := Lib.hid hR3
    have HB8 := Lib.hid hB8
    have HS3 : Hid (s2.map Sl.view = s3.map Sl.view) := by show _ = _; rw [HS2.out, hs3, HG.out]
    have HM3 : Hid (m2.map Mv.view = m3.map Mv.view) := by show _ = _; rw [HM2.out, hm3]; rfl
    have HE1 := Lib.hid (same35_is pS pS3 s2 s3 N2 s3.length cS cS3 HS3.out w8 HN2.out rfl (HR.out.at.1.below HB8.out (Nat.le_refl _)) HR3.out.at.1 (HOS.out.n HS2.out HUS2.out) (fun s hs => (HR3.out.ts s hs).1) (by omega))
    have hm52 : M2 ≤ 52 := by have h3 := congrArg List.length HM2.out; rw [List.length_map] at h3; have := HLM2.out; have := Po.mvs_len f TT ev ti 26; omega
    have HE2 := Lib.hid (fun w h1 h2 => moved_is pM pM3 m2 m3 M2 m3.length cM cM3 HM3.out w HLM2.out rfl h1 h2 (fun m hm => Po.okU.n (HR.out.tm m hm) (Awk.okM HM2.out (Po.mvs_okU HGF.out TT ev ti) m hm)) (fun m hm => (HR3.out.tm m hm).1) (by omega))
    clear hR3 hs3 hm3 hb9 hB8
    go_wp2_with (go_at_call 22; refine HE1.out.mono ?_)
    first | rintro e w9 rfl hb10 | rintro e w9 ⟨rfl, hb10⟩
    have HB9 : Hid (Below w6.heap.size w6 w9) := below_next HB8.out hb10
    go_wp2_with (go_at_call 33; refine (HE2.out _ (HR.out.mat.1.below HB9.out (Nat.le_refl _)) (HR3.out.mat.1.below hb10 (Nat.le_refl _))).mono ?_)
    first | rintro e wx rfl hb11 | rintro e wx ⟨rfl, hb11⟩
    have hbz : Below w.heap.size w wx := below_next (HB7.out.trans (HB9.out.mono HB7.out.size)) hb11
    clear hb11
    go_wp2_with fail
    go_ret
    exact ⟨rfl, hbz⟩
  · simp only [Value.slice.injEq] at e0
    obtain ⟨rfl, hMl, rfl⟩ := e0
    rw [HM.out] at hMc
    clear hMl
    have hTK : Po.TgAt (some ⟨gt, 0, none⟩) (ts.take k) w6 := by have := Po.TgAt.part hTA hgl 0 k; simpa using this
    have hTF : Po.TgAt (some ⟨gt, 0, none⟩) ts w6 := .inr ⟨gt, 0, rfl, hgl, hTA⟩
    have k2 : (k : Int) ≤ (ct : Int) := by omega
    have k3 : (M : Int) ≤ (ct : Int) := by omega
    by_cases hck : ct = k
    · have hMk : M = k := by omega
      subst hMk
      have hcm : M = ct := by omega
      subst hcm
      clear hck
      have hd : ts.drop M = [] := List.drop_eq_nil_of_le (by rw [HM.out]; exact Nat.le_refl _)
      obtain ⟨D, hD⟩ : ∃ D, D = (w6.alloc (.cells #[.slice (some ⟨gt, 0, none⟩) 0 0, .slice (some ⟨gt, 0, none⟩) M M, .slice (some ⟨gt, 0, none⟩) M M] 23)).drew := ⟨_, rfl⟩
      have hKD : D.heap[w6.heap.size]? = some (.cells #[.slice (some ⟨gt, 0, none⟩) 0 0, .slice (some ⟨gt, 0, none⟩) M M, .slice (some ⟨gt, 0, none⟩) M M] 23) := by rw [hD]; exact alloc_new w6 _
      have hBD : Below w6.heap.size w6 D := by rw [hD]; exact ((Below.refl _ _).alloc (Nat.le_refl _) _).drew
      have HSA : Hid (Po.SrcAt w6.heap.size [((some ⟨gt, 0, none⟩), 0, 0, ts.drop M), ((some ⟨gt, 0, none⟩), M, M, ts.take M), ((some ⟨gt, 0, none⟩), M, M, ts)] D) := fun i hi => by
        rw [Lib.cell_of_heap hKD]
        match i, hi with
        | 0, _ => rfl
        | 1, _ => rfl
        | 2, _ => rfl
      have HSO : Hid (Po.SrcOk [((some ⟨gt, 0, none⟩), 0, 0, ts.drop M), ((some ⟨gt, 0, none⟩), M, M, ts.take M), ((some ⟨gt, 0, none⟩), M, M, ts)] D) := fun x hx => by
        simp only [List.mem_cons, List.not_mem_nil, or_false] at hx
        rcases hx with rfl | rfl | rfl
        · exact ⟨by show (ts.drop M).length = 0; rw [hd]; rfl, (fun h => (nomatch h)), (Po.TgAt.pos (.inl hd : Po.TgAt _ _ w6)).below hBD (Nat.le_refl _), (by show 0 ≤ 1000; omega)⟩
        · exact ⟨by show (ts.take M).length = M; rw [List.length_take, HM.out]; omega, (fun h => (nomatch h)), (Po.TgAt.pos (hTK : Po.TgAt _ _ w6)).below hBD (Nat.le_refl _), (by show M ≤ 1000; omega)⟩
        · exact ⟨HM.out, (fun h => (nomatch h)), (Po.TgAt.pos (hTF : Po.TgAt _ _ w6)).below hBD (Nat.le_refl _), (by show M ≤ 1000; omega)⟩
      have hmem : ∀ x, x ∈ (ts.drop M ++ (ts.take M ++ (ts ++ []))) ↔ x ∈ ts := fun x => by
        simp only [List.mem_append, List.not_mem_nil, or_false]
        exact ⟨fun h => by rcases h with h | h | h; exact List.mem_of_mem_drop h; exact List.mem_of_mem_take h; exact h, fun h => .inr (.inr h)⟩
      have hflat : ([((some ⟨gt, 0, none⟩), 0, 0, ts.drop M), ((some ⟨gt, 0, none⟩), M, M, ts.take M), ((some ⟨gt, 0, none⟩), M, M, ts)] : List Po.Src).flatMap (·.2.2.2) = ts.drop M ++ (ts.take M ++ (ts ++ [])) := rfl
      have HMEM := Lib.hid hmem
      have HFLAT := Lib.hid hflat
      have HBD := Lib.hid hBD
      have hzD : w6.heap.size ≤ D.heap.size := hBD.size
      clear hKD hBD hmem hflat
      refine wp_region_held_drew (S := (fun _ => True)) (by kernel_rfl) trivial (fun hHeld => ?_)
      refine Rnd.take (i := 0) (v := ?_) rfl (by kernel_rfl) (by kernel_rfl) (by kernel_rfl) (fun _ _ _ h => h) (.inl ⟨by rfl, ?_⟩) (by assumption) ?_
      rotate_left
      · (intro w9 hS9; (try dsimp only at hS9); go_simp; try with_reducible rfl)
      try simp only [Act.put, List.setIfInBounds_toArray, List.set_cons_zero, List.set_cons_succ]
      refine Rnd.take (i := 1) (v := ?_) rfl (by kernel_rfl) (by kernel_rfl) (by kernel_rfl) (fun _ _ _ h => h) (.inl ⟨by rfl, ?_⟩) (by assumption) ?_
      rotate_left
      · (intro w9 hS9; (try dsimp only at hS9); go_simp; try with_reducible rfl)
      try simp only [Act.put, List.setIfInBounds_toArray, List.set_cons_zero, List.set_cons_succ]
      refine Rnd.take (i := 2) (v := ?_) rfl (by kernel_rfl) (by kernel_rfl) (by kernel_rfl) (fun _ _ _ h => h) (.inl ⟨by rfl, ?_⟩) (by assumption) ?_
      rotate_left
      · (intro w9 hS9; (try dsimp only at hS9); go_simp; try with_reducible rfl)
      try simp only [Act.put, List.setIfInBounds_toArray, List.set_cons_zero, List.set_cons_succ]
      refine Rnd.take (i := 3) (v := ?_) rfl (by kernel_rfl) (by kernel_rfl) (by kernel_rfl) (fun _ _ _ h => h) (.inl ⟨by rfl, ?_⟩) (by assumption) ?_
      rotate_left
      · (intro w9 hS9; (try dsimp only at hS9); go_simp; try with_reducible rfl)
      try simp only [Act.put, List.setIfInBounds_toArray, List.set_cons_zero, List.set_cons_succ]
      refine Rnd.take (i := 4) (v := ?_) rfl (by kernel_rfl) (by kernel_rfl) (by kernel_rfl) (fun _ _ _ h => h) (.inl ⟨by rfl, ?_⟩) (by assumption) ?_
      rotate_left
      · (intro w9 hS9; (try dsimp only at hS9); go_simp; try with_reducible rfl)
      try simp only [Act.put, List.setIfInBounds_toArray, List.set_cons_zero, List.set_cons_succ]
      refine Rnd.take (i := 5) (v := ?_) rfl (by kernel_rfl) (by kernel_rfl) (by kernel_rfl) (fun _ _ _ h => h) (.inl ⟨by rfl, ?_⟩) (by assumption) ?_
      rotate_left
      · (intro w9 hS9; (try dsimp only at hS9); go_simp; try with_reducible rfl)
      try simp only [Act.put, List.setIfInBounds_toArray, List.set_cons_zero, List.set_cons_succ]
      refine Rnd.take (i := 6) (v := ?_) rfl (by kernel_rfl) (by kernel_rfl) (by kernel_rfl) (fun _ _ _ h => h) (.inl ⟨by rfl, ?_⟩) (by assumption) ?_
      rotate_left
      · (intro w9 hS9; (try dsimp only at hS9); go_simp; try with_reducible rfl)
      try simp only [Act.put, List.setIfInBounds_toArray, List.set_cons_zero, List.set_cons_succ]
      refine Rnd.take (i := 7) (v := ?_) rfl (by kernel_rfl) (by kernel_rfl) (by kernel_rfl) (fun _ _ _ h => h) (.inl ⟨by rfl, ?_⟩) (by assumption) ?_
      rotate_left
      · (intro w9 hS9; (try dsimp only at hS9); go_simp; try with_reducible rfl)
      try simp only [Act.put, List.setIfInBounds_toArray, List.set_cons_zero, List.set_cons_succ]
      refine Rnd.take (i := 10) (v := ?_) rfl (by kernel_rfl) (by kernel_rfl) (by kernel_rfl) (fun _ _ _ h => h) (.inl ⟨by rfl, ?_⟩) (by assumption) ?_
      rotate_left
      · (intro w9 hS9; (try dsimp only at hS9); go_simp; try with_reducible rfl)
      try simp only [Act.put, List.setIfInBounds_toArray, List.set_cons_zero, List.set_cons_succ]
      refine Rnd.take (i := 11) (v := ?_) rfl (by kernel_rfl) (by kernel_rfl) (by kernel_rfl) (fun _ _ _ h => h) (.inl ⟨by rfl, ?_⟩) (by assumption) ?_
      rotate_left
      · (intro w9 hS9; (try dsimp only at hS9); go_simp; try with_reducible rfl)
      try simp only [Act.put, List.setIfInBounds_toArray, List.set_cons_zero, List.set_cons_succ]
      refine wpAnyH_ready (rs := [8]) (by kernel_rfl) (by simp) ?_
      refine AllReadyH.cons rfl (fun K hK => ?_) AllReadyH.nil
      go_simp
      refine hK.out _ _ trivial (fun hHeld => ?_)
      clear hK K
      try simp only [Act.put, List.setIfInBounds_toArray, List.set_cons_zero, List.set_cons_succ]
      refine wpAnyH_ready (rs := [9]) (by kernel_rfl) (by simp) ?_
      refine AllReadyH.cons rfl (fun K hK => ?_) AllReadyH.nil
      go_simp
      rw [← hD]
      refine (concatT_is w6.heap.size [((some ⟨gt, 0, none⟩), 0, 0, ts.drop M), ((some ⟨gt, 0, none⟩), M, M, ts.take M), ((some ⟨gt, 0, none⟩), M, M, ts)] 3 3 D rfl (by decide) HSA.out HSO.out).mono ?_
      first | rintro e w7 v rfl hC hb8 | rintro e w7 ⟨⟨v, rfl, hC⟩, hb8⟩
      rw [HFLAT.out] at hC
      obtain ⟨tq, htq⟩ : ∃ tq, (ts.drop M ++ (ts.take M ++ (ts ++ []))) = tq := ⟨_, rfl⟩
      have hmq : ∀ x, x ∈ tq ↔ x ∈ ts := fun x => by rw [← htq]; exact HMEM.out x
      have hlq : tq.length ≤ 100 := by rw [← htq]; simp only [List.length_append, List.length_drop, List.length_take, List.length_nil]; have := HM.out; omega
      rw [htq] at hC
      obtain ⟨pQ, cQ, rfl, _⟩ := hC.shape
      have hB7 : Below w6.heap.size w6 w7 := HBD.out.trans (hb8.mono hzD)
      have hLq : ∀ t ∈ tq, Lab.At t.p t.ls w7 := fun t ht => (OwnT.at (B := w.heap.size) ⟨(HTT.out t ((hmq t).1 ht)).1, (HTT.out t ((hmq t).1 ht)).2⟩).below hB7 (Nat.le_refl _)
      refine hK.out _ _ trivial (fun hHeld => ?_)
      clear hK K
      try simp only [Act.put, List.setIfInBounds_toArray, List.set_cons_zero, List.set_cons_succ]
      refine wpAnyH_ready (rs := [12]) (by kernel_rfl) (by simp) ?_
      refine AllReadyH.cons rfl (fun K hK => ?_) AllReadyH.nil
      go_simp
      refine (sync_is pv pQ ss tq N cv tq.length cQ ev ti 0 _ _ (by rw [HV.out]; exact (Po.sync_same HGF.out HOK.out HTS.out (fun u => by rw [← HVT.out, List.mem_map, List.mem_map]; exact ⟨fun ⟨x, h1, h2⟩ => ⟨x, (hmq x).1 h1, h2⟩, fun ⟨x, h1, h2⟩ => ⟨x, (hmq x).2 h1, h2⟩⟩) ev ti HNUM.out).trans (Po.rows_sync HGF.out HOK.out HTS.out ev ti HNUM.out)) w7 HN.out rfl (HO6.out.at.1.below hB7 (Nat.le_refl _)) (hC.tgAt hLq) (HO6.out.any HV.out HUS.out) (fun t ht => Po.okU.any ⟨(HT6.out.2 t ((hmq t).1 ht)).1, (HT6.out.2 t ((hmq t).1 ht)).2⟩ (Awk.okT HVT.out HUT.out t ((hmq t).1 ht))) (by omega) (by omega)).mono ?_
      first | rintro e w8 v3 v4 s3 m3 rfl hR3 hs3 hm3 hb9 | rintro e w8 v3 v4 rfl s3 m3 hR3 hs3 hm3 hb9 | rintro e w8 ⟨⟨v3, v4, s3, m3, rfl, hR3, hs3, hm3⟩, hb9⟩
      obtain ⟨⟨pS3, cS3, rfl, hcS3, _⟩, pM3, cM3, rfl, hcM3, _⟩ := hR3.form
      have hB8 : Below w6.heap.size w6 w8 := below_next hB7 hb9
      refine hK.out _ _ trivial (fun hHeld => ?_)
      clear hK K
      try simp only [Act.put, List.setIfInBounds_toArray, List.set_cons_zero, List.set_cons_succ]
      refine Rnd.take (i := 13) (v := ?_) rfl (by kernel_rfl) (by kernel_rfl) (by kernel_rfl) (fun _ _ _ h => h) (.inl ⟨by rfl, ?_⟩) (by assumption) ?_
      rotate_left
      · (intro w9 hS9; (try dsimp only at hS9); go_simp; try with_reducible rfl)
      try simp only [Act.put, List.setIfInBounds_toArray, List.set_cons_zero, List.set_cons_succ]
      refine Rnd.take (i := 14) (v := ?_) rfl (by kernel_rfl) (by kernel_rfl) (by kernel_rfl) (fun _ _ _ h => h) (.inl ⟨by rfl, ?_⟩) (by assumption) ?_
      rotate_left
      · (intro w9 hS9; (try dsimp only at hS9); go_simp; try with_reducible rfl)
      try simp only [Act.put, List.setIfInBounds_toArray, List.set_cons_zero, List.set_cons_succ]
      refine Rnd.take (i := 15) (v := ?_) rfl (by kernel_rfl) (by kernel_rfl) (by kernel_rfl) (fun _ _ _ h => h) (.inl ⟨by rfl, ?_⟩) (by assumption) ?_
      rotate_left
      · (intro w9 hS9; (try dsimp only at hS9); go_simp; try with_reducible rfl)
      try simp only [Act.put, List.setIfInBounds_toArray, List.set_cons_zero, List.set_cons_succ]
      refine Rnd.take (i := 16) (v := ?_) rfl (by kernel_rfl) (by kernel_rfl) (by kernel_rfl) (fun _ _ _ h => h) (.inl ⟨by rfl, ?_⟩) (by assumption) ?_
      rotate_left
      · (intro w9 hS9; (try dsimp only at hS9); go_simp; try with_reducible rfl)
      try simp only [Act.put, List.setIfInBounds_toArray, List.set_cons_zero, List.set_cons_succ]
      refine Rnd.take (i := 17) (v := ?_) rfl (by kernel_rfl) (by kernel_rfl) (by kernel_rfl) (fun _ _ _ h => h) (.inl ⟨by rfl, ?_⟩) (by assumption) ?_
      rotate_left
      · (intro w9 hS9; (try dsimp only at hS9); go_simp; try with_reducible rfl)
      try simp only [Act.put, List.setIfInBounds_toArray, List.set_cons_zero, List.set_cons_succ]
      refine Rnd.take (i := 18) (v := ?_) rfl (by kernel_rfl) (by kernel_rfl) (by kernel_rfl) (fun _ _ _ h => h) (.inl ⟨by rfl, ?_⟩) (by assumption) ?_
      rotate_left
      · (intro w9 hS9; (try dsimp only at hS9); go_simp; try with_reducible rfl)
      try simp only [Act.put, List.setIfInBounds_toArray, List.set_cons_zero, List.set_cons_succ]
      refine Rnd.take (i := 19) (v := ?_) rfl (by kernel_rfl) (by kernel_rfl) (by kernel_rfl) (fun _ _ _ h => h) (.inl ⟨by rfl, ?_⟩) (by assumption) ?_
      rotate_left
      · (intro w9 hS9; (try dsimp only at hS9); go_simp; try with_reducible rfl)
      try simp only [Act.put, List.setIfInBounds_toArray, List.set_cons_zero, List.set_cons_succ]
      refine wpAnyH_done (by kernel_rfl) ?_ _
      have HR3 := Lib.hid hR3
      have HB8 := Lib.hid hB8
      have HS3 : Hid (s2.map Sl.view = s3.map Sl.view) := by show _ = _; rw [HS2.out, hs3, HG.out]
      have HM3 : Hid (m2.map Mv.view = m3.map Mv.view) := by show _ = _; rw [HM2.out, hm3]; rfl
      have HE1 := Lib.hid (same35_is pS pS3 s2 s3 N2 s3.length cS cS3 HS3.out w8 HN2.out rfl (HR.out.at.1.below HB8.out (Nat.le_refl _)) HR3.out.at.1 (HOS.out.n HS2.out HUS2.out) (fun s hs => (HR3.out.ts s hs).1) (by omega))
      have hm52 : M2 ≤ 52 := by have h3 := congrArg List.length HM2.out; rw [List.length_map] at h3; have := HLM2.out; have := Po.mvs_len f TT ev ti 26; omega
      have HE2 := Lib.hid (fun w h1 h2 => moved_is pM pM3 m2 m3 M2 m3.length cM cM3 HM3.out w HLM2.out rfl h1 h2 (fun m hm => Po.okU.n (HR.out.tm m hm) (Awk.okM HM2.out (Po.mvs_okU HGF.out TT ev ti) m hm)) (fun m hm => (HR3.out.tm m hm).1) (by omega))
      clear hR3 hs3 hm3 hb9 hB8
      go_wp2_with (go_at_call 22; refine HE1.out.mono ?_)
      first | rintro e w9 rfl hb10 | rintro e w9 ⟨rfl, hb10⟩
      have HB9 : Hid (Below w6.heap.size w6 w9) := below_next HB8.out hb10
      go_wp2_with (go_at_call 33; refine (HE2.out _ (HR.out.mat.1.below HB9.out (Nat.le_refl _)) (HR3.out.mat.1.below hb10 (Nat.le_refl _))).mono ?_)
      first | rintro e wx rfl hb11 | rintro e wx ⟨rfl, hb11⟩
      have hbz : Below w.heap.size w wx := below_next (HB7.out.trans (HB9.out.mono HB7.out.size)) hb11
      clear hb11
      go_wp2_with fail
      go_ret
      exact ⟨rfl, hbz⟩
    · have hTD : Po.TgAt (some ⟨gt, k * 2, none⟩) (ts.drop k) w6 := by have := Po.TgAt.part hTA hgl k M; rw [List.take_of_length_le (by rw [List.length_drop, HM.out]; omega)] at this; simpa using this
      obtain ⟨D, hD⟩ : ∃ D, D = (w6.alloc (.cells #[.slice (some ⟨gt, k * 2, none⟩) (M - k) (ct - k), .slice (some ⟨gt, 0, none⟩) k ct, .slice (some ⟨gt, 0, none⟩) M ct] 23)).drew := ⟨_, rfl⟩
      have hKD : D.heap[w6.heap.size]? = some (.cells #[.slice (some ⟨gt, k * 2, none⟩) (M - k) (ct - k), .slice (some ⟨gt, 0, none⟩) k ct, .slice (some ⟨gt, 0, none⟩) M ct] 23) := by rw [hD]; exact alloc_new w6 _
      have hBD : Below w6.heap.size w6 D := by rw [hD]; exact ((Below.refl _ _).alloc (Nat.le_refl _) _).drew
      have HSA : Hid (Po.SrcAt w6.heap.size [((some ⟨gt, k * 2, none⟩), M - k, ct - k, ts.drop k), ((some ⟨gt, 0, none⟩), k, ct, ts.take k), ((some ⟨gt, 0, none⟩), M, ct, ts)] D) := fun i hi => by
        rw [Lib.cell_of_heap hKD]
        match i, hi with
        | 0, _ => rfl
        | 1, _ => rfl
        | 2, _ => rfl
      have HSO : Hid (Po.SrcOk [((some ⟨gt, k * 2, none⟩), M - k, ct - k, ts.drop k), ((some ⟨gt, 0, none⟩), k, ct, ts.take k), ((some ⟨gt, 0, none⟩), M, ct, ts)] D) := fun x hx => by
        simp only [List.mem_cons, List.not_mem_nil, or_false] at hx
        rcases hx with rfl | rfl | rfl
        · exact ⟨by show (ts.drop k).length = M - k; rw [List.length_drop, HM.out], (fun h => (nomatch h)), (Po.TgAt.pos (hTD : Po.TgAt _ _ w6)).below hBD (Nat.le_refl _), (by show M - k ≤ 1000; omega)⟩
        · exact ⟨by show (ts.take k).length = k; rw [List.length_take, HM.out]; omega, (fun h => (nomatch h)), (Po.TgAt.pos (hTK : Po.TgAt _ _ w6)).below hBD (Nat.le_refl _), (by show k ≤ 1000; omega)⟩
        · exact ⟨HM.out, (fun h => (nomatch h)), (Po.TgAt.pos (hTF : Po.TgAt _ _ w6)).below hBD (Nat.le_refl _), (by show M ≤ 1000; omega)⟩
      have hmem : ∀ x, x ∈ (ts.drop k ++ (ts.take k ++ (ts ++ []))) ↔ x ∈ ts := fun x => by
        simp only [List.mem_append, List.not_mem_nil, or_false]
        exact ⟨fun h => by rcases h with h | h | h; exact List.mem_of_mem_drop h; exact List.mem_of_mem_take h; exact h, fun h => .inr (.inr h)⟩
      have hflat : ([((some ⟨gt, k * 2, none⟩), M - k, ct - k, ts.drop k), ((some ⟨gt, 0, none⟩), k, ct, ts.take k), ((some ⟨gt, 0, none⟩), M, ct, ts)] : List Po.Src).flatMap (·.2.2.2) = ts.drop k ++ (ts.take k ++ (ts ++ [])) := rfl
      have HMEM := Lib.hid hmem
      have HFLAT := Lib.hid hflat
      have HBD := Lib.hid hBD
      have hzD : w6.heap.size ≤ D.heap.size := hBD.size
      clear hKD hBD hmem hflat
      refine wp_region_held_drew (S := (fun _ => True)) (by kernel_rfl) trivial (fun hHeld => ?_)
      refine Rnd.take (i := 0) (v := ?_) rfl (by kernel_rfl) (by kernel_rfl) (by kernel_rfl) (fun _ _ _ h => h) (.inl ⟨by rfl, ?_⟩) (by assumption) ?_
      rotate_left
      · (intro w9 hS9; (try dsimp only at hS9); go_simp; try with_reducible rfl)
      try simp only [Act.put, List.setIfInBounds_toArray, List.set_cons_zero, List.set_cons_succ]
      refine Rnd.take (i := 1) (v := ?_) rfl (by kernel_rfl) (by kernel_rfl) (by kernel_rfl) (fun _ _ _ h => h) (.inl ⟨by rfl, ?_⟩) (by assumption) ?_
      rotate_left
      · (intro w9 hS9; (try dsimp only at hS9); go_simp; try with_reducible rfl)
      try simp only [Act.put, List.setIfInBounds_toArray, List.set_cons_zero, List.set_cons_succ]
      refine Rnd.take (i := 2) (v := ?_) rfl (by kernel_rfl) (by kernel_rfl) (by kernel_rfl) (fun _ _ _ h => h) (.inl ⟨by rfl, ?_⟩) (by assumption) ?_
      rotate_left
      · (intro w9 hS9; (try dsimp only at hS9); go_simp; try with_reducible rfl)
      try simp only [Act.put, List.setIfInBounds_toArray, List.set_cons_zero, List.set_cons_succ]
      refine Rnd.take (i := 3) (v := ?_) rfl (by kernel_rfl) (by kernel_rfl) (by kernel_rfl) (fun _ _ _ h => h) (.inl ⟨by rfl, ?_⟩) (by assumption) ?_
      rotate_left
      · (intro w9 hS9; (try dsimp only at hS9); go_simp; try with_reducible rfl)
      try simp only [Act.put, List.setIfInBounds_toArray, List.set_cons_zero, List.set_cons_succ]
      refine Rnd.take (i := 4) (v := ?_) rfl (by kernel_rfl) (by kernel_rfl) (by kernel_rfl) (fun _ _ _ h => h) (.inl ⟨by rfl, ?_⟩) (by assumption) ?_
      rotate_left
      · (intro w9 hS9; (try dsimp only at hS9); go_simp; try with_reducible rfl)
      try simp only [Act.put, List.setIfInBounds_toArray, List.set_cons_zero, List.set_cons_succ]
      refine Rnd.take (i := 5) (v := ?_) rfl (by kernel_rfl) (by kernel_rfl) (by kernel_rfl) (fun _ _ _ h => h) (.inl ⟨by rfl, ?_⟩) (by assumption) ?_
      rotate_left
      · (intro w9 hS9; (try dsimp only at hS9); go_simp; try with_reducible rfl)
      try simp only [Act.put, List.setIfInBounds_toArray, List.set_cons_zero, List.set_cons_succ]
      refine Rnd.take (i := 6) (v := ?_) rfl (by kernel_rfl) (by kernel_rfl) (by kernel_rfl) (fun _ _ _ h => h) (.inl ⟨by rfl, ?_⟩) (by assumption) ?_
      rotate_left
      · (intro w9 hS9; (try dsimp only at hS9); go_simp; try with_reducible rfl)
      try simp only [Act.put, List.setIfInBounds_toArray, List.set_cons_zero, List.set_cons_succ]
      refine Rnd.take (i := 7) (v := ?_) rfl (by kernel_rfl) (by kernel_rfl) (by kernel_rfl) (fun _ _ _ h => h) (.inl ⟨by rfl, ?_⟩) (by assumption) ?_
      rotate_left
      · (intro w9 hS9; (try dsimp only at hS9); go_simp; try with_reducible rfl)
      try simp only [Act.put, List.setIfInBounds_toArray, List.set_cons_zero, List.set_cons_succ]
      refine Rnd.take (i := 10) (v := ?_) rfl (by kernel_rfl) (by kernel_rfl) (by kernel_rfl) (fun _ _ _ h => h) (.inl ⟨by rfl, ?_⟩) (by assumption) ?_
      rotate_left
      · (intro w9 hS9; (try dsimp only at hS9); go_simp; try with_reducible rfl)
      try simp only [Act.put, List.setIfInBounds_toArray, List.set_cons_zero, List.set_cons_succ]
      refine Rnd.take (i := 11) (v := ?_) rfl (by kernel_rfl) (by kernel_rfl) (by kernel_rfl) (fun _ _ _ h => h) (.inl ⟨by rfl, ?_⟩) (by assumption) ?_
      rotate_left
      · (intro w9 hS9; (try dsimp only at hS9); go_simp; try with_reducible rfl)
      try simp only [Act.put, List.setIfInBounds_toArray, List.set_cons_zero, List.set_cons_succ]
      refine wpAnyH_ready (rs := [8]) (by kernel_rfl) (by simp) ?_
      refine AllReadyH.cons rfl (fun K hK => ?_) AllReadyH.nil
      go_simp
      refine hK.out _ _ trivial (fun hHeld => ?_)
      clear hK K
      try simp only [Act.put, List.setIfInBounds_toArray, List.set_cons_zero, List.set_cons_succ]
      refine wpAnyH_ready (rs := [9]) (by kernel_rfl) (by simp) ?_
      refine AllReadyH.cons rfl (fun K hK => ?_) AllReadyH.nil
      go_simp
      rw [← hD]
      refine (concatT_is w6.heap.size [((some ⟨gt, k * 2, none⟩), M - k, ct - k, ts.drop k), ((some ⟨gt, 0, none⟩), k, ct, ts.take k), ((some ⟨gt, 0, none⟩), M, ct, ts)] 3 3 D rfl (by decide) HSA.out HSO.out).mono ?_
      first | rintro e w7 v rfl hC hb8 | rintro e w7 ⟨⟨v, rfl, hC⟩, hb8⟩
      rw [HFLAT.out] at hC
      obtain ⟨tq, htq⟩ : ∃ tq, (ts.drop k ++ (ts.take k ++ (ts ++ []))) = tq := ⟨_, rfl⟩
      have hmq : ∀ x, x ∈ tq ↔ x ∈ ts := fun x => by rw [← htq]; exact HMEM.out x
      have hlq : tq.length ≤ 100 := by rw [← htq]; simp only [List.length_append, List.length_drop, List.length_take, List.length_nil]; have := HM.out; omega
      rw [htq] at hC
      obtain ⟨pQ, cQ, rfl, _⟩ := hC.shape
      have hB7 : Below w6.heap.size w6 w7 := HBD.out.trans (hb8.mono hzD)
      have hLq : ∀ t ∈ tq, Lab.At t.p t.ls w7 := fun t ht => (OwnT.at (B := w.heap.size) ⟨(HTT.out t ((hmq t).1 ht)).1, (HTT.out t ((hmq t).1 ht)).2⟩).below hB7 (Nat.le_refl _)
      refine hK.out _ _ trivial (fun hHeld => ?_)
      clear hK K
      try simp only [Act.put, List.setIfInBounds_toArray, List.set_cons_zero, List.set_cons_succ]
      refine wpAnyH_ready (rs := [12]) (by kernel_rfl) (by simp) ?_
      refine AllReadyH.cons rfl (fun K hK => ?_) AllReadyH.nil
      go_simp
      refine (sync_is pv pQ ss tq N cv tq.length cQ ev ti 0 _ _ (by rw [HV.out]; exact (Po.sync_same HGF.out HOK.out HTS.out (fun u => by rw [← HVT.out, List.mem_map, List.mem_map]; exact ⟨fun ⟨x, h1, h2⟩ => ⟨x, (hmq x).1 h1, h2⟩, fun ⟨x, h1, h2⟩ => ⟨x, (hmq x).2 h1, h2⟩⟩) ev ti HNUM.out).trans (Po.rows_sync HGF.out HOK.out HTS.out ev ti HNUM.out)) w7 HN.out rfl (HO6.out.at.1.below hB7 (Nat.le_refl _)) (hC.tgAt hLq) (HO6.out.any HV.out HUS.out) (fun t ht => Po.okU.any ⟨(HT6.out.2 t ((hmq t).1 ht)).1, (HT6.out.2 t ((hmq t).1 ht)).2⟩ (Awk.okT HVT.out HUT.out t ((hmq t).1 ht))) (by omega) (by omega)).mono ?_
      first | rintro e w8 v3 v4 s3 m3 rfl hR3 hs3 hm3 hb9 | rintro e w8 v3 v4 rfl s3 m3 hR3 hs3 hm3 hb9 | rintro e w8 ⟨⟨v3, v4, s3, m3, rfl, hR3, hs3, hm3⟩, hb9⟩
      obtain ⟨⟨pS3, cS3, rfl, hcS3, _⟩, pM3, cM3, rfl, hcM3, _⟩ := hR3.form
      have hB8 : Below w6.heap.size w6 w8 := below_next hB7 hb9
      refine hK.out _ _ trivial (fun hHeld => ?_)
      clear hK K
      try simp only [Act.put, List.setIfInBounds_toArray, List.set_cons_zero, List.set_cons_succ]
      refine Rnd.take (i := 13) (v := ?_) rfl (by kernel_rfl) (by kernel_rfl) (by kernel_rfl) (fun _ _ _ h => h) (.inl ⟨by rfl, ?_⟩) (by assumption) ?_
      rotate_left
      · (intro w9 hS9; (try dsimp only at hS9); go_simp; try with_reducible rfl)
      try simp only [Act.put, List.setIfInBounds_toArray, List.set_cons_zero, List.set_cons_succ]
      refine Rnd.take (i := 14) (v := ?_) rfl (by kernel_rfl) (by kernel_rfl) (by kernel_rfl) (fun _ _ _ h => h) (.inl ⟨by rfl, ?_⟩) (by assumption) ?_
      rotate_left
      · (intro w9 hS9; (try dsimp only at hS9); go_simp; try with_reducible rfl)
      try simp only [Act.put, List.setIfInBounds_toArray, List.set_cons_zero, List.set_cons_succ]
      refine Rnd.take (i := 15) (v := ?_) rfl (by kernel_rfl) (by kernel_rfl) (by kernel_rfl) (fun _ _ _ h => h) (.inl ⟨by rfl, ?_⟩) (by assumption) ?_
      rotate_left
      · (intro w9 hS9; (try dsimp only at hS9); go_simp; try with_reducible rfl)
      try simp only [Act.put, List.setIfInBounds_toArray, List.set_cons_zero, List.set_cons_succ]
      refine Rnd.take (i := 16) (v := ?_) rfl (by kernel_rfl) (by kernel_rfl) (by kernel_rfl) (fun _ _ _ h => h) (.inl ⟨by rfl, ?_⟩) (by assumption) ?_
      rotate_left
      · (intro w9 hS9; (try dsimp only at hS9); go_simp; try with_reducible rfl)
      try simp only [Act.put, List.setIfInBounds_toArray, List.set_cons_zero, List.set_cons_succ]
      refine Rnd.take (i := 17) (v := ?_) rfl (by kernel_rfl) (by kernel_rfl) (by kernel_rfl) (fun _ _ _ h => h) (.inl ⟨by rfl, ?_⟩) (by assumption) ?_
      rotate_left
      · (intro w9 hS9; (try dsimp only at hS9); go_simp; try with_reducible rfl)
      try simp only [Act.put, List.setIfInBounds_toArray, List.set_cons_zero, List.set_cons_succ]
      refine Rnd.take (i := 18) (v := ?_) rfl (by kernel_rfl) (by kernel_rfl) (by kernel_rfl) (fun _ _ _ h => h) (.inl ⟨by rfl, ?_⟩) (by assumption) ?_
      rotate_left
      · (intro w9 hS9; (try dsimp only at hS9); go_simp; try with_reducible rfl)
      try simp only [Act.put, List.setIfInBounds_toArray, List.set_cons_zero, List.set_cons_succ]
      refine Rnd.take (i := 19) (v := ?_) rfl (by kernel_rfl) (by kernel_rfl) (by kernel_rfl) (fun _ _ _ h => h) (.inl ⟨by rfl, ?_⟩) (by assumption) ?_
      rotate_left
      · (intro w9 hS9; (try dsimp only at hS9); go_simp; try with_reducible rfl)
      try simp only [Act.put, List.setIfInBounds_toArray, List.set_cons_zero, List.set_cons_succ]
      refine wpAnyH_done (by kernel_rfl) ?_ _
      have HR3 := Lib.hid hR3
      have HB8 := Lib.hid hB8
      have HS3 : Hid (s2.map Sl.view = s3.map Sl.view) := by show _ = _; rw [HS2.out, hs3, HG.out]
      have HM3 : Hid (m2.map Mv.view = m3.map Mv.view) := by show _ = _; rw [HM2.out, hm3]; rfl
      have HE1 := Lib.hid (same35_is pS pS3 s2 s3 N2 s3.length cS cS3 HS3.out w8 HN2.out rfl (HR.out.at.1.below HB8.out (Nat.le_refl _)) HR3.out.at.1 (HOS.out.n HS2.out HUS2.out) (fun s hs => (HR3.out.ts s hs).1) (by omega))
      have hm52 : M2 ≤ 52 := by have h3 := congrArg List.length HM2.out; rw [List.length_map] at h3; have := HLM2.out; have := Po.mvs_len f TT ev ti 26; omega
      have HE2 := Lib.hid (fun w h1 h2 => moved_is pM pM3 m2 m3 M2 m3.length cM cM3 HM3.out w HLM2.out rfl h1 h2 (fun m hm => Po.okU.n (HR.out.tm m hm) (Awk.okM HM2.out (Po.mvs_okU HGF.out TT ev ti) m hm)) (fun m hm => (HR3.out.tm m hm).1) (by omega))
      clear hR3 hs3 hm3 hb9 hB8
      go_wp2_with (go_at_call 22; refine HE1.out.mono ?_)
      first | rintro e w9 rfl hb10 | rintro e w9 ⟨rfl, hb10⟩
      have HB9 : Hid (Below w6.heap.size w6 w9) := below_next HB8.out hb10
      go_wp2_with (go_at_call 33; refine (HE2.out _ (HR.out.mat.1.below HB9.out (Nat.le_refl _)) (HR3.out.mat.1.below hb10 (Nat.le_refl _))).mono ?_)
      first | rintro e wx rfl hb11 | rintro e wx ⟨rfl, hb11⟩
      have hbz : Below w.heap.size w wx := below_next (HB7.out.trans (HB9.out.mono HB7.out.size)) hb11
      clear hb11
      go_wp2_with fail
      go_ret
      exact ⟨rfl, hbz⟩
end Go.Proofs.Ytpnpgjjbincigaa
