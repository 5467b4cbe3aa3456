/- Plain laws of a sync that is done again. The walk of PoolKeeps: the law returns true. (Printed by gen_kee.py.) -/
import Derived.Test.YtpnpgjjbincigaaDel
namespace Go.Proofs.Ytpnpgjjbincigaa
open Go.RowKit
set_option linter.unusedVariables false

theorem Po.rowsOf_succ (f : Nat → Option Po.V) (k : Nat) : Po.rowsOf f (k + 1) = Po.rowsOf f k ++ (f k).toList := by
  unfold Po.rowsOf
  rw [List.range_succ, List.flatMap_append]
  simp
theorem Po.rows_ok {f : Nat → Option Po.V} (hf : Po.Good f) (hn : ∀ n v, n < 26 → f n = some v → Po.num v.2.2.1 v.2.2.2.1 = true) : Po.okVs (Po.rowsOf f 26) = true := by
  refine Po.okVs_of _ (fun s hs => ?_) ?_
  · obtain ⟨n, hlt, h⟩ := Po.rows_mem.1 hs
    refine ⟨?_, hn n s hlt h⟩
    rw [hf n s hlt h]
    exact Po.ke_tgt n hlt
  · have : ∀ k, k ≤ 26 → ((Po.rowsOf f k).map Po.vk).Pairwise (· < ·) := fun k => by
      induction k with
      | zero => intro _; exact List.Pairwise.nil
      | succ k ih =>
        intro hk
        rw [Po.rowsOf_succ, List.map_append]
        refine List.pairwise_append.2 ⟨ih (by omega), ?_, ?_⟩
        · cases f k <;> simp
        · intro a ha b hb
          obtain ⟨s, hs, rfl⟩ := List.mem_map.1 ha
          obtain ⟨t, ht, rfl⟩ := List.mem_map.1 hb
          obtain ⟨n, hlt, h⟩ := Po.rows_mem.1 hs
          have ht2 : f k = some t := by
            cases hk2 : f k with
            | none => rw [hk2] at ht; simp at ht
            | some v => rw [hk2] at ht; simp at ht; rw [ht]
          show Po.ky (Po.vu s) < Po.ky (Po.vu t)
          rw [hf n s (by omega) h, hf k t (by omega) ht2]
          exact Po.tgt_lt n k hlt (by omega)
    exact this 26 (Nat.le_refl _)
theorem Po.ok_num {f : Nat → Option Po.V} (hok : Po.okVs (Po.rowsOf f 26) = true) : ∀ n v, n < 26 → f n = some v → Po.num v.2.2.1 v.2.2.2.1 = true :=
  fun n v hn h => ((Po.okVs_mem _ hok).1 v (Po.rows_mem.2 ⟨n, hn, h⟩)).2
theorem Po.fS_ok {f : Nat → Option Po.V} (hf : Po.Good f) (hok : Po.okVs (Po.rowsOf f 26) = true) (T : List Po.U) (ev ti : Int) (hn : Po.num ev ti = true) : Po.okVs (Po.rowsOf (Po.fS f T ev ti) 26) = true :=
  Po.rows_ok (Po.fS_good hf T ev ti) (fun n v hlt h => by
    unfold Po.fS at h
    cases ha : f n with
    | none =>
      cases hb : Po.tT T n with
      | none => rw [ha, hb] at h; cases h
      | some t => rw [ha, hb] at h; cases h; exact hn
    | some a => rw [ha] at h; cases h; exact Po.ok_num hok n a hlt ha)
theorem Po.oS_again (ev ti : Int) (a : Option Po.V) (b : Option Po.U) : (Po.oS ev ti (Po.oS ev ti a b).head? b).head? = (Po.oS ev ti a b).head? := by
  rcases a with _ | ⟨aj, al, ae, at', an⟩ <;> rcases b with _ | b
  · rfl
  · simp [Po.oS]
  · simp [Po.oS]
  · simp only [Po.oS, List.head?_cons, Option.isSome_some, and_true]
    by_cases h : ae = ev ∧ at' = ti ∧ an = false
    · rw [if_pos h, if_pos ⟨h.1, h.2.1, rfl⟩]
    · rw [if_neg h, if_neg (fun hh => by cases hh.2.2)]
theorem Po.fS_again (f : Nat → Option Po.V) (T : List Po.U) (ev ti : Int) : Po.fS (Po.fS f T ev ti) T ev ti = Po.fS f T ev ti := funext fun n => Po.oS_again ev ti (f n) (Po.tT T n)
theorem Po.oM_again (ev ti : Int) (a : Option Po.V) (b : Option Po.U) : Po.oM ev ti (Po.oS ev ti a b).head? b = (Po.oM ev ti a b).filter fun m => !(m.1 != 3) := by
  rcases a with _ | ⟨aj, al, ae, at', an⟩ <;> rcases b with _ | b
  · rfl
  · simp [Po.oS, Po.oM]
  · cases an <;> simp [Po.oS, Po.oM]
  · simp only [Po.oS, Po.oM, List.head?_cons, Option.isSome_some, and_true]
    by_cases h : ae = ev ∧ at' = ti ∧ an = false
    · obtain ⟨rfl, rfl, rfl⟩ := h
      simp
    · simp only [if_neg h]
      rw [if_neg (fun hh => by cases hh.2.2)]
      cases an <;> simp
theorem Po.mvs_again (f : Nat → Option Po.V) (T : List Po.U) (ev ti : Int) (k : Nat) : Po.mvs (Po.fS f T ev ti) T ev ti k = (Po.mvs f T ev ti k).filter fun m => !(m.1 != 3) := by
  induction k with
  | zero => rfl
  | succ k ih =>
    rw [Po.mvs_succ, Po.mvs_succ, List.filter_append, ih, ← Po.oM_again]
    rfl
/-- what is wanted as it is stays, and nothing is told of it -/
theorem Po.keeps {f : Nat → Option Po.V} (hf : Po.Good f) (T : List Po.U) (ev ti : Int) {n : Nat} (hn : n < 26) {v : Po.V} (h : f n = some v) (h1 : v.2.2.1 = ev) (h2 : v.2.2.2.1 = ti) (h3 : v.2.2.2.2 = false) (h4 : Po.tgt n ∈ T) :
    Po.fS f T ev ti n = some v ∧ ∀ m ∈ Po.mvs f T ev ti 26, m.2 ≠ Po.tgt n := by
  have ht : Po.tT T n = some (Po.tgt n) := if_pos h4
  obtain ⟨vj, vl, ve, vt, vn⟩ := v
  dsimp only at h1 h2 h3
  subst h1 h2 h3
  refine ⟨?_, fun m hm e => ?_⟩
  · unfold Po.fS
    rw [h, ht]
    simp [Po.oS]
  · unfold Po.mvs at hm
    obtain ⟨k, hk, hm⟩ := List.mem_flatMap.1 hm
    have hk := List.mem_range.1 hk
    have e2 := Po.oM_okU hf T _ _ k hk m hm
    obtain rfl := Po.tgt_inj k n hk hn (e2.symm.trans e)
    rw [h, ht] at hm
    simp [Po.oM] at hm
theorem Po.kept_view {ms : List Mv} {n : Nat} (hn : ms.length = n) : (Mv.kept ms n).map Mv.view = (ms.map Mv.view).filter fun m => !(m.1 != 3) := by
  unfold Mv.kept
  rw [List.take_of_length_le (by omega), List.filter_map]
  rfl
theorem OwnR.far {α : Type} {S : Rec α} {B : Nat} {u : Value} {k : List α} {w w' : World} {row : Option Nat} (h : OwnR S B u k w) (hne : ∀ g, u.ownBlock = some g → row ≠ some g) (hg : w.grownBy w' row) : OwnR S B u k w' := by
  obtain ⟨h1, h2⟩ := h
  refine ⟨h1, ?_⟩
  rcases h2 with h2 | ⟨g', cap, cur, hv, hb, hh, r⟩
  · exact .inl h2
  · refine .inr ⟨g', cap, cur, hv, hb, (hg.block g' (lt_of_heap hh) (fun e => ?_)).trans hh, r⟩
    subst hv
    exact hne g' rfl e.symm
/-- DeleteFunc at moves of the call's own -/
theorem delM_any (B n c : Nat) (p : Option Addr) (l : List Mv) (w : World) (h : OwnR mvR B (.slice p n c) l w) (hl : n ≤ 1000000) :
    Calls Try.prog 35 #[.slice p n c, .func (.func 36) #[] #[]] w fun e w' => (∃ m d, e = .returned (.slice p m d) ∧ OwnR mvR B (.slice p m d) (Mv.kept l n) w' ∧ (Mv.kept l n).length = m) ∧ w.grownBy w' (Value.ownBlock (.slice p n c)) := by
  obtain ⟨p', c', e, h1, h2, h3⟩ := h.shape
  simp only [Value.slice.injEq] at e
  obtain ⟨rfl, rfl, rfl⟩ := e
  rcases h3 with rfl | ⟨g, rfl, _, _⟩
  · have H := Lib.hid h
    have HI := Lib.hid (idxK2_at p [] 0 c (fun _ => false) (-1) w rfl (.inl rfl) (by decide) (fun i hi => absurd hi (Nat.not_lt_zero _)) (fun k hk => absurd hk (Nat.not_lt_zero _)) (fun _ => rfl))
    clear h
    go_enter Try.func35, Try.ntmps35
    go_wp2_with (go_at_call 65; refine HI.out.mono ?_)
    first | rintro e w1 rfl hb1 | rintro e w1 ⟨rfl, hb1⟩
    go_wp2_with fail
    go_ret
    exact ⟨⟨0, c, rfl, H.out.below hb1 (Nat.le_refl _), rfl⟩, gb_of hb1 _⟩
  · refine (delM_is B g l.length c l w ⟨h, rfl⟩ hl h1 (by unfold maxLen at h2; omega)).mono ?_
    rintro e w' ⟨⟨m, rfl, hM⟩, hG⟩
    exact ⟨⟨m, c, rfl, hM.1, hM.2⟩, hG⟩

set_option maxHeartbeats 6400000 in
set_option maxRecDepth 100000 in
theorem walk_PoolKeeps (a0 : Option Addr) (xs0 : List Sm5) (len0 cap0 : Nat) (a1 : Option Addr) (xs1 : List UInt8) (len1 cap1 : Nat) (n2 : Int) (w : World) (hlen0 : xs0.length = len0) (hAt0 : Po.SmAt a0 xs0 w) (hlc0 : len0 ≤ cap0) (hmax0 : cap0 ≤ maxLen) (hlen1 : xs1.length = len1) (hAt1 : Po.U8At a1 xs1 w) (hlc1 : len1 ≤ cap1) (hmax1 : cap1 ≤ maxLen) (wn2 : (Lit.int .u8 n2).wf = true) :
    Calls Try.prog 10 #[.slice a0 len0 cap0, .slice a1 len1 cap1, .int .u8 n2] w fun e w' => e = .returned (.bool true) ∧ Below w.heap.size w w' := by
  obtain ⟨y, hy, rfl⟩ := row.wf_u8 wn2
  obtain ⟨⟨ev, ti⟩, hpl⟩ : ∃ x, Po.pl y = x := ⟨_, rfl⟩
  have HAW := Lib.hid (fun w => awake_is w)
  have HMD := Lib.hid (fun w hA => made_is5 a0 xs0 len0 cap0 w hlen0 hlc0 hA (by omega))
  have HWD := Lib.hid (fun w hA => wanted_is a1 xs1 len1 cap1 w hlen1 hlc1 hA (by omega))
  have HPLN := Lib.hid (fun w => plans_is y (y : Int) rfl hy ev ti hpl w)
  have HA0 := Lib.hid hAt0
  have HA1 := Lib.hid hAt1
  have HNUM : Hid (Po.num ev ti = true) := by have := Po.pl_num y; rw [hpl] at this; exact this
  obtain ⟨f, hf⟩ : ∃ f, Po.fmade xs0 = f := ⟨_, rfl⟩
  obtain ⟨TT, hTT⟩ : ∃ TT, Po.want xs1 = TT := ⟨_, rfl⟩
  have HGF : Hid (Po.Good f) := by show Po.Good f; rw [← hf]; exact Po.fmade_good xs0
  have HTS : Hid (Po.Small TT) := by show Po.Small TT; rw [← hTT]; exact Po.want_small xs1
  have HOK : Hid (Po.okVs (Po.rowsOf f 26) = true) := by show _ = _; rw [← hf]; exact Po.made_ok xs0
  have hmr : Po.made xs0 26 = Po.rowsOf f 26 := by rw [← hf]; rfl
  have HWLEN : Hid (TT.length ≤ 30) := by show _ ≤ _; rw [← hTT]; unfold Po.want; rw [List.length_map, List.length_take]; omega
  rw [hmr] at HMD
  rw [hTT] at HWD
  clear hf hTT hmr hAt0 hAt1 hlen0 hlen1 hlc0 hlc1 hmax0 hmax1 wn2 hpl hy
  go_enter Try.func10, Try.ntmps10
  go_wp2_with (go_at_call 13; refine (HAW.out _).mono ?_)
  first | rintro e w1 rfl hb1 | rintro e w1 ⟨rfl, hb1⟩
  go_wp2_with (go_at_call 17; refine (HMD.out _ (HA0.out.below hb1 (Nat.le_refl _))).mono ?_)
  first | rintro e w2 v ss rfl hO hv hb2 | rintro e w2 ⟨⟨v, ss, rfl, hO, hv⟩, hb2⟩
  have hb3 := below_next hb1 hb2
  obtain ⟨pv, cv, rfl, hcv1, hcv2⟩ := hO.form
  obtain ⟨N, hN⟩ : ∃ N, ss.length = N := ⟨_, rfl⟩
  rw [hN] at hO hcv1 ⊢
  have HO2 := Lib.hid (hO.lift hb1.size)
  have HV := Lib.hid hv
  have hN26 : N ≤ 26 := by rw [← hN, ← List.length_map (f := Sl.view), hv]; exact Po.rows_len _ _
  have HN := Lib.hid hN
  have HB3 := Lib.hid hb3
  clear hO hv hN hb1 hb2 HMD HAW HA0
  go_wp2_with (go_at_call 26; refine (HWD.out _ (HA1.out.below hb3 (Nat.le_refl _))).mono ?_)
  first | rintro e w4 v1 ts rfl hT hvt hb4 | rintro e w4 ⟨⟨v1, ts, rfl, hT, hvt⟩, hb4⟩
  obtain ⟨pt, ct, rfl⟩ := hT.form
  obtain ⟨M, hM⟩ : ∃ M, ts.length = M := ⟨_, rfl⟩
  rw [hM] at hT ⊢
  have hb5 := below_next hb3 hb4
  have HT4 := Lib.hid (hT.lift hb3.size)
  have HVT := Lib.hid hvt
  have HM := Lib.hid hM
  have hM30 : M ≤ 30 := by
    rw [← hM, ← List.length_map (f := Po.tv), hvt]
    exact HWLEN.out
  clear hT hvt hM hb3 HWD HA1
  have HB5 := Lib.hid hb5
  have HO4 : Hid (Po.Own w.heap.size (.slice pv N cv) ss w4) := HO2.out.below hb4 (Nat.le_refl _)
  clear hb4 HO2
  go_wp2_with (go_at_call 27; refine (HPLN.out _).mono ?_)
  first | rintro e w5 rfl hb6 | rintro e w5 ⟨rfl, hb6⟩
  have HB6 := Lib.hid (below_next hb5 hb6)
  have HO5 : Hid (Po.Own w.heap.size (.slice pv N cv) ss w5) := HO4.out.below hb6 (Nat.le_refl _)
  have HT5 : Hid (OwnTs w.heap.size (.slice pt M ct) ts w5) := HT4.out.below hb6 (Nat.le_refl _)
  have HUS := Lib.hid (Po.rows_okU HGF.out)
  have HUT := Lib.hid (Po.small_okU HTS.out)
  have HSY := Lib.hid (sync_is pv pt ss ts N cv M ct ev ti 0 _ _ (by rw [HV.out, HVT.out]; exact Po.rows_sync HGF.out HOK.out HTS.out ev ti HNUM.out) w5 HN.out HM.out HO5.out.at.1 HT5.out.pos.1 (HO5.out.any HV.out HUS.out) (fun t ht => Po.okU.any ⟨(HT5.out.2 t ht).1, (HT5.out.2 t ht).2⟩ (Awk.okT HVT.out HUT.out t ht)) (by omega) (by omega))
  clear hb5 hb6 HO4 HT4 HPLN
  go_wp2_with (go_at_call 25; refine HSY.out.mono ?_)
  first | rintro e w6 v1 v2 s2 m2 rfl hR hs hm hb7 | rintro e w6 v1 v2 rfl s2 m2 hR hs hm hb7 | rintro e w6 ⟨⟨v1, v2, s2, m2, rfl, hR, hs, hm⟩, hb7⟩
  obtain ⟨⟨pS, cS, rfl, hcS, hcS2⟩, pM, cM, rfl, hcM, hcM2⟩ := hR.form
  obtain ⟨N2, hN2⟩ : ∃ N2, s2.length = N2 := ⟨_, rfl⟩
  obtain ⟨M2, hM2⟩ : ∃ M2, m2.length = M2 := ⟨_, rfl⟩
  rw [hN2, hM2] at hR
  rw [hN2] at hcS ⊢
  rw [hM2] at hcM ⊢
  obtain ⟨g, hg⟩ : ∃ g, Po.fS f TT ev ti = g := ⟨_, rfl⟩
  rw [hg] at hs
  have HGG : Hid (Po.Good g) := by show Po.Good g; rw [← hg]; exact Po.fS_good HGF.out TT ev ti
  have HG := Lib.hid hg
  have hN226 : N2 ≤ 26 := by rw [← hN2, ← List.length_map (f := Sl.view), hs]; exact Po.rows_len _ _
  have HB7 := Lib.hid (below_next HB6.out hb7)
  have HR := Lib.hid hR
  have HS2 := Lib.hid hs
  have HM2 : Hid (m2.map Mv.view = Po.mvs f TT ev ti 26) := hm
  have HN2 := Lib.hid hN2
  have HLM2 := Lib.hid hM2
  have HO6 : Hid (Po.Own w.heap.size (.slice pv N cv) ss w6) := HO5.out.below hb7 (Nat.le_refl _)
  have HT6 : Hid (OwnTs w.heap.size (.slice pt M ct) ts w6) := HT5.out.below hb7 (Nat.le_refl _)
  have HOS : Hid (Po.Own w5.heap.size (.slice pS N2 cS) s2 w6) := ⟨hR.rs, hR.ts⟩
  have HUS2 := Lib.hid (Po.rows_okU HGG.out)
  have HF1 := Lib.hid (HO6.out.n HV.out HUS.out)
  have HF2 := Lib.hid (HOS.out.n HS2.out HUS2.out)
  have HFT : Hid (∀ s ∈ ts, s.ls.length = s.n ∧ s.n ≤ maxLen) := fun t ht => ⟨(HT6.out.2 t ht).1, by have h9 := (Awk.okT HVT.out HUT.out t ht).2.2; have h8 := (HT6.out.2 t ht).1; have h7 : t.ls.length ≤ 1000 := h9; unfold maxLen; omega⟩
  have HS56 := hb7.size
  clear hg hR hs hm hb7 hN2 hM2 HSY HO5 HT5
  have HB7w := Lib.hid HB7.out
  have HB5w : Hid (w.heap.size ≤ w5.heap.size) := HB6.out.size
  have HB56 : Hid (w5.heap.size ≤ w6.heap.size) := HS56
  have HOG := Lib.hid (Po.fS_ok HGF.out HOK.out TT ev ti HNUM.out)
  rw [HG.out] at HOG
  have HSY2 := Lib.hid (fun w (hA : Po.At pS s2 w) hT => sync_is pS pt s2 ts N2 cS M ct ev ti 0 _ _ (by rw [HS2.out, HVT.out]; exact Po.rows_sync HGG.out HOG.out HTS.out ev ti HNUM.out) w HN2.out HM.out hA hT (HOS.out.any HS2.out HUS2.out) (fun t ht => Po.okU.any ⟨(HT6.out.2 t ht).1, (HT6.out.2 t ht).2⟩ (Awk.okT HVT.out HUT.out t ht)) (by omega) (by omega))
  have hm52 : M2 ≤ 52 := by have h3 := congrArg List.length HM2.out; rw [List.length_map] at h3; have := HLM2.out; have := Po.mvs_len f TT ev ti 26; omega
  have HFM : Hid (∀ m ∈ m2, m.t.ls.length = m.t.n ∧ m.t.n ≤ maxLen) := fun m hm => Po.okU.n (HR.out.tm m hm) (Awk.okM HM2.out (Po.mvs_okU HGF.out TT ev ti) m hm)
  go_wp2_with fail
  go_loopw [45] (fun i wr => ∃ k : Nat, k ≤ N ∧ i = .int .i64 (k : Int) ∧ Hid (Below w6.heap.size w6 wr)) (fun i _ => N - (intOf i).toNat)
  case atStart => exact ⟨0, Nat.zero_le _, rfl, Below.refl _ _⟩
  case round =>
    obtain ⟨wj, rfl⟩ : ∃ wo : World, wo = wr := ⟨_, rfl⟩
    obtain ⟨k, hk, rfl, HBJ⟩ := hrel
    have hsj := HBJ.out.size
    by_cases hlt : k < N
    · have hkl : k < ss.length := by rw [HN.out]; exact hlt
      have HOJ : Hid (Po.Own w.heap.size (.slice pv N cv) ss wj) := HO6.out.below HBJ.out (Nat.le_refl _)
      obtain ⟨b, oo, rfl, hc⟩ := HOJ.out.at.1.cells (by omega)
      obtain ⟨d0, d1, d2, d3, d4⟩ := hc k hkl
      have hls := (HOJ.out.2 ss[k] (List.getElem_mem _)).at
      obtain ⟨f1, f2⟩ := HF1.out ss[k] (List.getElem_mem _)
      have hvs : Sl.view ss[k] ∈ Po.rowsOf f 26 := by rw [← HV.out]; exact List.mem_map_of_mem (List.getElem_mem _)
      obtain ⟨n, hn26, hfn⟩ := Po.rows_mem.1 hvs
      have hvk : Po.tv ss[k].t = Po.tgt n := HGF.out n _ hn26 hfn
      obtain ⟨s, hs⟩ : ∃ s, ss[k] = s := ⟨_, rfl⟩
      rw [hs] at d0 d1 d2 d3 d4 hls f1 f2 hvk hfn
      obtain ⟨⟨sj, sp, sn, sc, sl⟩, sev, sti, sen⟩ := s
      dsimp only at d0 d1 d2 d3 d4 hls f1 f2 hvk
      have HVK := Lib.hid hvk
      have HFN := Lib.hid hfn
      have HF1s := Lib.hid f1
      have HF2s := Lib.hid f2
      have n1 : (0 : Int) ≤ (k : Int) := by omega
      have n2 : (k : Int) < (N : Int) := by omega
      have HBA : Hid (Below wj.heap.size wj (wj.alloc (.cells #[.string sj, .slice sp sn sc, .int .i64 sev, .int .i64 sti, .bool sen] 33))) := (Below.refl _ _).alloc (Nat.le_refl _) _
      have HBW : Hid (Below w6.heap.size w6 (wj.alloc (.cells #[.string sj, .slice sp sn sc, .int .i64 sev, .int .i64 sti, .bool sen] 33))) := HBJ.out.alloc hsj _
      have HLB : Hid (Lab.At sp sl (wj.alloc (.cells #[.string sj, .slice sp sn sc, .int .i64 sev, .int .i64 sti, .bool sen] 33))) := hls.below HBA.out (Nat.le_refl _)
      have HKX := Lib.hid (alloc_new wj (.cells #[.string sj, .slice sp sn sc, .int .i64 sev, .int .i64 sti, .bool sen] 33))
      clear hs hc hls f1 f2 hvs hvk hfn HOJ
      cases sen
      · by_cases hev : sev = ev
        · by_cases hti : sti = ti
          · subst hev hti
            have qe : (sev != sev) = false := by simp
            have qt : (sti != sti) = false := by simp
            have HHA := Lib.hid (fun b hb => has_is pt ts ⟨sj, sp, sn, sc, sl⟩ M ct b hb (wj.alloc (.cells #[.string sj, .slice sp sn sc, .int .i64 sev, .int .i64 sti, .bool false] 33)) HM.out (HT6.out.pos.1.below HBW.out (Nat.le_refl _)) HLB.out HFT.out HF1s.out HF2s.out (by omega))
            by_cases hin : Po.tgt n ∈ TT
            · have HHB := Lib.hid (HHA.out true (by rw [HVT.out]; show _ ↔ Po.tv ⟨sj, sp, sn, sc, sl⟩ ∈ TT; rw [HVK.out]; simp [hin]))
              clear HHA
              go_wp2_with (go_at_call 31; refine HHB.out.mono ?_)
              first | rintro e w7 rfl hb7 | rintro e w7 ⟨rfl, hb7⟩
              have HB7j : Hid (Below wj.heap.size wj w7) := HBA.out.trans (hb7.mono (by simp))
              have HB67 : Hid (Below w6.heap.size w6 w7) := HBJ.out.trans (HB7j.out.mono hsj)
              have hk7 := below_kept hb7 HKX.out (by simp)
              have x0 : w7.cell? ⟨wj.heap.size, 0, none⟩ = some (.string sj) := by rw [Lib.cell_of_heap hk7]; rfl
              have x1 : w7.cell? ⟨wj.heap.size, 1, none⟩ = some (.slice sp sn sc) := by rw [Lib.cell_of_heap hk7]; rfl
              have hlt7 : wj.heap.size < w7.heap.size := lt_of_heap hk7
              have HX7 : Hid (Po.Hd wj.heap.size ⟨sj, sp, sn, sc, sl⟩ w7) := ⟨hlt7, x0, x1⟩
              have HLB7 : Hid (Lab.At sp sl w7) := HLB.out.below hb7 (by simp)
              obtain ⟨hgn, hno⟩ := Po.keeps HGF.out TT sev sti hn26 HFN.out rfl rfl rfl hin
              rw [HG.out] at hgn
              obtain ⟨q2, hq2, hql, hqv⟩ := Po.rows_some HGG.out n hn26 _ hgn
              have HL2 := Lib.hid (lfind_is pS s2 ⟨sj, sp, sn, sc, sl⟩ N2 cS (q2 : Int) true (by rw [HS2.out, HVK.out]; exact hq2) w7 HN2.out (HOS.out.at.1.below HB67.out (Nat.le_refl _)) HLB7.out HF2.out HF1s.out HF2s.out (by omega))
              obtain ⟨b2, o2, rfl, hb2, _, _, z4⟩ := HOS.out.at.1.cell35 HS2.out hql
              rw [hqv] at z4
              dsimp only [Sl.view] at z4
              have HZ4 := Lib.hid z4
              have m3 : (0 : Int) ≤ (q2 : Int) := by omega
              have m4 : (q2 : Int) < (N2 : Int) := by have := HN2.out; have h3 := congrArg List.length HS2.out; rw [List.length_map] at h3; omega
              have HNO := Lib.hid hno
              clear hb7 hk7 z4 hq2 hqv hgn hno HHB
              go_wp2_with (go_at_call 28; refine HL2.out.mono ?_)
              first | rintro e w8 rfl hb8 | rintro e w8 ⟨rfl, hb8⟩
              have HB68 : Hid (Below w6.heap.size w6 w8) := below_next HB67.out hb8
              have HX8 : Hid (Po.Hd wj.heap.size ⟨sj, sp, sn, sc, sl⟩ w8) := HX7.out.below hb8
              have HLB8 : Hid (Lab.At sp sl w8) := HLB7.out.below hb8 (Nat.le_refl _)
              have z4 := (HB68.out.cell (p := ⟨b2, o2 + q2 * 5 + 4, none⟩) hb2).trans HZ4.out
              have hb28 : b2 < w8.heap.size := by have := HB68.out.size; omega
              have HCK := Lib.hid (keepsC_is pM m2 ⟨sj, sp, sn, sc, sl⟩ wj.heap.size M2 cM false ⟨fun h => (nomatch h), fun ⟨m, hm, e⟩ => absurd (e.trans HVK.out) (HNO.out (Mv.view m) (by rw [← HM2.out]; exact List.mem_map_of_mem hm))⟩ w8 HLM2.out (HR.out.mat.1.below HB68.out (Nat.le_refl _)) HX8.out HLB8.out HFM.out HF1s.out HF2s.out (by omega))
              clear hb8 HL2 x0 x1 HX7 HLB7
              go_wp2_with (go_at_call 29; refine HCK.out.mono ?_)
              first | rintro e w9 rfl hb9 | rintro e w9 ⟨rfl, hb9⟩
              have HB69 : Hid (Below w6.heap.size w6 w9) := below_next HB68.out hb9
              clear hb9 HCK z4
              go_wp2_with fail
              go_roundw
              case rel => exact ⟨k + 1, by omega, by go_num, HB69.out⟩
              case measure => simp [intOf]; omega
            · have HHB := Lib.hid (HHA.out false (by rw [HVT.out]; show _ ↔ Po.tv ⟨sj, sp, sn, sc, sl⟩ ∈ TT; rw [HVK.out]; simp [hin]))
              clear HHA
              go_wp2_with (go_at_call 31; refine HHB.out.mono ?_)
              first | rintro e w7 rfl hb7 | rintro e w7 ⟨rfl, hb7⟩
              have HB67 : Hid (Below w6.heap.size w6 w7) := HBW.out.trans (hb7.mono (by omega))
              clear hb7 HHB
              go_wp2_with fail
              go_roundw
              case rel => exact ⟨k + 1, by omega, by go_num, HB67.out⟩
              case measure => simp [intOf]; omega
          · have qe : (sev != sev) = false := by simp
            have qe2 : (sev != ev) = false := by rw [hev]; simp
            have qt : (sti != ti) = true := by simpa using hti
            clear hev
            go_wp2_with fail
            go_roundw
            case rel => exact ⟨k + 1, by omega, by go_num, HBW.out⟩
            case measure => simp [intOf]; omega
        · have qe : (sev != ev) = true := by simpa using hev
          go_wp2_with fail
          go_roundw
          case rel => exact ⟨k + 1, by omega, by go_num, HBW.out⟩
          case measure => simp [intOf]; omega
      · go_wp2_with fail
        go_roundw
        case rel => exact ⟨k + 1, by omega, by go_num, HBW.out⟩
        case measure => simp [intOf]; omega
    · obtain rfl : k = N := by omega
      have n2 : (k : Int) ≤ (k : Int) := Int.le_refl _
      have HS2J : Hid (Po.At pS s2 wj) := HOS.out.at.1.below HBJ.out (Nat.le_refl _)
      have HTJ : Hid (Po.TgAt pt ts wj) := HT6.out.pos.1.below HBJ.out (Nat.le_refl _)
      go_wp2_with (go_at_call 25; refine (HSY2.out _ HS2J.out HTJ.out).mono ?_)
      first | rintro e w7 v3 v4 s3 m3 rfl hR3 hs3 hm3 hb9 | rintro e w7 v3 v4 rfl s3 m3 hR3 hs3 hm3 hb9 | rintro e w7 ⟨⟨v3, v4, s3, m3, rfl, hR3, hs3, hm3⟩, hb9⟩
      obtain ⟨⟨pS3, cS3, rfl, hcS3, _⟩, pM3, cM3, rfl, hcM3, _⟩ := hR3.form
      have HB7 : Hid (Below w6.heap.size w6 w7) := below_next HBJ.out hb9
      have HR3 := Lib.hid hR3
      have HBF : Hid (Below w.heap.size w w7) := HB7w.out.trans (HB7.out.mono HB7w.out.size)
      have HB75 : Hid (w5.heap.size ≤ w7.heap.size) := by have h1 := HB7.out.size; have h2 := HB56.out; show _ ≤ _; omega
      have HS3 : Hid (s3.map Sl.view = s2.map Sl.view) := by show _ = _; rw [hs3, HS2.out, ← HG.out, Po.fS_again]
      have HM3 : Hid (m3.map Mv.view = (Mv.kept m2 M2).map Mv.view) := by show _ = _; rw [hm3, Po.kept_view HLM2.out, HM2.out, ← HG.out]; exact Po.mvs_again f TT ev ti 26
      have hs3 : s3.length = N2 := by have h3 := congrArg List.length HS3.out; rw [List.length_map, List.length_map] at h3; have := HN2.out; omega
      have hR7 : Po.Rows w5.heap.size (.slice pS N2 cS) (.slice pM M2 cM) s2 m2 w7 := HR.out.below HB7.out (Nat.le_refl _)
      have HR7 := Lib.hid hR7
      have HDL := Lib.hid (delM_any w5.heap.size M2 cM pM m2 w7 hR7.rm (by omega))
      have hsz6 : w6.heap.size ≤ wj.heap.size := hsj
      have HFAR : Hid (∀ g, Value.ownBlock (.slice pM3 m3.length cM3) = some g → Value.ownBlock (.slice pM M2 cM) ≠ some g) := fun g h1 h2 => by
        have k1 := (hR3.rm.own_lt g h1).1
        have k2 := (HR.out.rm.own_lt g h2).2
        omega
      clear hR3 hm3 hb9 hR7 HSY2
      go_wp2_with (go_at_call 35; refine HDL.out.mono ?_)
      first | rintro e w8 m d rfl hM hml hG8 | rintro e w8 ⟨⟨m, d, rfl, hM, hml⟩, hG8⟩
      have hrm := HR7.out.rm
      have HA3 : Hid (Po.At pS3 s3 w8) := ⟨(HR3.out.rs.grown2 (by decide) hrm hG8).lies slOk, fun s hs => ((HR3.out.ts s hs).grown (by decide) hrm hG8).at⟩
      have HA2 : Hid (Po.At pS s2 w8) := ⟨(HR7.out.rs.grown2 (by decide) hrm hG8).lies slOk, fun s hs => ((HR7.out.ts s hs).grown (by decide) hrm hG8).at⟩
      have HMA3 : Hid (Po.MAt pM3 m3 w8) := ⟨(HR3.out.rm.far HFAR.out hG8).lies mvOk, fun s hs => ((HR3.out.tm s hs).grown (by decide) hrm hG8).at⟩
      have hkm : ∀ x ∈ Mv.kept m2 M2, x ∈ m2 := fun x hx => List.mem_of_mem_take (List.mem_filter.1 hx).1
      have HMA2 : Hid (Po.MAt pM (Mv.kept m2 M2) w8) := ⟨hM.lies mvOk, fun s hs => ((HR7.out.tm s (hkm s hs)).grown (by decide) hrm hG8).at⟩
      have HB8 : Hid (Below w5.heap.size w7 w8) := (Below.refl _ _).grown hG8 (by have := HB7.out.size; have := HR.out.rm; have h9 := HB75.out; omega) (fun q hq => (hrm.own_lt q hq).1)
      have h3n := congrArg List.length HM3.out
      rw [List.length_map, List.length_map] at h3n
      have HE1 := Lib.hid (same35_is pS3 pS s3 s2 N2 N2 cS3 cS HS3.out w8 hs3 HN2.out HA3.out HA2.out (fun s hs => ⟨(HR3.out.ts s hs).1, by have h9 : Po.okU (Po.tv s.t) := HUS2.out (Sl.view s) (by rw [← HS2.out, ← HS3.out]; exact List.mem_map_of_mem hs); exact (Po.okU.n (HR3.out.ts s hs) h9).2⟩) (fun s hs => (HR7.out.ts s hs).1) (by omega))
      have hkl : (Mv.kept m2 M2).length ≤ M2 := by unfold Mv.kept; exact Nat.le_trans (List.length_filter_le _ _) (by rw [List.length_take]; omega)
      have HE2 := Lib.hid (fun w h1 h2 => moved_is pM3 pM m3 (Mv.kept m2 M2) m3.length m cM3 d HM3.out w rfl hml h1 h2 (fun x hx => ⟨(HR3.out.tm x hx).1, by have h9 : Mv.view x ∈ (Mv.kept m2 M2).map Mv.view := (by rw [← HM3.out]; exact List.mem_map_of_mem hx); obtain ⟨y, hy, e⟩ := List.mem_map.1 h9; have h8 := HFM.out y (hkm y hy); have h7 := (HR3.out.tm x hx).1; have h6 : x.t.ls = y.t.ls := (congrArg (fun v => v.2.2) e).symm; rw [h6] at h7; omega⟩) (fun x hx => (HFM.out x (hkm x hx)).1) (by omega))
      clear hM hG8 hrm h3n
      go_wp2_with (go_at_call 22; refine HE1.out.mono ?_)
      first | rintro e w9 rfl hb10 | rintro e w9 ⟨rfl, hb10⟩
      have HB9 := Lib.hid hb10
      clear hb10
      go_wp2_with (go_at_call 33; refine (HE2.out _ (HMA3.out.below HB9.out (Nat.le_refl _)) (HMA2.out.below HB9.out (Nat.le_refl _))).mono ?_)
      first | rintro e wx rfl hb11 | rintro e wx ⟨rfl, hb11⟩
      have hb8x : Below w8.heap.size w8 wx := below_next HB9.out hb11
      have hbz : Below w.heap.size w wx := below_next ((HB6.out |> fun _ => HBF.out).trans (HB8.out.mono HB5w.out)) hb8x
      clear hb11
      go_wp2_with fail
      go_ret
      exact ⟨rfl, hbz⟩
end Go.Proofs.Ytpnpgjjbincigaa
