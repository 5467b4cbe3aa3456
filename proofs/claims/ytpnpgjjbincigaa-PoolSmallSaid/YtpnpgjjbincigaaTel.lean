/- gaugerlaw35.tells returns true. -/
import Derived.Test.YtpnpgjjbincigaaLwA
namespace Go.Proofs.Ytpnpgjjbincigaa
open Go.RowKit
set_option linter.unusedVariables false

theorem OwnT.n {B : Nat} {t : Can.T} {w : World} (h : OwnT B t w) : t.ls.length = t.n ∧ t.n ≤ maxLen := by
  refine ⟨h.1, ?_⟩
  obtain ⟨p', c', e, _, h1, h2⟩ := OwnLabels.open h.2
  rw [← h.1]
  exact Nat.le_trans h1 h2
theorem OwnT.spo {B B' : Nat} {L : List Can.T} {t : Can.T} {w w' : World} (h : OwnT B t w) (hne : ∀ u ∈ L, ∀ g, u.p = some ⟨g, 0, none⟩ → t.p ≠ some ⟨g, 0, none⟩) (hs : Po.Spo B' L w w') : OwnT B t w' := by
  obtain ⟨h0, h1, h2⟩ := h
  refine ⟨h0, h1, ?_⟩
  rcases h2 with h2 | ⟨g, cap, cur, hv, hb, hh, r⟩
  · exact .inl h2
  · refine .inr ⟨g, cap, cur, hv, hb, hs.keep g cur _ (0, 0) hh (.inr fun u hu g' hg' e => ?_), r⟩
    simp only [Value.slice.injEq] at hv
    subst e
    exact hne u hu g' hg' hv.1
theorem Po.tany_of {B : Nat} {s2 ss : List Sl} {w : World} (hv : s2.map Sl.view = ss.map Sl.view) (hO : ∀ s ∈ s2, OwnT B s.t w) (hF : ∀ s ∈ ss, Can.TAny s.t) : ∀ s ∈ s2, Can.TAny s.t := fun s hs => by
  obtain ⟨i, hi, rfl⟩ := List.getElem_of_mem hs
  have hi2 : i < ss.length := by have := congrArg List.length hv; rw [List.length_map, List.length_map] at this; omega
  have e := view_get hv i hi hi2
  simp only [Sl.view, Prod.mk.injEq] at e
  obtain ⟨f1, f2, f3, f4, f5⟩ := hF ss[i] (List.getElem_mem _)
  have ho := hO s2[i] hs
  exact ho.tany (by rw [e.1]; exact f1) (by rw [e.2.1]; exact f3) ho.n.2
theorem Po.tany_oft {B : Nat} {t2 ts : List Can.T} {w : World} (hv : t2.map Po.tv = ts.map Po.tv) (hO : ∀ t ∈ t2, OwnT B t w) (hF : ∀ t ∈ ts, Can.TAny t) : ∀ t ∈ t2, Can.TAny t := fun t ht => by
  obtain ⟨i, hi, rfl⟩ := List.getElem_of_mem ht
  have hi2 : i < ts.length := by have := congrArg List.length hv; rw [List.length_map, List.length_map] at this; omega
  have e := view_get hv i hi hi2
  simp only [Po.tv, Prod.mk.injEq] at e
  obtain ⟨f1, f2, f3, f4, f5⟩ := hF ts[i] (List.getElem_mem _)
  have ho := hO t2[i] ht
  exact ho.tany (by rw [e.1]; exact f1) (by rw [e.2]; exact f3) ho.n.2
theorem Po.oM_le2 (ev ti : Int) (a : Option Po.V) (b : Option Po.U) : (Po.oM ev ti a b).length ≤ 2 := by
  rcases a with _ | a <;> rcases b with _ | b <;> simp [Po.oM] <;> (repeat' split) <;> simp

theorem Po.sync_len {S S2 : List Po.V} {T : List Po.U} {M : List (Int × Po.U)} {ev ti r : Int} (h : Po.sync S T ev ti = (r, S2, M)) : S2.length ≤ S.length + T.length ∧ M.length ≤ 2 * (S.length + T.length) := by
  have hk : (Po.ks S T).length ≤ S.length + T.length := by
    unfold Po.ks
    refine Nat.le_trans (Po.srt_len _) ?_
    rw [List.length_append, List.length_map, List.length_map]
    exact Nat.le_refl _
  have h1 : (Po.sS S T ev ti).length ≤ S.length + T.length := by
    unfold Po.sS
    refine Nat.le_trans (flat_len _ 1 (fun x => Po.oS_len _ _ _ _) _) ?_
    omega
  have h2 : (Po.sM S T ev ti).length ≤ 2 * (S.length + T.length) := by
    unfold Po.sM
    refine Nat.le_trans (flat_len _ 2 (fun x => Po.oM_le2 _ _ _ _) _) ?_
    omega
  unfold Po.sync at h
  split at h
  · split at h
    · split at h
      · split at h
        · simp only [Prod.mk.injEq] at h
          rw [← h.2.1, ← h.2.2]
          exact ⟨h1, h2⟩
        · simp only [Prod.mk.injEq] at h
          rw [← h.2.1, ← h.2.2]
          exact ⟨Nat.zero_le _, Nat.zero_le _⟩
      · simp only [Prod.mk.injEq] at h
        rw [← h.2.1, ← h.2.2]
        exact ⟨Nat.zero_le _, Nat.zero_le _⟩
    · simp only [Prod.mk.injEq] at h
      rw [← h.2.1, ← h.2.2]
      exact ⟨Nat.zero_le _, Nat.zero_le _⟩
  · simp only [Prod.mk.injEq] at h
    rw [← h.2.1, ← h.2.2]
    exact ⟨Nat.zero_le _, Nat.zero_le _⟩

set_option maxHeartbeats 12800000 in
set_option maxRecDepth 100000 in
theorem tells_is (p q : Option Addr) (ss : List Sl) (ts : List Can.T) (n c m d : Nat) (ev ti : Int) (w : World) (hn : ss.length = n) (hm : ts.length = m) (hA : Po.At p ss w) (hT : Po.TgAt q ts w)
    (hF : ∀ s ∈ ss, Can.TAny s.t) (hG : ∀ t ∈ ts, Can.TAny t) (hF2 : ∀ s ∈ ss, s.t.n ≤ 4398046511104) (hG2 : ∀ t ∈ ts, t.n ≤ 4398046511104) :
    Calls Try.prog 12 #[.slice p n c, .slice q m d, .int .i64 ev, .int .i64 ti] w fun e w' => e = .returned (.bool true) ∧ Below w.heap.size w w' := by
  by_cases hn40 : 40 < n
  · have q1 : (n : Int) > 40 := by omega
    clear hn hm hA hT hF hG hF2 hG2
    go_enter Try.func12, Try.ntmps12
    go_wp2_with fail
    go_ret
    exact ⟨rfl, Below.refl _ _⟩
  by_cases hm40 : 40 < m
  · have q1 : ¬ (n : Int) > 40 := by omega
    have q2 : (m : Int) > 40 := by omega
    clear hn hm hA hT hF hG hF2 hG2
    go_enter Try.func12, Try.ntmps12
    go_wp2_with fail
    go_ret
    exact ⟨rfl, Below.refl _ _⟩
  have n40 : n ≤ 40 := by omega
  have m40 : m ≤ 40 := by omega
  have q1 : decide ((n : Int) > 40) = false := decide_eq_false (by omega)
  have q2 : decide ((m : Int) > 40) = false := decide_eq_false (by omega)
  obtain ⟨⟨r, S, M⟩, hsy⟩ : ∃ x, Po.sync (ss.map Sl.view) (ts.map Po.tv) ev ti = x := ⟨_, rfl⟩
  have hallA : ∀ t ∈ ss.map Sl.t ++ ts, Lab.At t.p t.ls w ∧ Can.TAny t := fun t ht => by
    rcases List.mem_append.1 ht with ht | ht
    · obtain ⟨s, hs, rfl⟩ := List.mem_map.1 ht
      exact ⟨hA.2 s hs, hF s hs⟩
    · obtain ⟨i, hi, rfl⟩ := List.getElem_of_mem ht
      exact ⟨Po.TAt1.lab (show Po.TAt1 q ts w from hT.pos) i hi, hG _ ht⟩
  have hlenS := Po.sync_len hsy
  rw [List.length_map, List.length_map, hn, hm] at hlenS
  have hS80 : S.length ≤ 80 := by omega
  have hM160 : M.length ≤ 160 := by omega
  have HAL := Lib.hid hallA
  have HCP := Lib.hid (lcopied_is p ss n c w hn hA (fun s hs => ⟨(hF s hs).2.1, hF2 s hs, (hF s hs).2.2.2.1⟩) (by omega))
  have HCT := Lib.hid (fun w h => copytargets_is q ts m d w hm h hG hG2 (by omega))
  have HN := Lib.hid hn
  have HM := Lib.hid hm
  have HA := Lib.hid hA
  have HT := Lib.hid hT
  have HF := Lib.hid hF
  have HG := Lib.hid hG
  have HSE := Lib.hid hsy
  clear hn hm hA hT hF hG hF2 hG2 hallA hsy hn40 hm40
  go_enter Try.func12, Try.ntmps12
  go_wp2_with (go_at_call 24; refine HCP.out.mono ?_)
  first | rintro e w1 v s2 rfl hO hv hb1 | rintro e w1 ⟨⟨v, s2, rfl, hO, hv⟩, hb1⟩
  have hl2 : s2.length = n := by have h1 := congrArg List.length hv; rw [List.length_map, List.length_map] at h1; have := HN.out; omega
  obtain ⟨po, co, rfl, _, _⟩ := hO.form
  rw [hl2] at hO ⊢
  have HO1 := Lib.hid hO
  have HV2 := Lib.hid hv
  have HL2 := Lib.hid hl2
  have HB1 := Lib.hid hb1
  clear hO hv hl2 hb1 HCP
  go_wp2_with (go_at_call 38; refine (HCT.out _ (HT.out.pos.below HB1.out (Nat.le_refl _))).mono ?_)
  first | rintro e w2 v t2 rfl hO2 hj2 hb2 | rintro e w2 ⟨⟨v, t2, rfl, hO2, hj2⟩, hb2⟩
  have hlt : t2.length = m := by have h1 := congrArg List.length hj2; rw [List.length_map, List.length_map] at h1; have := HM.out; omega
  obtain ⟨pt, ct, rfl⟩ := hO2.form
  rw [hlt] at hO2 ⊢
  have HT2 := Lib.hid hO2
  have HJ2 : Hid (t2.map Po.tv = ts.map Po.tv) := hj2
  have HLT := Lib.hid hlt
  have HO2 : Hid (Po.Own w.heap.size (.slice po n co) s2 w2) := HO1.out.below hb2 (Nat.le_refl _)
  have HB2 : Hid (Below w.heap.size w w2) := below_next HB1.out hb2
  have HTA2 := Lib.hid (Po.tany_of HV2.out HO2.out.2 HF.out)
  have HTB2 := Lib.hid (Po.tany_oft HJ2.out (fun t ht => ⟨(HT2.out.2 t ht).1, (HT2.out.2 t ht).2⟩) HG.out)
  have HSY := Lib.hid (sync_is po pt s2 t2 n co m ct ev ti r S M (by rw [HV2.out, HJ2.out]; exact HSE.out) w2 HL2.out HLT.out HO2.out.at.1 HT2.out.pos.1 HTA2.out HTB2.out (by omega) (by omega))
  clear hO2 hj2 hlt hb2 HCT HO1 HB1
  go_wp2_with (go_at_call 25; refine HSY.out.mono ?_)
  first | rintro e w3 v1 v2 s3 m3 rfl hR hs hm hb3 | rintro e w3 v1 v2 rfl s3 m3 hR hs hm hb3 | rintro e w3 ⟨⟨v1, v2, s3, m3, rfl, hR, hs, hm⟩, hb3⟩
  obtain ⟨⟨p3, c3, rfl, _⟩, pm3, cm3, rfl, _⟩ := hR.form
  obtain ⟨n3, hn3⟩ : ∃ n3, s3.length = n3 := ⟨_, rfl⟩
  obtain ⟨k3, hk3⟩ : ∃ k3, m3.length = k3 := ⟨_, rfl⟩
  rw [hn3, hk3] at hR
  rw [hn3, hk3]
  have HR3 := Lib.hid hR
  have HS3 := Lib.hid hs
  have HM3 := Lib.hid hm
  have HN3 := Lib.hid hn3
  have HK3 := Lib.hid hk3
  have HB3 : Hid (Below w2.heap.size w2 w3) := hb3
  have HBW3 : Hid (Below w.heap.size w w3) := below_next HB2.out hb3
  have HTH := Lib.hid (fun W h => theirs_is p ss n c W HN.out h (by omega))
  clear hR hs hm hn3 hk3 hb3 HSY
  go_wp2_with (go_at_call 40; refine (HTH.out _ (HA.out.below HBW3.out (Nat.le_refl _)).1).mono ?_)
  first | rintro e w4 v rfl hv4 hb4 | rintro e w4 ⟨⟨v, rfl, hv4⟩, hb4⟩
  obtain ⟨p4, c4, rfl, _⟩ := hv4.shape
  rw [HN.out] at hv4 ⊢
  have HB4 : Hid (Below w2.heap.size w2 w4) := below_next HB3.out hb4
  have HC4 : Hid (Below w3.heap.size w3 w4) := hb4
  have HBW4 : Hid (Below w.heap.size w w4) := below_next HBW3.out hb4
  have HRS := Lib.hid (rsync_is p4 q ss ts n c4 m d ev ti r S M HSE.out w4 HN.out HM.out ⟨hv4.lies rsOk, fun s hs => (HA.out.2 s hs).below HBW4.out (Nat.le_refl _)⟩ (HT.out.pos.below HBW4.out (Nat.le_refl _)) HF.out HG.out (by omega) (by omega))
  clear hv4 hb4
  go_wp2_with (go_at_call 39; refine HRS.out.mono ?_)
  first | rintro e w5 v5 v6 rfl hres hb5 | rintro e w5 ⟨⟨v5, v6, rfl, hres⟩, hb5⟩
  obtain ⟨s5, m5, hs5, hm5, hvs5, hvm5, hin5, him5⟩ := hres
  obtain ⟨p5, c5, rfl, _⟩ := hs5.shape
  obtain ⟨pm5, cm5, rfl, _⟩ := hm5.shape
  obtain ⟨n5, hn5⟩ : ∃ n5, s5.length = n5 := ⟨_, rfl⟩
  obtain ⟨k5, hk5⟩ : ∃ k5, m5.length = k5 := ⟨_, rfl⟩
  rw [hn5] at hs5 ⊢
  rw [hk5] at hm5 ⊢
  have HS5 := Lib.hid hs5
  have HM5 := Lib.hid hm5
  have HVS5 := Lib.hid hvs5
  have HVM5 := Lib.hid hvm5
  have HIN := Lib.hid hin5
  have HIM := Lib.hid him5
  have HN5 := Lib.hid hn5
  have HK5 := Lib.hid hk5
  have HB5 : Hid (Below w2.heap.size w2 w5) := below_next HB4.out hb5
  have HBW5 : Hid (Below w.heap.size w w5) := below_next HBW4.out hb5
  have HC5 : Hid (Below w3.heap.size w3 w5) := below_next HC4.out hb5
  have hk35 : k3 = k5 := by
    have h1 := congrArg List.length HM3.out
    have h2 := congrArg List.length HVM5.out
    rw [List.length_map] at h1 h2
    have := HK3.out
    have := HK5.out
    omega
  have HKK := Lib.hid hk35
  have HBw5 := HB5
  have HWw5 := HBW5
  have HCw5 := HC5
  have HDw5 : Hid (Below w5.heap.size w5 w5) := Below.refl _ _
  clear hs5 hm5 hvs5 hvm5 hin5 him5 hn5 hk5 hb5 hk35 HRS
  have HALW : Hid (∀ W, Below w.heap.size w W → ∀ t ∈ ss.map Sl.t ++ ts, Lab.At t.p t.ls W ∧ t.ls.length = t.n ∧ t.n ≤ maxLen) := fun W hb t ht => ⟨(HAL.out t ht).1.below hb (Nat.le_refl _), (HAL.out t ht).2.2.1, (HAL.out t ht).2.2.2.2.2⟩
  have hk5s : k5 ≤ 160 := by have h1 := congrArg List.length HVM5.out; rw [List.length_map] at h1; have := HK5.out; omega
  have hk3s : k3 ≤ 160 := by have := HKK.out; omega
  have hn5s : n5 ≤ 80 := by have h1 := congrArg List.length HVS5.out; rw [List.length_map] at h1; have := HN5.out; omega
  have hn3s : n3 ≤ 80 := by have h1 := congrArg List.length HS3.out; rw [List.length_map] at h1; have := HN3.out; omega
  go_wp2_with fail
  go_loopw [17, 55] (fun v i wr => ∃ k : Nat, k ≤ k5 ∧ i = .int .i64 (k : Int) ∧ Hid (OwnR mvR w5.heap.size v (m5.take k) wr) ∧ Hid (Below w5.heap.size w5 wr)) (fun _ i _ => k5 - (intOf i).toNat)
  case atStart => exact ⟨0, Nat.zero_le _, rfl, OwnR.nil _ _ _, Below.refl _ _⟩
  case round =>
    obtain ⟨wj, rfl⟩ : ∃ wo : World, wo = wr := ⟨_, rfl⟩
    obtain ⟨k, hk, rfl, HO, HD⟩ := hrel
    have hsz := HD.out.size
    by_cases hlt : k < k5
    · have hk1 : k < m5.length := by rw [HK5.out]; exact hlt
      have m1 : (0 : Int) ≤ (k : Int) := by omega
      have m2 : (k : Int) < (k5 : Int) := by omega
      have hL : rmR.Lies pm5 m5 wj := (HM5.out.below HD.out (Nat.le_refl _)).lies rmOk
      rcases hL with h0 | ⟨b0, o0, rfl, hcl⟩
      · rw [h0] at hk1; cases hk1
      have d0 : wj.cell? ⟨b0, o0 + k * 3, none⟩ = _ := hcl k hk1 0 (by decide)
      have d1 : wj.cell? ⟨b0, o0 + k * 3 + 1, none⟩ = _ := hcl k hk1 1 (by decide)
      have d2 : wj.cell? ⟨b0, o0 + k * 3 + 2, none⟩ = _ := hcl k hk1 2 (by decide)
      have htk : m5.take (k + 1) = m5.take k ++ [m5[k]] := by rw [List.take_add_one, List.getElem?_eq_getElem hk1]; rfl
      have hlen : (m5.take k).length + 1 ≤ 1000000000 := by rw [List.length_take]; omega
      obtain ⟨x, hx⟩ : ∃ x, m5[k] = x := ⟨_, rfl⟩
      rw [hx] at d0 d1 d2 htk
      obtain ⟨xk, xj, xp, xn, xc, xl⟩ := x
      replace d0 : wj.cell? ⟨b0, o0 + k * 3, none⟩ = some (.int .u8 xk) := d0
      replace d1 : wj.cell? ⟨b0, o0 + k * 3 + 1, none⟩ = some (.string xj) := d1
      replace d2 : wj.cell? ⟨b0, o0 + k * 3 + 2, none⟩ = some (.slice xp xn xc) := d2
      have HX := Lib.hid htk
      obtain ⟨U, hU⟩ : ∃ U, U = wj.alloc (.cells #[.int .u8 xk, .string xj, .slice xp xn xc] 76) := ⟨_, rfl⟩
      have hbU : Below wj.heap.size wj U := by rw [hU]; exact (Below.refl _ _).alloc (Nat.le_refl _) _
      have HOU : Hid (OwnR mvR w5.heap.size _ (m5.take k) U) := HO.out.below hbU (Nat.le_refl _)
      have HDU : Hid (Below w5.heap.size w5 U) := below_next HD.out hbU
      have hsU := HDU.out.size
      have HUU := Lib.hid hU
      have hkU : U.heap[wj.heap.size]? = some (.cells #[.int .u8 xk, .string xj, .slice xp xn xc] 76) := by rw [hU]; exact alloc_new _ _
      have y0 : U.cell? ⟨wj.heap.size, 0, none⟩ = some (.int .u8 xk) := by rw [Lib.cell_of_heap hkU]; rfl
      have y1 : U.cell? ⟨wj.heap.size, 1, none⟩ = some (.string xj) := by rw [Lib.cell_of_heap hkU]; rfl
      have y2 : U.cell? ⟨wj.heap.size, 2, none⟩ = some (.slice xp xn xc) := by rw [Lib.cell_of_heap hkU]; rfl
      have yl : wj.heap.size < U.heap.size := lt_of_heap hkU
      clear hx hcl htk hU hbU hkU
      go_wp2_with (first | (rw [← HUU.out]) | (at_builtin; refine wpList_pushRec mvOk 50 Try.underlying50 rfl _ _ rfl w5.heap.size _ (m5.take k) U rfl (by exact HOU.out) ⟨xk, xj, xp, xn, xc, xl⟩ _ _ rfl _ rfl (by first | rfl | (rw [HUU.out]; simp)) hlen hsU ?_))
      intro v8 w8 hro8 hg8
      have hb8 : Below w5.heap.size w5 w8 := (HDU.out.alloc hsU _).grown hg8 (by simp; omega) (fun j hj => (World.ownsRow.lt HOU.out j hj).1)
      go_wp2_with fail
      go_roundw
      case rel => exact ⟨k + 1, by omega, by go_num, (by show OwnR _ _ _ _ _; rw [HX.out]; exact hro8), hb8⟩
      case measure => simp [intOf]; omega
    · have n2 : (k5 : Int) ≤ (k : Int) := by omega
      have hv := HO.out
      rw [List.take_of_length_le (by rw [HK5.out]; omega)] at hv
      obtain ⟨pk, ck, hvk, _⟩ := hv.shape
      subst hvk
      rw [HK5.out] at hv ⊢
      have HKI := Lib.hid hv
      clear hv
      have HBwj : Hid (Below w2.heap.size w2 wj) := HB5.out.trans (HD.out.mono HB5.out.size)
      have HWwj : Hid (Below w.heap.size w wj) := HBW5.out.trans (HD.out.mono HBW5.out.size)
      have HCwj : Hid (Below w3.heap.size w3 wj) := HC5.out.trans (HD.out.mono HC5.out.size)
      have HDwj := HD
      have HJ0 : Hid (Below wj.heap.size wj wj) := Below.refl _ _
      have HTU := Lib.hid (turned_is p5 s5 n5 c5 wj HN5.out ((HS5.out.below HD.out (Nat.le_refl _)).lies rsOk) (by omega))
      go_wp2_with (go_at_call 41; refine HTU.out.mono ?_)
      first | rintro e w6 v rfl hv6 hb6 | rintro e w6 ⟨⟨v, rfl, hv6⟩, hb6⟩
      obtain ⟨p6, c6, rfl, _⟩ := hv6.shape
      rw [HN5.out] at hv6 ⊢
      have HBw6 : Hid (Below w2.heap.size w2 w6) := below_next HBwj.out hb6
      have HWw6 : Hid (Below w.heap.size w w6) := below_next HWwj.out hb6
      have HCw6 : Hid (Below w3.heap.size w3 w6) := below_next HCwj.out hb6
      have HDw6 : Hid (Below w5.heap.size w5 w6) := below_next HDwj.out hb6
      have HK6x := Lib.hid (HKI.out.below hb6 (Nat.le_refl _))
      have HS1 := Lib.hid (same35_is p3 p6 s3 s5 n3 n5 c3 c6 (HS3.out.trans HVS5.out.symm) w6 HN3.out HN5.out (HR3.out.at.1.below HCw6.out (Nat.le_refl _)) ⟨hv6.lies slOk, fun s hs => (HALW.out w6 HWw6.out s.t (HIN.out s hs)).1⟩ (fun s hs => (HR3.out.ts s hs).n) (fun s hs => (HALW.out w6 HWw6.out s.t (HIN.out s hs)).2.1) (by omega))
      clear hv6 hb6 HTU
      go_wp2_with (go_at_call 22; refine HS1.out.mono ?_)
      first | rintro e w7 rfl hb7 | rintro e w7 ⟨rfl, hb7⟩
      have HBw7 : Hid (Below w2.heap.size w2 w7) := below_next HBw6.out hb7
      have HWw7 : Hid (Below w.heap.size w w7) := below_next HWw6.out hb7
      have HCw7 : Hid (Below w3.heap.size w3 w7) := below_next HCw6.out hb7
      have HDw7 : Hid (Below w5.heap.size w5 w7) := below_next HDw6.out hb7
      have HK7x := Lib.hid (HK6x.out.below hb7 (Nat.le_refl _))
      clear hb7 HS1
      have HMV := Lib.hid (fun W (hc : Po.MAt pm3 m3 W) (hd : Po.MAt pk m5 W) => moved_is pm3 pk m3 m5 k3 k5 cm3 ck (HM3.out.trans HVM5.out.symm) W HK3.out HK5.out hc hd (fun x hx => (HR3.out.tm x hx).n) (fun x hx => (HALW.out w (Below.refl _ _) x.t (HIM.out x hx)).2.1) (by omega))
      have HK7 := HK7x
      have HKA : Hid (∀ W, OwnR mvR w5.heap.size (.slice pk k5 ck) m5 W → Below w.heap.size w W → Po.MAt pk m5 W) := fun W h hb => ⟨h.lies mvOk, fun x hx => (HALW.out W hb x.t (HIM.out x hx)).1⟩
      go_wp2_with (go_at_call 33; refine (HMV.out _ (HR3.out.mat.1.below HCw7.out (Nat.le_refl _)) (HKA.out _ HK7.out HWw7.out)).mono ?_)
      first | rintro e w8 rfl hb8 | rintro e w8 ⟨rfl, hb8⟩
      have HBw8 : Hid (Below w2.heap.size w2 w8) := below_next HBw7.out hb8
      have HWw8 : Hid (Below w.heap.size w w8) := below_next HWw7.out hb8
      have HCw8 : Hid (Below w3.heap.size w3 w8) := below_next HCw7.out hb8
      have HDw8 : Hid (Below w5.heap.size w5 w8) := below_next HDw7.out hb8
      have HK8 := Lib.hid (HK7.out.below hb8 (Nat.le_refl _))
      clear hb8
      have qr : (r != r) = false := by simp
      obtain ⟨b, hok⟩ : ∃ b, Po.okVs (ss.map Sl.view) = b := ⟨_, rfl⟩
      have qb : (b != b) = false := by simp
      have HPR := Lib.hid (pright_is po s2 n co b (by rw [HV2.out]; exact hok) w8 HL2.out (HO2.out.at.1.below HBw8.out (Nat.le_refl _)) HTA2.out (by omega))
      go_wp2_with (go_at_call 23; refine HPR.out.mono ?_)
      first | rintro e w9 rfl hb9 | rintro e w9 ⟨rfl, hb9⟩
      have HBw9 : Hid (Below w2.heap.size w2 w9) := below_next HBw8.out hb9
      have HWw9 : Hid (Below w.heap.size w w9) := below_next HWw8.out hb9
      have HCw9 : Hid (Below w3.heap.size w3 w9) := below_next HCw8.out hb9
      have HDw9 : Hid (Below w5.heap.size w5 w9) := below_next HDw8.out hb9
      have HK9 := Lib.hid (HK8.out.below hb9 (Nat.le_refl _))
      clear hb9 HPR
      go_wp2_with (go_at_call 40; refine (HTH.out _ (HA.out.below HWw9.out (Nat.le_refl _)).1).mono ?_)
      first | rintro e wa v rfl hv4 hba | rintro e wa ⟨⟨v, rfl, hv4⟩, hba⟩
      obtain ⟨pa, ca, rfl, _⟩ := hv4.shape
      rw [HN.out] at hv4 ⊢
      have HBwa : Hid (Below w2.heap.size w2 wa) := below_next HBw9.out hba
      have HWwa : Hid (Below w.heap.size w wa) := below_next HWw9.out hba
      have HCwa : Hid (Below w3.heap.size w3 wa) := below_next HCw9.out hba
      have HDwa : Hid (Below w5.heap.size w5 wa) := below_next HDw9.out hba
      have HKa := Lib.hid (HK9.out.below hba (Nat.le_refl _))
      have HRR := Lib.hid (rright35_is pa ss n ca b hok wa HN.out ⟨hv4.lies rsOk, fun s hs => (HA.out.2 s hs).below HWwa.out (Nat.le_refl _)⟩ HF.out (by omega))
      clear hv4 hba hok
      go_wp2_with (go_at_call 42; refine HRR.out.mono ?_)
      first | rintro e wb rfl hbb | rintro e wb ⟨rfl, hbb⟩
      have HBwb : Hid (Below w2.heap.size w2 wb) := below_next HBwa.out hbb
      have HWwb : Hid (Below w.heap.size w wb) := below_next HWwa.out hbb
      have HCwb : Hid (Below w3.heap.size w3 wb) := below_next HCwa.out hbb
      have HDwb : Hid (Below w5.heap.size w5 wb) := below_next HDwa.out hbb
      have HKb := Lib.hid (HKa.out.below hbb (Nat.le_refl _))
      clear hbb HRR
      have HR3b : Hid (Po.Rows w2.heap.size (.slice p3 n3 c3) (.slice pm3 k3 cm3) s3 m3 wb) := HR3.out.below HCwb.out (Nat.le_refl _)
      have HSP := Lib.hid (spoil35_is w2.heap.size w2.heap.size p3 s3 n3 c3 wb HN3.out HR3b.out.rs (fun s hs => ⟨(HR3b.out.ts s hs).wr, (HR3b.out.ts s hs).base⟩) HBwb.out.size (by omega) (fun s hs => (HR3b.out.ts s hs).n.2))
      go_wp2_with (go_at_call 43; refine HSP.out.mono ?_)
      first | rintro e wc rfl hsc | rintro e wc ⟨rfl, hsc⟩
      have HSC := Lib.hid hsc
      have HBwc : Hid (Below w2.heap.size w2 wc) := HBwb.out.trans hsc.below
      have HWwc : Hid (Below w.heap.size w wc) := HB2.out.trans (HBwc.out.mono HB2.out.size)
      have HTM : Hid (∀ x ∈ m3, OwnT w2.heap.size x.t wc) := fun x hx => (HR3b.out.tm x hx).spo (fun u hu g hg e => by obtain ⟨s, hs, rfl⟩ := List.mem_map.1 hu; have h9 := HR3b.out.ap s hs x hx (hg.trans e.symm); rw [h9] at hg; cases hg) hsc
      have HRMc : Hid (OwnR mvR w2.heap.size (.slice pm3 k3 cm3) m3 wc) := HR3b.out.rm.spo (by decide) hsc
      have HKc : Hid (OwnR mvR w5.heap.size (.slice pk k5 ck) m5 wc) := HKb.out.spo (by decide) hsc
      clear hsc HSP
      go_wp2_with (go_at_call 33; refine (HMV.out _ ⟨HRMc.out.lies mvOk, fun x hx => (HTM.out x hx).at⟩ (HKA.out _ HKc.out HWwc.out)).mono ?_)
      first | rintro e wd rfl hbd | rintro e wd ⟨rfl, hbd⟩
      have HBwd : Hid (Below w2.heap.size w2 wd) := below_next HBwc.out hbd
      have HRMd : Hid (OwnR mvR w2.heap.size (.slice pm3 k3 cm3) m3 wd) := HRMc.out.below hbd (Nat.le_refl _)
      have HTMd : Hid (∀ x ∈ m3, OwnT w2.heap.size x.t wd) := fun x hx => (HTM.out x hx).below hbd (Nat.le_refl _)
      clear hbd
      go_wp2_with fail
      go_loopw [96] (fun i wr => ∃ k : Nat, k ≤ k3 ∧ i = .int .i64 (k : Int) ∧ Hid (Below w2.heap.size w2 wr) ∧ Hid (OwnR mvR w2.heap.size (.slice pm3 k3 cm3) m3 wr) ∧ Hid (∀ x ∈ m3, Po.Wr x.t wr)) (fun i _ => k3 - (intOf i).toNat)
      case atStart => exact ⟨0, Nat.zero_le _, rfl, HBwd.out, HRMd.out, fun x hx => (HTMd.out x hx).wr⟩
      case round =>
        obtain ⟨wi, rfl⟩ : ∃ wo : World, wo = wr := ⟨_, rfl⟩
        obtain ⟨i, hi, rfl, HBI, HRI, HWI⟩ := hrel
        have hsi := HBI.out.size
        by_cases hlt3 : i < k3
        · have hi1 : i < m3.length := by rw [HK3.out]; exact hlt3
          have m1 : (0 : Int) ≤ (i : Int) := by omega
          have m2 : (i : Int) < (k3 : Int) := by omega
          have hL : mvR.Lies pm3 m3 wi := HRI.out.lies mvOk
          rcases hL with h0 | ⟨b0, o0, rfl, hcl⟩
          · rw [h0] at hi1; cases hi1
          have d0 : wi.cell? ⟨b0, o0 + i * 3, none⟩ = _ := hcl i hi1 0 (by decide)
          have d1 : wi.cell? ⟨b0, o0 + i * 3 + 1, none⟩ = _ := hcl i hi1 1 (by decide)
          have d2 : wi.cell? ⟨b0, o0 + i * 3 + 2, none⟩ = _ := hcl i hi1 2 (by decide)
          have hwr := HWI.out m3[i] (List.getElem_mem _)
          have hbs := (HR3.out.tm m3[i] (List.getElem_mem _)).base
          have hmn := (HR3.out.tm m3[i] (List.getElem_mem _)).n.2
          obtain ⟨x, hx⟩ : ∃ x, m3[i] = x := ⟨_, rfl⟩
          rw [hx] at d0 d1 d2 hwr hbs hmn
          obtain ⟨xk, xj, xp, xn, xc, xl⟩ := x
          replace d0 : wi.cell? ⟨b0, o0 + i * 3, none⟩ = some (.int .u8 xk) := d0
          replace d1 : wi.cell? ⟨b0, o0 + i * 3 + 1, none⟩ = some (.string xj) := d1
          replace d2 : wi.cell? ⟨b0, o0 + i * 3 + 2, none⟩ = some (.slice xp xn xc) := d2
          have hb1 : Below wi.heap.size wi ((wi.alloc (.cells #[.int .u8 xk, .string xj, .slice xp xn xc] 62)).alloc (.cells #[.string xj, .slice xp xn xc, .int .i64 0, .int .i64 0, .bool false] 33)) := ((Below.refl _ _).alloc (Nat.le_refl _) _).alloc (by simp) _
          have hk2 : ((wi.alloc (.cells #[.int .u8 xk, .string xj, .slice xp xn xc] 62)).alloc (.cells #[.string xj, .slice xp xn xc, .int .i64 0, .int .i64 0, .bool false] 33)).heap[wi.heap.size + 1]? = some (.cells #[.string xj, .slice xp xn xc, .int .i64 0, .int .i64 0, .bool false] 33) := by simpa using alloc_new (wi.alloc (.cells #[.int .u8 xk, .string xj, .slice xp xn xc] 62)) (.cells #[.string xj, .slice xp xn xc, .int .i64 0, .int .i64 0, .bool false] 33)
          have hrow : OwnR slR 0 (.slice (some ⟨wi.heap.size + 1, 0, none⟩) 1 1) [(⟨⟨xj, xp, xn, xc, xl⟩, 0, 0, false⟩ : Sl)] ((wi.alloc (.cells #[.int .u8 xk, .string xj, .slice xp xn xc] 62)).alloc (.cells #[.string xj, .slice xp xn xc, .int .i64 0, .int .i64 0, .bool false] 33)) := OwnR.made slOk (Nat.zero_le _) (by rfl) rfl (by decide) hk2
          have HSP := Lib.hid (spoil35_is w2.heap.size 0 (some ⟨wi.heap.size + 1, 0, none⟩) [(⟨⟨xj, xp, xn, xc, xl⟩, 0, 0, false⟩ : Sl)] 1 1 _ rfl hrow (fun s hs => by rw [List.mem_singleton] at hs; subst hs; exact ⟨hwr.below hb1, hbs⟩) (by simp; omega) (by decide) (fun s hs => by rw [List.mem_singleton] at hs; subst hs; exact hmn))
          have HB1x : Hid (Below w2.heap.size w2 _) := below_next HBI.out hb1
          have HR1x := Lib.hid (HRI.out.below hb1 (Nat.le_refl _))
          have HW1x : Hid (∀ x ∈ m3, Po.Wr x.t _) := fun x hx => (HWI.out x hx).below hb1
          clear hx hcl hwr hbs hmn hb1 hrow
          go_wp2_with (go_at_call 43; refine HSP.out.mono ?_)
          first | rintro e we rfl hse | rintro e we ⟨rfl, hse⟩
          have HBe : Hid (Below w2.heap.size w2 we) := HB1x.out.trans hse.below
          have HRe : Hid (OwnR mvR w2.heap.size _ m3 we) := HR1x.out.spo (by decide) hse
          have HWe : Hid (∀ x ∈ m3, Po.Wr x.t we) := fun x hx => hse.wr _ (HW1x.out x hx)
          clear hse HSP
          go_wp2_with fail
          go_roundw
          case rel => exact ⟨i + 1, by omega, by go_num, HBe.out, HRe.out, HWe.out⟩
          case measure => simp [intOf]; omega
        · have n3x : (k3 : Int) ≤ (i : Int) := by omega
          have HWwi : Hid (Below w.heap.size w wi) := HB2.out.trans (HBI.out.mono HB2.out.size)
          have HE1 := Lib.hid (same35_is po p s2 ss n n co c HV2.out wi HL2.out HN.out (HO2.out.at.1.below HBI.out (Nat.le_refl _)) (HA.out.below HWwi.out (Nat.le_refl _)) (fun s hs => (HO2.out.2 s hs).n) (fun s hs => (HF.out s hs).2.1) (by omega))
          go_wp2_with (go_at_call 22; refine HE1.out.mono ?_)
          first | rintro e wf rfl hbf | rintro e wf ⟨rfl, hbf⟩
          have HBf : Hid (Below w2.heap.size w2 wf) := below_next HBI.out hbf
          have HWf : Hid (Below w.heap.size w wf) := below_next HWwi.out hbf
          clear hbf HE1
          have HE2 := Lib.hid (sametargets_gen pt q t2 ts m ct d wf HLT.out HM.out (HT2.out.pos.1.below HBf.out (Nat.le_refl _)) (HT.out.pos.below HWf.out (Nat.le_refl _)) HJ2.out (fun t ht => ⟨(HT2.out.2 t ht).1, by have h9 : OwnT w1.heap.size t w2 := ⟨(HT2.out.2 t ht).1, (HT2.out.2 t ht).2⟩; have h8 := h9.n; omega⟩) (fun t ht => (HG.out t ht).2.1) (by omega))
          go_wp2_with (go_at_call 20; refine HE2.out.mono ?_)
          first | rintro e wg rfl hbg | rintro e wg ⟨rfl, hbg⟩
          have hbz : Below w.heap.size w wg := below_next HWf.out hbg
          clear hbg HE2
          go_wp2_with fail
          go_ret
          exact ⟨rfl, hbz⟩
end Go.Proofs.Ytpnpgjjbincigaa
