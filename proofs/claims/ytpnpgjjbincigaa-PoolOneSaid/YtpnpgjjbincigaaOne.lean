/- The plain law and the walk of PoolOne: the law returns true. (Printed by gen_one.py.) -/
import Derived.Test.YtpnpgjjbincigaaKee
namespace Go.Proofs.Ytpnpgjjbincigaa
open Go.RowKit
set_option linter.unusedVariables false

/-- does the n-th target wait -/
def Po.wt (f : Nat → Option Po.V) (T : List Po.U) (ev ti : Int) (n : Nat) : Bool := (Po.mvs f T ev ti 26).any fun m => decide (m.1 = 3) && decide (m.2 = Po.tgt n)
theorem Po.wt_is {f : Nat → Option Po.V} (hf : Po.Good f) (T : List Po.U) (ev ti : Int) {n : Nat} (hn : n < 26) : Po.wt f T ev ti n = (Po.oM ev ti (f n) (Po.tT T n)).any fun m => decide (m.1 = 3) && decide (m.2 = Po.tgt n) := by
  unfold Po.wt
  rw [Bool.eq_iff_iff, List.any_eq_true, List.any_eq_true]
  constructor
  · rintro ⟨m, h, h2⟩
    unfold Po.mvs at h
    obtain ⟨k, hk, hm⟩ := List.mem_flatMap.1 h
    have hk := List.mem_range.1 hk
    rw [Bool.and_eq_true, decide_eq_true_eq, decide_eq_true_eq] at h2
    have e := Po.oM_okU hf T ev ti k hk _ hm
    obtain rfl := Po.tgt_inj n k hn hk (h2.2.symm.trans e)
    exact ⟨m, hm, by rw [Bool.and_eq_true, decide_eq_true_eq, decide_eq_true_eq]; exact h2⟩
  · rintro ⟨m, h, h2⟩
    exact ⟨m, List.mem_flatMap.2 ⟨n, List.mem_range.2 hn, h⟩, h2⟩
/-- what has become of a number -/
theorem Po.one_cases {f : Nat → Option Po.V} (hf : Po.Good f) (T : List Po.U) (ev ti : Int) {n : Nat} (hn : n < 26) :
    (Po.fS f T ev ti n = none ∧ Po.wt f T ev ti n = false ∧ Po.tgt n ∉ T) ∨ (∃ j l, Po.fS f T ev ti n = some (j, l, ev, ti, false) ∧ Po.wt f T ev ti n = false ∧ Po.tgt n ∈ T) ∨
    (∃ j l e t, Po.fS f T ev ti n = some (j, l, e, t, true) ∧ Po.wt f T ev ti n = decide (Po.tgt n ∈ T)) := by
  rw [Po.wt_is hf T ev ti hn]
  unfold Po.fS Po.tT
  by_cases hin : Po.tgt n ∈ T
  · rw [if_pos hin]
    cases hfn : f n with
    | none => exact .inr (.inl ⟨_, _, rfl, by simp [Po.oM], hin⟩)
    | some a =>
      have ha := hf n a hn hfn
      obtain ⟨aj, al, ae, at', an⟩ := a
      by_cases h : ae = ev ∧ at' = ti ∧ an = false
      · obtain ⟨rfl, rfl, rfl⟩ := h
        exact .inr (.inl ⟨aj, al, by simp [Po.oS], by simp [Po.oM], hin⟩)
      · refine .inr (.inr ⟨aj, al, ae, at', ?_, ?_⟩)
        · simp only [Po.oS, List.head?_cons, Option.isSome_some, and_true]
          rw [if_neg h]
        · simp only [Po.oM, Option.isSome_some, and_true]
          rw [if_neg h]
          have ha2 : (aj, al) = Po.tgt n := ha
          rw [decide_eq_true hin]
          rw [← ha2]
          simp
  · rw [if_neg hin]
    cases hfn : f n with
    | none => exact .inl ⟨rfl, by simp [Po.oM], hin⟩
    | some a =>
      obtain ⟨aj, al, ae, at', an⟩ := a
      refine .inr (.inr ⟨aj, al, ae, at', by simp [Po.oS], ?_⟩)
      rw [decide_eq_false hin]
      cases an <;> simp [Po.oM]
/-- the slots behind the ends of the first ones -/
def Po.cut (G : List Po.V) (k : Nat) : List Po.V := (G.take k).filter (fun v => !v.2.2.2.2) ++ G.drop k
theorem Po.cut_zero (G : List Po.V) : Po.cut G 0 = G := rfl
theorem Po.cut_sub (G : List Po.V) (k : Nat) : (Po.cut G k).Sublist G := by
  unfold Po.cut
  conv => rhs; rw [← List.take_append_drop k G]
  exact List.Sublist.append List.filter_sublist (List.Sublist.refl _)
theorem Po.cut_keep (G : List Po.V) (k : Nat) (h : k < G.length) (he : G[k].2.2.2.2 = false) : Po.cut G (k + 1) = Po.cut G k := by
  unfold Po.cut
  rw [List.take_add_one, List.getElem?_eq_getElem h, List.filter_append, List.drop_eq_getElem_cons h]
  simp [he]
theorem Po.ok_sub {S S' : List Po.V} (h : Po.okVs S = true) (hs : S'.Sublist S) : Po.okVs S' = true := by
  obtain ⟨h1, h2⟩ := Po.okVs_mem S h
  exact Po.okVs_of S' (fun s hm => h1 s (hs.subset hm)) (h2.sublist (hs.map _))
theorem inj_of_pairwise {α β : Type} {f : α → β} : ∀ {l : List α}, l.Pairwise (fun a b => f a ≠ f b) → ∀ {a b : α}, a ∈ l → b ∈ l → f a = f b → a = b
  | [], _, a, b, ha, _, _ => nomatch ha
  | x :: l, h, a, b, ha, hb, e => by
    rw [List.pairwise_cons] at h
    rcases List.mem_cons.1 ha with h1 | h1 <;> rcases List.mem_cons.1 hb with h2 | h2
    · rw [h1, h2]
    · rw [h1] at e
      exact absurd e (h.1 b h2)
    · rw [h2] at e
      exact absurd e.symm (h.1 a h1)
    · exact inj_of_pairwise h.2 h1 h2 e
theorem Po.cut_end (G : List Po.V) (hok : Po.okVs G = true) (k : Nat) (h : k < G.length) (he : G[k].2.2.2.2 = true) : Po.endS (Po.cut G k) (Po.vu G[k]) = (0, Po.cut G (k + 1)) := by
  have hok2 := Po.ok_sub hok (Po.cut_sub G k)
  have hne := Po.ok_ne hok
  have hmem : G[k] ∈ Po.cut G k := List.mem_append_right _ (by rw [List.drop_eq_getElem_cons h]; exact List.mem_cons_self)
  have hrest : Po.rest (Po.cut G k) (Po.vu G[k]) = Po.cut G (k + 1) := by
    unfold Po.rest Po.cut
    have hall : ∀ x ∈ G, x ≠ G[k] → Po.vu x ≠ Po.vu G[k] := fun x hx hxe e => hxe (inj_of_pairwise hne hx (List.getElem_mem _) e)
    have hnd : G.Pairwise (· ≠ ·) := hne.imp (fun h e => h (congrArg Po.vu e))
    have h1 : ∀ x ∈ G.take k, x ≠ G[k] := fun x hx => by
      conv at hnd => rw [← List.take_append_drop k G]
      exact (List.pairwise_append.1 hnd).2.2 x hx G[k] (by rw [List.drop_eq_getElem_cons h]; exact List.mem_cons_self)
    have h2 : ∀ x ∈ G.drop (k + 1), x ≠ G[k] := fun x hx => by
      have h3 := (List.pairwise_append.1 (by conv at hnd => rw [← List.take_append_drop k G]
                                             exact hnd)).2.1
      rw [List.drop_eq_getElem_cons h, List.pairwise_cons] at h3
      exact (h3.1 x hx).symm
    rw [List.filter_append, List.take_add_one, List.getElem?_eq_getElem h, List.filter_append]
    congr 1
    · rw [List.filter_eq_self.2 (fun x hx => by
        have hx2 := List.mem_filter.1 hx
        rw [decide_eq_false (hall x (List.mem_of_mem_take hx2.1) (h1 x hx2.1))]; rfl)]
      simp [he]
    · rw [List.drop_eq_getElem_cons h, List.filter_cons_of_neg (by simp), List.filter_eq_self.2 (fun x hx => by
        rw [decide_eq_false (hall x (List.mem_of_mem_drop hx) (h2 x hx))]; rfl)]
  unfold Po.endS
  rw [if_pos hok2]
  cases hx : Po.fx (Po.cut G k) (Po.vu G[k]) with
  | none => exact absurd rfl ((Po.fx_facts _ _).2 hx G[k] hmem)
  | some i =>
    obtain ⟨h1, h2, _⟩ := (Po.fx_facts _ _).1 i hx
    have e : (Po.cut G k)[i] = G[k] := inj_of_pairwise hne ((Po.cut_sub G k).subset (List.getElem_mem h1)) (List.getElem_mem _) h2
    have e2 := Po.rest_some (Po.vu G[k]) (Po.cut G k) i (Po.ok_ne hok2) hx
    rw [hrest] at e2
    simp only [List.getElem?_eq_getElem h1, e]
    rw [e2, if_pos (by show G[k].2.2.2.2 = true; exact he)]
/-- the slots that run -/
def Po.fr (g : Nat → Option Po.V) (n : Nat) : Option Po.V := (g n).filter fun v => !v.2.2.2.2
theorem Po.cut_all (g : Nat → Option Po.V) (k : Nat) : (Po.rowsOf g k).filter (fun v => !v.2.2.2.2) = Po.rowsOf (Po.fr g) k := by
  induction k with
  | zero => rfl
  | succ k ih =>
    rw [Po.rowsOf_succ, Po.rowsOf_succ, List.filter_append, ih]
    congr 1
    unfold Po.fr
    cases g k with
    | none => rfl
    | some v => cases h : v.2.2.2.2 <;> simp [Option.filter, h]
theorem Po.fr_good {g : Nat → Option Po.V} (hg : Po.Good g) : Po.Good (Po.fr g) := fun n v hn h => by
  unfold Po.fr at h
  rw [Option.filter_eq_some_iff] at h
  exact hg n v hn h.1
/-- the slots of a sync where all that runs is wanted as it is -/
def Po.all (T : List Po.U) (ev ti : Int) (n : Nat) : Option Po.V := (Po.tT T n).map fun t => (t.1, t.2, ev, ti, false)
theorem Po.fr_sync {f : Nat → Option Po.V} (hf : Po.Good f) (T : List Po.U) (ev ti : Int) {n : Nat} (hn : n < 26) :
    Po.fS (Po.fr (Po.fS f T ev ti)) T ev ti n = Po.all T ev ti n ∧ ∀ m ∈ Po.oM ev ti (Po.fr (Po.fS f T ev ti) n) (Po.tT T n), m.1 = 1 := by
  have hg := Po.fS_good hf T ev ti
  rcases Po.one_cases hf T ev ti hn with ⟨h1, _, h3⟩ | ⟨j, l, h1, _, h3⟩ | ⟨j, l, e, t, h1, _⟩
  · have h4 : Po.fr (Po.fS f T ev ti) n = none := by unfold Po.fr; rw [h1]; rfl
    have h5 : Po.tT T n = none := if_neg h3
    refine ⟨?_, ?_⟩
    · show (Po.oS ev ti (Po.fr (Po.fS f T ev ti) n) (Po.tT T n)).head? = (Po.tT T n).map _
      rw [h4, h5]; rfl
    · rw [h4, h5]; intro m hm; simp [Po.oM] at hm
  · have h4 : Po.fr (Po.fS f T ev ti) n = some (j, l, ev, ti, false) := by unfold Po.fr; rw [h1]; rfl
    have h5 : Po.tT T n = some (Po.tgt n) := if_pos h3
    have h6 : (j, l) = Po.tgt n := hg n _ hn h1
    refine ⟨?_, ?_⟩
    · show (Po.oS ev ti (Po.fr (Po.fS f T ev ti) n) (Po.tT T n)).head? = (Po.tT T n).map _
      rw [h4, h5, ← h6]
      simp [Po.oS]
    · rw [h4, h5]; intro m hm; simp [Po.oM] at hm
  · have h4 : Po.fr (Po.fS f T ev ti) n = none := by unfold Po.fr; rw [h1]; rfl
    refine ⟨?_, ?_⟩
    · show (Po.oS ev ti (Po.fr (Po.fS f T ev ti) n) (Po.tT T n)).head? = (Po.tT T n).map _
      rw [h4]
      cases Po.tT T n <;> rfl
    · rw [h4]
      intro m hm
      cases h5 : Po.tT T n with
      | none => rw [h5] at hm; simp [Po.oM] at hm
      | some t => rw [h5] at hm; simp [Po.oM] at hm; rw [hm]
theorem Po.rows_congr {f g : Nat → Option Po.V} : ∀ k, (∀ n, n < k → f n = g n) → Po.rowsOf f k = Po.rowsOf g k
  | 0, _ => rfl
  | k + 1, h => by rw [Po.rowsOf_succ, Po.rowsOf_succ, Po.rows_congr k (fun n hn => h n (by omega)), h k (Nat.lt_succ_self _)]
theorem Po.all_good (T : List Po.U) (ev ti : Int) : Po.Good (Po.all T ev ti) := fun n v _ h => by
  unfold Po.all Po.tT at h
  split at h
  · simp at h; subst h; rfl
  · cases h
/-- the second sync -/
theorem Po.one_sync {f : Nat → Option Po.V} (hf : Po.Good f) (hok : Po.okVs (Po.rowsOf f 26) = true) {T : List Po.U} (hT : Po.Small T) (ev ti : Int) (hn : Po.num ev ti = true) :
    ∃ M, Po.sync ((Po.rowsOf (Po.fS f T ev ti) 26).filter fun v => !v.2.2.2.2) T ev ti = (0, Po.rowsOf (Po.all T ev ti) 26, M) ∧ (∀ m ∈ M, m.1 = 1) ∧ M.length ≤ 52 := by
  have hg := Po.fS_good hf T ev ti
  have hok2 : Po.okVs (Po.rowsOf (Po.fr (Po.fS f T ev ti)) 26) = true := by
    rw [← Po.cut_all]
    exact Po.ok_sub (Po.fS_ok hf hok T ev ti hn) List.filter_sublist
  refine ⟨_, ?_, ?_, Po.mvs_len (Po.fr (Po.fS f T ev ti)) T ev ti 26⟩
  · rw [Po.cut_all, Po.rows_sync (Po.fr_good hg) hok2 hT ev ti hn, Po.rows_congr 26 (fun n h => (Po.fr_sync hf T ev ti h).1)]
    rfl
  · intro m hm
    obtain ⟨n, h1, h2⟩ := List.mem_flatMap.1 hm
    exact (Po.fr_sync hf T ev ti (List.mem_range.1 h1)).2 m h2

set_option maxHeartbeats 6400000 in
set_option maxRecDepth 100000 in
theorem walk_PoolOne (a0 : Option Addr) (xs0 : List Sm5) (len0 cap0 : Nat) (a1 : Option Addr) (xs1 : List UInt8) (len1 cap1 : Nat) (n2 : Int) (w : World) (hlen0 : xs0.length = len0) (hAt0 : Po.SmAt a0 xs0 w) (hlc0 : len0 ≤ cap0) (hmax0 : cap0 ≤ maxLen) (hlen1 : xs1.length = len1) (hAt1 : Po.U8At a1 xs1 w) (hlc1 : len1 ≤ cap1) (hmax1 : cap1 ≤ maxLen) (wn2 : (Lit.int .u8 n2).wf = true) :
    Calls Try.prog 8 #[.slice a0 len0 cap0, .slice a1 len1 cap1, .int .u8 n2] w fun e w' => e = .returned (.bool true) ∧ Below w.heap.size w w' := by
  obtain ⟨y, hy, rfl⟩ := row.wf_u8 wn2
  obtain ⟨⟨ev, ti⟩, hpl⟩ : ∃ x, Po.pl y = x := ⟨_, rfl⟩
  have HAW := Lib.hid (fun w => awake_is w)
  have HMD := Lib.hid (fun w hA => made_is5 a0 xs0 len0 cap0 w hlen0 hlc0 hA (by omega))
  have HWD := Lib.hid (fun w hA => wanted_is a1 xs1 len1 cap1 w hlen1 hlc1 hA (by omega))
  have HPLN := Lib.hid (fun w => plans_is y (y : Int) rfl hy ev ti hpl w)
  have HA0 := Lib.hid hAt0
  have HA1 := Lib.hid hAt1
  have HNUM : Hid (Po.num ev ti = true) := by have := Po.pl_num y; rw [hpl] at this; exact this
  obtain ⟨f, hf⟩ : ∃ f, Po.fmade xs0 = f := ⟨_, rfl⟩
  obtain ⟨TT, hTT⟩ : ∃ TT, Po.want xs1 = TT := ⟨_, rfl⟩
  have HGF : Hid (Po.Good f) := by show Po.Good f; rw [← hf]; exact Po.fmade_good xs0
  have HTS : Hid (Po.Small TT) := by show Po.Small TT; rw [← hTT]; exact Po.want_small xs1
  have HOK : Hid (Po.okVs (Po.rowsOf f 26) = true) := by show _ = _; rw [← hf]; exact Po.made_ok xs0
  have hmr : Po.made xs0 26 = Po.rowsOf f 26 := by rw [← hf]; rfl
  have HWLEN : Hid (TT.length ≤ 30) := by show _ ≤ _; rw [← hTT]; unfold Po.want; rw [List.length_map, List.length_take]; omega
  rw [hmr] at HMD
  rw [hTT] at HWD
  clear hf hTT hmr hAt0 hAt1 hlen0 hlen1 hlc0 hlc1 hmax0 hmax1 wn2 hpl hy
  go_enter Try.func8, Try.ntmps8
  go_wp2_with (go_at_call 13; refine (HAW.out _).mono ?_)
  first | rintro e w1 rfl hb1 | rintro e w1 ⟨rfl, hb1⟩
  go_wp2_with (go_at_call 17; refine (HMD.out _ (HA0.out.below hb1 (Nat.le_refl _))).mono ?_)
  first | rintro e w2 v ss rfl hO hv hb2 | rintro e w2 ⟨⟨v, ss, rfl, hO, hv⟩, hb2⟩
  have hb3 := below_next hb1 hb2
  obtain ⟨pv, cv, rfl, hcv1, hcv2⟩ := hO.form
  obtain ⟨N, hN⟩ : ∃ N, ss.length = N := ⟨_, rfl⟩
  rw [hN] at hO hcv1 ⊢
  have HO2 := Lib.hid (hO.lift hb1.size)
  have HV := Lib.hid hv
  have hN26 : N ≤ 26 := by rw [← hN, ← List.length_map (f := Sl.view), hv]; exact Po.rows_len _ _
  have HN := Lib.hid hN
  have HB3 := Lib.hid hb3
  clear hO hv hN hb1 hb2 HMD HAW HA0
  go_wp2_with (go_at_call 26; refine (HWD.out _ (HA1.out.below hb3 (Nat.le_refl _))).mono ?_)
  first | rintro e w4 v1 ts rfl hT hvt hb4 | rintro e w4 ⟨⟨v1, ts, rfl, hT, hvt⟩, hb4⟩
  obtain ⟨pt, ct, rfl⟩ := hT.form
  obtain ⟨M, hM⟩ : ∃ M, ts.length = M := ⟨_, rfl⟩
  rw [hM] at hT ⊢
  have hb5 := below_next hb3 hb4
  have HT4 := Lib.hid (hT.lift hb3.size)
  have HVT := Lib.hid hvt
  have HM := Lib.hid hM
  have hM30 : M ≤ 30 := by
    rw [← hM, ← List.length_map (f := Po.tv), hvt]
    exact HWLEN.out
  clear hT hvt hM hb3 HWD HA1
  have HB5 := Lib.hid hb5
  have HO4 : Hid (Po.Own w.heap.size (.slice pv N cv) ss w4) := HO2.out.below hb4 (Nat.le_refl _)
  clear hb4 HO2
  go_wp2_with (go_at_call 27; refine (HPLN.out _).mono ?_)
  first | rintro e w5 rfl hb6 | rintro e w5 ⟨rfl, hb6⟩
  have HB6 := Lib.hid (below_next hb5 hb6)
  have HO5 : Hid (Po.Own w.heap.size (.slice pv N cv) ss w5) := HO4.out.below hb6 (Nat.le_refl _)
  have HT5 : Hid (OwnTs w.heap.size (.slice pt M ct) ts w5) := HT4.out.below hb6 (Nat.le_refl _)
  have HUS := Lib.hid (Po.rows_okU HGF.out)
  have HUT := Lib.hid (Po.small_okU HTS.out)
  have HSY := Lib.hid (sync_is pv pt ss ts N cv M ct ev ti 0 _ _ (by rw [HV.out, HVT.out]; exact Po.rows_sync HGF.out HOK.out HTS.out ev ti HNUM.out) w5 HN.out HM.out HO5.out.at.1 HT5.out.pos.1 (HO5.out.any HV.out HUS.out) (fun t ht => Po.okU.any ⟨(HT5.out.2 t ht).1, (HT5.out.2 t ht).2⟩ (Awk.okT HVT.out HUT.out t ht)) (by omega) (by omega))
  clear hb5 hb6 HO4 HT4 HPLN
  go_wp2_with (go_at_call 25; refine HSY.out.mono ?_)
  first | rintro e w6 v1 v2 s2 m2 rfl hR hs hm hb7 | rintro e w6 v1 v2 rfl s2 m2 hR hs hm hb7 | rintro e w6 ⟨⟨v1, v2, s2, m2, rfl, hR, hs, hm⟩, hb7⟩
  obtain ⟨⟨pS, cS, rfl, hcS, hcS2⟩, pM, cM, rfl, hcM, hcM2⟩ := hR.form
  obtain ⟨N2, hN2⟩ : ∃ N2, s2.length = N2 := ⟨_, rfl⟩
  obtain ⟨M2, hM2⟩ : ∃ M2, m2.length = M2 := ⟨_, rfl⟩
  rw [hN2, hM2] at hR
  rw [hN2] at hcS ⊢
  rw [hM2] at hcM ⊢
  obtain ⟨g, hg⟩ : ∃ g, Po.fS f TT ev ti = g := ⟨_, rfl⟩
  rw [hg] at hs
  have HGG : Hid (Po.Good g) := by show Po.Good g; rw [← hg]; exact Po.fS_good HGF.out TT ev ti
  have HG := Lib.hid hg
  have hN226 : N2 ≤ 26 := by rw [← hN2, ← List.length_map (f := Sl.view), hs]; exact Po.rows_len _ _
  have HB7 := Lib.hid (below_next HB6.out hb7)
  have HR := Lib.hid hR
  have HS2 := Lib.hid hs
  have HM2 : Hid (m2.map Mv.view = Po.mvs f TT ev ti 26) := hm
  have HN2 := Lib.hid hN2
  have HLM2 := Lib.hid hM2
  have HO6 : Hid (Po.Own w.heap.size (.slice pv N cv) ss w6) := HO5.out.below hb7 (Nat.le_refl _)
  have HT6 : Hid (OwnTs w.heap.size (.slice pt M ct) ts w6) := HT5.out.below hb7 (Nat.le_refl _)
  have HOS : Hid (Po.Own w5.heap.size (.slice pS N2 cS) s2 w6) := ⟨hR.rs, hR.ts⟩
  have HUS2 := Lib.hid (Po.rows_okU HGG.out)
  have HF1 := Lib.hid (HO6.out.n HV.out HUS.out)
  have HF2 := Lib.hid (HOS.out.n HS2.out HUS2.out)
  have HFT : Hid (∀ s ∈ ts, s.ls.length = s.n ∧ s.n ≤ maxLen) := fun t ht => ⟨(HT6.out.2 t ht).1, by have h9 := (Awk.okT HVT.out HUT.out t ht).2.2; have h8 := (HT6.out.2 t ht).1; have h7 : t.ls.length ≤ 1000 := h9; unfold maxLen; omega⟩
  have HS56 := hb7.size
  clear hg hR hs hm hb7 hN2 hM2 HSY HO5 HT5
  have HB7w := Lib.hid HB7.out
  have HB5w : Hid (w.heap.size ≤ w5.heap.size) := HB6.out.size
  have HB56 : Hid (w5.heap.size ≤ w6.heap.size) := HS56
  have HOG := Lib.hid (Po.fS_ok HGF.out HOK.out TT ev ti HNUM.out)
  rw [HG.out] at HOG
  have hm52 : M2 ≤ 52 := by have h3 := congrArg List.length HM2.out; rw [List.length_map] at h3; have := HLM2.out; have := Po.mvs_len f TT ev ti 26; omega
  have HFM : Hid (∀ m ∈ m2, m.t.ls.length = m.t.n ∧ m.t.n ≤ maxLen) := fun m hm => Po.okU.n (HR.out.tm m hm) (Awk.okM HM2.out (Po.mvs_okU HGF.out TT ev ti) m hm)
  have HRG := Lib.hid (pright_is pS s2 N2 cS true (by rw [HS2.out]; exact HOG.out) w6 HN2.out HOS.out.at.1 (HOS.out.any HS2.out HUS2.out) (by omega))
  go_wp2_with (go_at_call 23; refine HRG.out.mono ?_)
  first | rintro e wR rfl hb8 | rintro e wR ⟨rfl, hb8⟩
  have HB6r := Lib.hid hb8
  clear hb8 HRG
  go_wp2_with fail
  go_loopw [55] (fun i wq => ∃ k : Nat, k ≤ 26 ∧ i = .int .i64 (k : Int) ∧ Hid (Below w6.heap.size w6 wq)) (fun i _ => 26 - (intOf i).toNat)
  case atStart => exact ⟨0, Nat.zero_le _, rfl, HB6r.out⟩
  case round =>
    obtain ⟨wj, rfl⟩ : ∃ wo : World, wo = wr := ⟨_, rfl⟩
    obtain ⟨k, hk, rfl, HBJ⟩ := hrel
    have hsj := HBJ.out.size
    by_cases hlt : k < 26
    · have n1 : (0 : Int) ≤ (k : Int) := by omega
      have n3 : (k : Int) < 26 := by omega
      have HT := Lib.hid (fun w => target_is k (by omega) w)
      go_wp2_with (go_at_call 15; refine (HT.out _).mono ?_)
      first | rintro e w7 t rfl hOt hvt hb8 | rintro e w7 ⟨⟨t, rfl, hOt, hvt⟩, hb8⟩
      obtain ⟨tj, tp, tn, tc, tl⟩ := t
      have hb9 : Below w6.heap.size w6 w7 := HBJ.out.trans (hb8.mono hsj)
      have hs7 := hb9.size
      have HOT : Hid (OwnT w6.heap.size ⟨tj, tp, tn, tc, tl⟩ w7) := hOt.lift hsj
      have HVK := Lib.hid hvt
      have HTN : Hid ((⟨tj, tp, tn, tc, tl⟩ : Can.T).ls.length = (⟨tj, tp, tn, tc, tl⟩ : Can.T).n ∧ (⟨tj, tp, tn, tc, tl⟩ : Can.T).n ≤ maxLen) := Po.okU.n hOt (by rw [hvt]; exact Po.tgt_ok k)
      have HB9 := Lib.hid hb9
      have HKB := Lib.hid (alloc_new w7 (.cells #[.string tj, .slice tp tn tc] 29))
      have hba : Below w7.heap.size w7 (w7.alloc (.cells #[.string tj, .slice tp tn tc] 29)) := (Below.refl _ _).alloc (Nat.le_refl _) _
      have HB10 := Lib.hid (HB9.out.trans (hba.mono hs7))
      obtain ⟨⟨i2, is⟩, hfk⟩ : ∃ x, Po.find (Po.rowsOf g 26) (Po.tgt k) = x := ⟨_, rfl⟩
      have HFK := Lib.hid hfk
      have HLB := Lib.hid (HOT.out.at.below hba (Nat.le_refl _))
      have HL2 := Lib.hid (lfind_is pS s2 ⟨tj, tp, tn, tc, tl⟩ N2 cS i2 is (by rw [HS2.out, HVK.out]; exact hfk) (w7.alloc (.cells #[.string tj, .slice tp tn tc] 29)) HN2.out (HOS.out.at.1.below HB10.out (Nat.le_refl _)) HLB.out HF2.out HTN.out.1 HTN.out.2 (by omega))
      clear hfk hOt hvt hb8 hb9 hba HT
      go_wp2_with (go_at_call 28; refine HL2.out.mono ?_)
      first | rintro e w8 rfl hb11 | rintro e w8 ⟨rfl, hb11⟩
      have HB8 : Hid (Below w6.heap.size w6 w8) := HB10.out.trans (hb11.mono (by simp; omega))
      have hk8 := below_kept hb11 HKB.out (by simp)
      have c80 : w8.cell? ⟨w7.heap.size, 0, none⟩ = some (.string tj) := by rw [Lib.cell_of_heap hk8]; rfl
      have c81 : w8.cell? ⟨w7.heap.size, 1, none⟩ = some (.slice tp tn tc) := by rw [Lib.cell_of_heap hk8]; rfl
      have hlt8 : w7.heap.size < w8.heap.size := lt_of_heap hk8
      have HLB8 : Hid (Lab.At tp tl w8) := HLB.out.below hb11 (Nat.le_refl _)
      have HX8 : Hid (Po.Hd w7.heap.size ⟨tj, tp, tn, tc, tl⟩ w8) := ⟨hlt8, c80, c81⟩
      obtain ⟨wt, hwt⟩ : ∃ wt, Po.wt f TT ev ti k = wt := ⟨_, rfl⟩
      have HCK := Lib.hid (onesC_is pM m2 ⟨tj, tp, tn, tc, tl⟩ w7.heap.size M2 cM wt (by rw [← hwt]; unfold Po.wt; rw [List.any_eq_true, ← HM2.out]; exact ⟨fun ⟨v, h1, h2⟩ => by obtain ⟨m, hm, rfl⟩ := List.mem_map.1 h1; rw [Bool.and_eq_true, decide_eq_true_eq, decide_eq_true_eq] at h2; exact ⟨m, hm, h2.1, h2.2.trans HVK.out.symm⟩, fun ⟨m, h1, h2, h3⟩ => ⟨Mv.view m, List.mem_map_of_mem h1, by rw [Bool.and_eq_true, decide_eq_true_eq, decide_eq_true_eq]; exact ⟨h2, h3.trans HVK.out⟩⟩⟩) w8 HLM2.out (HR.out.mat.1.below HB8.out (Nat.le_refl _)) HX8.out HLB8.out HFM.out HTN.out.1 HTN.out.2 (by omega))
      have HHS := Lib.hid (fun b (hb : b = true ↔ Po.tgt k ∈ TT) w h1 h2 => has_is pt ts ⟨tj, tp, tn, tc, tl⟩ M ct b (by rw [HVK.out, HVT.out]; exact hb) w HM.out h1 h2 HFT.out HTN.out.1 HTN.out.2 (by omega))
      have HWT := Lib.hid hwt
      clear hb11 hk8 HL2 HKB hwt HB10 HLB
      rcases Po.one_cases HGF.out TT ev ti hlt with ⟨h1, h2, h3⟩ | ⟨j, l, h1, h2, h3⟩ | ⟨j, l, e0, t0, h1, h2⟩
      · rw [HG.out] at h1
        rw [HWT.out] at h2
        subst h2
        have hf0 := Po.rows_none HGG.out k hlt h1
        rw [HFK.out] at hf0
        simp only [Prod.mk.injEq] at hf0
        obtain ⟨rfl, rfl⟩ := hf0
        have HH2 := Lib.hid (HHS.out false ⟨fun h => (nomatch h), fun h => absurd h h3⟩)
        clear HHS
        go_wp2_with (go_at_call 29; refine HCK.out.mono ?_)
        first | rintro e w9 rfl hb9 | rintro e w9 ⟨rfl, hb9⟩
        have HB69 : Hid (Below w6.heap.size w6 w9) := below_next HB8.out hb9
        have HX9 : Hid (Po.Hd w7.heap.size ⟨tj, tp, tn, tc, tl⟩ w9) := HX8.out.below hb9
        have HLB9 : Hid (Lab.At tp tl w9) := HLB8.out.below hb9 (Nat.le_refl _)
        obtain ⟨hlt9, c90, c91⟩ := HX9.out
        clear c80 c81 hb9 HCK
        go_wp2_with (go_at_call 31; refine (HH2.out _ (HT6.out.pos.1.below HB69.out (Nat.le_refl _)) HLB9.out).mono ?_)
        first | rintro e wa rfl hba | rintro e wa ⟨rfl, hba⟩
        have HB6a : Hid (Below w6.heap.size w6 wa) := below_next HB69.out hba
        clear hba HH2
        go_wp2_with fail
        go_roundw
        case rel => exact ⟨k + 1, by omega, by go_num, HB6a.out⟩
        case measure => simp [intOf]; omega
      · rw [HG.out] at h1
        rw [HWT.out] at h2
        obtain ⟨q2, hq0, hql, hqv⟩ := Po.rows_some HGG.out k hlt _ h1
        rw [HFK.out] at hq0
        simp only [Prod.mk.injEq] at hq0
        obtain ⟨rfl, rfl⟩ := hq0
        obtain ⟨b2, o2, rfl, hb2, z2, z3, z4⟩ := HOS.out.at.1.cell35 HS2.out hql
        rw [hqv] at z2 z3 z4
        dsimp only at z2 z3 z4
        have m3 : (0 : Int) ≤ (q2 : Int) := by omega
        have m4 : (q2 : Int) < (N2 : Int) := by have := HN2.out; have h3 := congrArg List.length HS2.out; rw [List.length_map] at h3; omega
        have HZ := Lib.hid (show _ ∧ _ ∧ _ from ⟨z2, z3, z4⟩)
        clear z2 z3 z4 hqv
        have z2 := (HB8.out.cell (p := ⟨b2, o2 + q2 * 5 + 2, none⟩) hb2).trans HZ.out.1
        have z3 := (HB8.out.cell (p := ⟨b2, o2 + q2 * 5 + 3, none⟩) hb2).trans HZ.out.2.1
        have z4 := (HB8.out.cell (p := ⟨b2, o2 + q2 * 5 + 4, none⟩) hb2).trans HZ.out.2.2
        have hb28 : b2 < w8.heap.size := by have := HB8.out.size; omega
        subst h2
        have HH2 := Lib.hid (HHS.out true ⟨fun _ => h3, fun _ => rfl⟩)
        clear HHS
        go_wp2_with (go_at_call 29; refine HCK.out.mono ?_)
        first | rintro e w9 rfl hb9 | rintro e w9 ⟨rfl, hb9⟩
        have HB69 : Hid (Below w6.heap.size w6 w9) := below_next HB8.out hb9
        have HX9 : Hid (Po.Hd w7.heap.size ⟨tj, tp, tn, tc, tl⟩ w9) := HX8.out.below hb9
        have HLB9 : Hid (Lab.At tp tl w9) := HLB8.out.below hb9 (Nat.le_refl _)
        obtain ⟨hlt9, c90, c91⟩ := HX9.out
        clear c80 c81 hb9 HCK
        clear z2 z3 z4
        have y2 := (HB69.out.cell (p := ⟨b2, o2 + q2 * 5 + 2, none⟩) hb2).trans HZ.out.1
        have y3 := (HB69.out.cell (p := ⟨b2, o2 + q2 * 5 + 3, none⟩) hb2).trans HZ.out.2.1
        have y4 := (HB69.out.cell (p := ⟨b2, o2 + q2 * 5 + 4, none⟩) hb2).trans HZ.out.2.2
        have hb29 : b2 < w9.heap.size := by have := HB69.out.size; omega
        go_wp2_with (go_at_call 31; refine (HH2.out _ (HT6.out.pos.1.below HB69.out (Nat.le_refl _)) HLB9.out).mono ?_)
        first | rintro e wa rfl hba | rintro e wa ⟨rfl, hba⟩
        have HB6a : Hid (Below w6.heap.size w6 wa) := below_next HB69.out hba
        clear hba HH2
        clear y2 y3 y4
        have x2 := (HB6a.out.cell (p := ⟨b2, o2 + q2 * 5 + 2, none⟩) hb2).trans HZ.out.1
        have x3 := (HB6a.out.cell (p := ⟨b2, o2 + q2 * 5 + 3, none⟩) hb2).trans HZ.out.2.1
        have x4 := (HB6a.out.cell (p := ⟨b2, o2 + q2 * 5 + 4, none⟩) hb2).trans HZ.out.2.2
        have hb2a : b2 < wa.heap.size := by have := HB6a.out.size; omega
        have qe : (ev != ev) = false := by simp
        have qt : (ti != ti) = false := by simp
        go_wp2_with fail
        go_roundw
        case rel => exact ⟨k + 1, by omega, by go_num, HB6a.out⟩
        case measure => simp [intOf]; omega
      · rw [HG.out] at h1
        rw [HWT.out] at h2
        obtain ⟨q2, hq0, hql, hqv⟩ := Po.rows_some HGG.out k hlt _ h1
        rw [HFK.out] at hq0
        simp only [Prod.mk.injEq] at hq0
        obtain ⟨rfl, rfl⟩ := hq0
        obtain ⟨b2, o2, rfl, hb2, z2, z3, z4⟩ := HOS.out.at.1.cell35 HS2.out hql
        rw [hqv] at z2 z3 z4
        dsimp only at z2 z3 z4
        have m3 : (0 : Int) ≤ (q2 : Int) := by omega
        have m4 : (q2 : Int) < (N2 : Int) := by have := HN2.out; have h3 := congrArg List.length HS2.out; rw [List.length_map] at h3; omega
        have HZ := Lib.hid (show _ ∧ _ ∧ _ from ⟨z2, z3, z4⟩)
        clear z2 z3 z4 hqv
        have z2 := (HB8.out.cell (p := ⟨b2, o2 + q2 * 5 + 2, none⟩) hb2).trans HZ.out.1
        have z3 := (HB8.out.cell (p := ⟨b2, o2 + q2 * 5 + 3, none⟩) hb2).trans HZ.out.2.1
        have z4 := (HB8.out.cell (p := ⟨b2, o2 + q2 * 5 + 4, none⟩) hb2).trans HZ.out.2.2
        have hb28 : b2 < w8.heap.size := by have := HB8.out.size; omega
        by_cases hin : Po.tgt k ∈ TT
        · rw [decide_eq_true hin] at h2
          subst h2
          have HH2 := Lib.hid (HHS.out true ⟨fun _ => hin, fun _ => rfl⟩)
          clear HHS
          go_wp2_with (go_at_call 29; refine HCK.out.mono ?_)
          first | rintro e w9 rfl hb9 | rintro e w9 ⟨rfl, hb9⟩
          have HB69 : Hid (Below w6.heap.size w6 w9) := below_next HB8.out hb9
          have HX9 : Hid (Po.Hd w7.heap.size ⟨tj, tp, tn, tc, tl⟩ w9) := HX8.out.below hb9
          have HLB9 : Hid (Lab.At tp tl w9) := HLB8.out.below hb9 (Nat.le_refl _)
          obtain ⟨hlt9, c90, c91⟩ := HX9.out
          clear c80 c81 hb9 HCK
          clear z2 z3 z4
          have y2 := (HB69.out.cell (p := ⟨b2, o2 + q2 * 5 + 2, none⟩) hb2).trans HZ.out.1
          have y3 := (HB69.out.cell (p := ⟨b2, o2 + q2 * 5 + 3, none⟩) hb2).trans HZ.out.2.1
          have y4 := (HB69.out.cell (p := ⟨b2, o2 + q2 * 5 + 4, none⟩) hb2).trans HZ.out.2.2
          have hb29 : b2 < w9.heap.size := by have := HB69.out.size; omega
          go_wp2_with (go_at_call 31; refine (HH2.out _ (HT6.out.pos.1.below HB69.out (Nat.le_refl _)) HLB9.out).mono ?_)
          first | rintro e wa rfl hba | rintro e wa ⟨rfl, hba⟩
          have HB6a : Hid (Below w6.heap.size w6 wa) := below_next HB69.out hba
          clear hba HH2
          clear y2 y3 y4
          have x2 := (HB6a.out.cell (p := ⟨b2, o2 + q2 * 5 + 2, none⟩) hb2).trans HZ.out.1
          have x3 := (HB6a.out.cell (p := ⟨b2, o2 + q2 * 5 + 3, none⟩) hb2).trans HZ.out.2.1
          have x4 := (HB6a.out.cell (p := ⟨b2, o2 + q2 * 5 + 4, none⟩) hb2).trans HZ.out.2.2
          have hb2a : b2 < wa.heap.size := by have := HB6a.out.size; omega
          go_wp2_with fail
          go_roundw
          case rel => exact ⟨k + 1, by omega, by go_num, HB6a.out⟩
          case measure => simp [intOf]; omega
        · rw [decide_eq_false hin] at h2
          subst h2
          have HH2 := Lib.hid (HHS.out false ⟨fun h => (nomatch h), fun h => absurd h hin⟩)
          clear HHS
          go_wp2_with (go_at_call 29; refine HCK.out.mono ?_)
          first | rintro e w9 rfl hb9 | rintro e w9 ⟨rfl, hb9⟩
          have HB69 : Hid (Below w6.heap.size w6 w9) := below_next HB8.out hb9
          have HX9 : Hid (Po.Hd w7.heap.size ⟨tj, tp, tn, tc, tl⟩ w9) := HX8.out.below hb9
          have HLB9 : Hid (Lab.At tp tl w9) := HLB8.out.below hb9 (Nat.le_refl _)
          obtain ⟨hlt9, c90, c91⟩ := HX9.out
          clear c80 c81 hb9 HCK
          clear z2 z3 z4
          have y2 := (HB69.out.cell (p := ⟨b2, o2 + q2 * 5 + 2, none⟩) hb2).trans HZ.out.1
          have y3 := (HB69.out.cell (p := ⟨b2, o2 + q2 * 5 + 3, none⟩) hb2).trans HZ.out.2.1
          have y4 := (HB69.out.cell (p := ⟨b2, o2 + q2 * 5 + 4, none⟩) hb2).trans HZ.out.2.2
          have hb29 : b2 < w9.heap.size := by have := HB69.out.size; omega
          go_wp2_with (go_at_call 31; refine (HH2.out _ (HT6.out.pos.1.below HB69.out (Nat.le_refl _)) HLB9.out).mono ?_)
          first | rintro e wa rfl hba | rintro e wa ⟨rfl, hba⟩
          have HB6a : Hid (Below w6.heap.size w6 wa) := below_next HB69.out hba
          clear hba HH2
          clear y2 y3 y4
          have x2 := (HB6a.out.cell (p := ⟨b2, o2 + q2 * 5 + 2, none⟩) hb2).trans HZ.out.1
          have x3 := (HB6a.out.cell (p := ⟨b2, o2 + q2 * 5 + 3, none⟩) hb2).trans HZ.out.2.1
          have x4 := (HB6a.out.cell (p := ⟨b2, o2 + q2 * 5 + 4, none⟩) hb2).trans HZ.out.2.2
          have hb2a : b2 < wa.heap.size := by have := HB6a.out.size; omega
          go_wp2_with fail
          go_roundw
          case rel => exact ⟨k + 1, by omega, by go_num, HB6a.out⟩
          case measure => simp [intOf]; omega
    · have n3 : (26 : Int) ≤ (k : Int) := by omega
      have HU0 : Hid (∀ S : List Po.V, S.Sublist (Po.rowsOf g 26) → ∀ v ∈ S, Po.okU (Po.vu v)) := fun S h v hv => HUS2.out v (h.subset hv)
      have HB0 := Lib.hid HBJ.out
      clear n3
      go_wp2_with fail
      go_loopw [11, 13, 128] (fun sv ev2 i wq => ∃ (k : Nat) (p3 : Option Addr) (s3 : List Sl) (c3 : Nat), k ≤ N2 ∧ i = .int .i64 (k : Int) ∧ ev2 = .int .i64 0 ∧ sv = .slice p3 s3.length c3 ∧ Hid (Po.Own w5.heap.size (.slice p3 s3.length c3) s3 wq) ∧ Hid (s3.map Sl.view = Po.cut (Po.rowsOf g 26) k) ∧ Hid (Below w6.heap.size w6 wq)) (fun _ _ i _ => N2 - (intOf i).toNat)
      case atStart => exact ⟨0, pS, s2, cS, Nat.zero_le _, rfl, rfl, by rw [HN2.out], by (show Po.Own _ _ _ _); rw [HN2.out]; exact HOS.out.below HB0.out (Nat.le_refl _), HS2.out, HB0.out⟩
      case round =>
        obtain ⟨wi, rfl⟩ : ∃ wo : World, wo = wr := ⟨_, rfl⟩
        obtain ⟨i, p3, s3, c3, hi, rfl, rfl, rfl, HO3, HV3, HBI⟩ := hrel
        have hsi := HBI.out.size
        have hl3 : s3.length ≤ 26 := by have h1 := congrArg List.length HV3.out; rw [List.length_map] at h1; have h2 := (Po.cut_sub (Po.rowsOf g 26) i).length_le; have h3 := Po.rows_len g 26; omega
        have HU3 := Lib.hid (HU0.out _ (Po.cut_sub (Po.rowsOf g 26) i))
        by_cases hlt : i < N2
        · have hil : i < s2.length := by rw [HN2.out]; exact hlt
          have hiG : i < (Po.rowsOf g 26).length := by rw [← HS2.out, List.length_map]; exact hil
          have hOI : Po.Own w5.heap.size (.slice pS N2 cS) s2 wi := HOS.out.below HBI.out (Nat.le_refl _)
          obtain ⟨b, oo, rfl, hc⟩ := hOI.at.1.cells (by omega)
          obtain ⟨d0, d1, d2, d3, d4⟩ := hc i hil
          have hls := (hOI.2 s2[i] (List.getElem_mem _)).at
          obtain ⟨f1, f2⟩ := HF2.out s2[i] (List.getElem_mem _)
          have hvv : Sl.view s2[i] = (Po.rowsOf g 26)[i] := view_at HS2.out i hil hiG
          have HGA := Lib.hid (Po.okU.any (hOI.2 s2[i] (List.getElem_mem _)) (HUS2.out (Sl.view s2[i]) (by rw [hvv]; exact List.getElem_mem _)))
          have HKE := Lib.hid (Po.cut_keep (Po.rowsOf g 26) i hiG)
          have HKC := Lib.hid (Po.cut_end (Po.rowsOf g 26) HOG.out i hiG)
          rw [← hvv] at HKE HKC
          obtain ⟨s, hs⟩ : ∃ s, s2[i] = s := ⟨_, rfl⟩
          rw [hs] at d0 d1 d2 d3 d4 hls f1 f2 HGA HKE HKC
          obtain ⟨⟨sj, sp, sn, sc, sl⟩, sev, sti, sen⟩ := s
          dsimp only at d0 d1 d2 d3 d4 hls f1 f2
          have n1 : (0 : Int) ≤ (i : Int) := by omega
          have n2 : (i : Int) < (N2 : Int) := by omega
          have HBA : Hid (Below wi.heap.size wi (wi.alloc (.cells #[.string sj, .slice sp sn sc, .int .i64 sev, .int .i64 sti, .bool sen] 33))) := (Below.refl _ _).alloc (Nat.le_refl _) _
          have HBW : Hid (Below w6.heap.size w6 (wi.alloc (.cells #[.string sj, .slice sp sn sc, .int .i64 sev, .int .i64 sti, .bool sen] 33))) := HBI.out.alloc hsi _
          have HLB : Hid (Lab.At sp sl (wi.alloc (.cells #[.string sj, .slice sp sn sc, .int .i64 sev, .int .i64 sti, .bool sen] 33))) := hls.below HBA.out (Nat.le_refl _)
          have HO3A : Hid (Po.Own w5.heap.size (.slice p3 s3.length c3) s3 (wi.alloc (.cells #[.string sj, .slice sp sn sc, .int .i64 sev, .int .i64 sti, .bool sen] 33))) := HO3.out.below HBA.out (Nat.le_refl _)
          clear hs hc hls f1 f2 hvv hOI
          cases sen
          · have HV4 : Hid (s3.map Sl.view = Po.cut (Po.rowsOf g 26) (i + 1)) := by show _ = _; rw [HKE.out rfl]; exact HV3.out
            go_wp2_with fail
            go_roundw
            case rel => exact ⟨i + 1, p3, s3, c3, by omega, by go_num, rfl, rfl, HO3A.out, HV4.out, HBW.out⟩
            case measure => simp [intOf]; omega
          · have HED := Lib.hid (pend_is p3 s3 ⟨sj, sp, sn, sc, sl⟩ s3.length c3 0 _ (by rw [HV3.out]; exact HKC.out rfl) (wi.alloc (.cells #[.string sj, .slice sp sn sc, .int .i64 sev, .int .i64 sti, .bool true] 33)) rfl HO3A.out.at.1 HLB.out (HO3A.out.any HV3.out HU3.out) HGA.out (by omega))
            go_wp2_with (go_at_call 18; refine HED.out.mono ?_)
            first | rintro e w8 v3 v4 s4 rfl hR hs hb8 | rintro e w8 v3 rfl v4 s4 hR hs hb8 | rintro e w8 ⟨⟨v3, v4, s4, rfl, hR, hs⟩, hb8⟩
            obtain ⟨⟨p4, c4, rfl, _⟩, _⟩ := hR.form
            have hB8 : Below w6.heap.size w6 w8 := HBW.out.trans (hb8.mono (by omega))
            have HO4 : Hid (Po.Own w5.heap.size (.slice p4 s4.length c4) s4 w8) := Po.Own.lift ⟨hR.rs, hR.ts⟩ (by have := HBW.out.size; have h9 := HB56.out; omega)
            have HV4 := Lib.hid hs
            have HB8 := Lib.hid hB8
            clear hb8 hB8 hR hs HED
            go_wp2_with fail
            go_roundw
            case rel => exact ⟨i + 1, p4, s4, c4, by omega, by go_num, rfl, rfl, HO4.out, HV4.out, HB8.out⟩
            case measure => simp [intOf]; omega
        · obtain rfl : i = N2 := by omega
          have n2 : (i : Int) ≤ (i : Int) := Int.le_refl _
          obtain ⟨M9, hsy, hM9, hM52⟩ := Po.one_sync HGF.out HOK.out HTS.out ev ti HNUM.out
          rw [HG.out] at hsy
          have hcut : Po.cut (Po.rowsOf g 26) i = (Po.rowsOf g 26).filter fun v => !v.2.2.2.2 := by
            have h1 : (Po.rowsOf g 26).length = i := by rw [← HS2.out, List.length_map, HN2.out]
            unfold Po.cut
            rw [List.take_of_length_le (by omega), List.drop_eq_nil_of_le (by omega), List.append_nil]
          have HSY := Lib.hid (sync_is p3 pt s3 ts s3.length c3 M ct ev ti 0 _ _ (by rw [HV3.out, hcut, HVT.out]; exact hsy) wi rfl HM.out HO3.out.at.1 (HT6.out.pos.1.below HBI.out (Nat.le_refl _)) (HO3.out.any HV3.out HU3.out) (fun t ht => Po.okU.any ⟨(HT6.out.2 t ht).1, (HT6.out.2 t ht).2⟩ (Awk.okT HVT.out HUT.out t ht)) (by omega) (by omega))
          have HM9 := Lib.hid hM9
          clear hsy hcut hM9
          go_wp2_with (go_at_call 25; refine HSY.out.mono ?_)
          first | rintro e w7 v3 v4 s4 m4 rfl hR3 hs3 hm3 hb9 | rintro e w7 v3 v4 rfl s4 m4 hR3 hs3 hm3 hb9 | rintro e w7 ⟨⟨v3, v4, s4, m4, rfl, hR3, hs3, hm3⟩, hb9⟩
          obtain ⟨⟨p4, c4, rfl, _⟩, pM4, cM4, rfl, _⟩ := hR3.form
          have HB7 : Hid (Below w6.heap.size w6 w7) := below_next HBI.out hb9
          have HR4 := Lib.hid hR3
          have HV4 := Lib.hid hs3
          have HM4 := Lib.hid hm3
          have HGA2 := Lib.hid (Po.all_good TT ev ti)
          have HU4 := Lib.hid (Po.rows_okU HGA2.out)
          have HO4 : Hid (Po.Own wi.heap.size (.slice p4 s4.length c4) s4 w7) := ⟨hR3.rs, hR3.ts⟩
          have hl4 : s4.length ≤ 26 := by rw [← List.length_map (f := Sl.view), hs3]; exact Po.rows_len _ _
          have hrn : ∀ v ∈ Po.rowsOf (Po.all TT ev ti) 26, ∃ n, n < 26 ∧ Po.tgt n ∈ TT ∧ v = ((Po.tgt n).1, (Po.tgt n).2, ev, ti, false) := fun v hv => by
            obtain ⟨n, hn, h⟩ := Po.rows_mem.1 hv
            unfold Po.all Po.tT at h
            split at h
            · rename_i hin; simp at h; exact ⟨n, hn, hin, h.symm⟩
            · cases h
          have hrl : (Po.runs (s4.map Sl.view)).length = s4.length := by
            unfold Po.runs
            rw [List.length_map, List.filter_eq_self.2, List.length_map]
            intro v hv
            rw [hs3] at hv
            obtain ⟨n, _, _, rfl⟩ := hrn v hv
            rfl
          have HRL := Lib.hid hrl
          have HRN := Lib.hid hrn
          have HRU := Lib.hid (running_is p4 s4 s4.length c4 w7 rfl HO4.out.at.1 (HO4.out.n2 HV4.out HU4.out) (by omega))
          clear hR3 hs3 hm3 hb9 hrl hrn HSY
          go_wp2_with (go_at_call 21; refine HRU.out.mono ?_)
          first | rintro e w8 v ts8 rfl hO8 hv8 hb8 | rintro e w8 ⟨⟨v, ts8, rfl, hO8, hv8⟩, hb8⟩
          obtain ⟨p8, c8, rfl⟩ := hO8.form
          have hl8 : ts8.length = s4.length := by have h1 := congrArg List.length hv8; rw [List.length_map, HRL.out] at h1; exact h1
          rw [hl8]
          have HB8 : Hid (Below w6.heap.size w6 w8) := below_next HB7.out hb8
          have HB78 := Lib.hid hb8
          have ql : ((s4.length : Int) != (s4.length : Int)) = false := by simp
          obtain ⟨N4, hN4⟩ : ∃ N4, s4.length = N4 := ⟨_, rfl⟩
          rw [hN4] at HO4 ql hl4 ⊢
          have HN4 := Lib.hid hN4
          clear hO8 hv8 hb8 hl8 hN4 HRU
          go_wp2_with fail
          go_loopw [165] (fun i wq => ∃ k : Nat, k ≤ N4 ∧ i = .int .i64 (k : Int) ∧ Hid (Below w8.heap.size w8 wq)) (fun i _ => N4 - (intOf i).toNat)
          case atStart => exact ⟨0, Nat.zero_le _, rfl, Below.refl _ _⟩
          case round =>
            obtain ⟨wq2, rfl⟩ : ∃ wo : World, wo = wr := ⟨_, rfl⟩
            obtain ⟨k, hk, rfl, HBK⟩ := hrel
            have hB7K : Below w7.heap.size w7 wq2 := HB78.out.trans (HBK.out.mono HB78.out.size)
            have hB6K : Below w6.heap.size w6 wq2 := HB8.out.trans (HBK.out.mono HB8.out.size)
            have hsk := hB6K.size
            have HB7K := Lib.hid hB7K
            have HB6K := Lib.hid hB6K
            by_cases hlt : k < N4
            · have hkl : k < s4.length := by rw [HN4.out]; exact hlt
              have hOK : Po.Own wi.heap.size (.slice p4 N4 c4) s4 wq2 := HO4.out.below HB7K.out (Nat.le_refl _)
              obtain ⟨b, oo, rfl, hc⟩ := hOK.at.1.cells (by omega)
              obtain ⟨d0, d1, d2, d3, d4⟩ := hc k hkl
              have hls := (hOK.2 s4[k] (List.getElem_mem _)).at
              obtain ⟨f1, f2⟩ := hOK.n HV4.out HU4.out s4[k] (List.getElem_mem _)
              obtain ⟨n, hn26, hin, hvv⟩ := HRN.out (Sl.view s4[k]) (by rw [← HV4.out]; exact List.mem_map_of_mem (List.getElem_mem _))
              obtain ⟨s, hs⟩ : ∃ s, s4[k] = s := ⟨_, rfl⟩
              rw [hs] at d0 d1 d2 d3 d4 hls f1 f2 hvv
              obtain ⟨⟨sj, sp, sn, sc, sl⟩, sev, sti, sen⟩ := s
              dsimp only at d0 d1 d2 d3 d4 hls f1 f2
              simp only [Sl.view, Prod.mk.injEq] at hvv
              obtain ⟨hv1, hv2, rfl, rfl, rfl⟩ := hvv
              have n1 : (0 : Int) ≤ (k : Int) := by omega
              have n2 : (k : Int) < (N4 : Int) := by omega
              have HBW : Hid (Below w8.heap.size w8 (wq2.alloc (.cells #[.string sj, .slice sp sn sc, .int .i64 sev, .int .i64 sti, .bool false] 33))) := HBK.out.alloc HBK.out.size _
              have HB6W : Hid (Below w6.heap.size w6 (wq2.alloc (.cells #[.string sj, .slice sp sn sc, .int .i64 sev, .int .i64 sti, .bool false] 33))) := HB6K.out.alloc hsk _
              have HKX := Lib.hid (alloc_new wq2 (.cells #[.string sj, .slice sp sn sc, .int .i64 sev, .int .i64 sti, .bool false] 33))
              have HHA := Lib.hid (has_is pt ts ⟨sj, sp, sn, sc, sl⟩ M ct true (by rw [HVT.out]; show _ ↔ (sj, sl) ∈ TT; rw [hv1, hv2]; exact ⟨fun _ => hin, fun _ => rfl⟩) (wq2.alloc (.cells #[.string sj, .slice sp sn sc, .int .i64 sev, .int .i64 sti, .bool false] 33)) HM.out (HT6.out.pos.1.below HB6W.out (Nat.le_refl _)) (hls.below ((Below.refl _ _).alloc (Nat.le_refl _) _) (Nat.le_refl _)) HFT.out f1 f2 (by omega))
              have qe : (sev != sev) = false := by simp
              have qt : (sti != sti) = false := by simp
              clear hs hc hls hOK f1 f2 hv1 hv2
              go_wp2_with (go_at_call 31; refine HHA.out.mono ?_)
              first | rintro e wa rfl hba | rintro e wa ⟨rfl, hba⟩
              have HB8a : Hid (Below w8.heap.size w8 wa) := HBW.out.trans (hba.mono (by have h9 := HBK.out.size; omega))
              have hka := below_kept hba HKX.out (by simp)
              have x2 : wa.cell? ⟨wq2.heap.size, 2, none⟩ = some (.int .i64 sev) := by rw [Lib.cell_of_heap hka]; rfl
              have x3 : wa.cell? ⟨wq2.heap.size, 3, none⟩ = some (.int .i64 sti) := by rw [Lib.cell_of_heap hka]; rfl
              have hlta : wq2.heap.size < wa.heap.size := lt_of_heap hka
              clear hba hka HHA d0 d1 d2 d3 d4
              go_wp2_with fail
              go_roundw
              case rel => exact ⟨k + 1, by omega, by go_num, HB8a.out⟩
              case measure => simp [intOf]; omega
            · obtain rfl : k = N4 := by omega
              have n2 : (k : Int) ≤ (k : Int) := Int.le_refl _
              have HB7Q := Lib.hid HB7K.out
              have HB6Q := Lib.hid HB6K.out
              clear HBK n2
              go_wp2_with fail
              go_loopw [189] (fun i wq => ∃ j : Nat, j ≤ M ∧ i = .int .i64 (j : Int) ∧ Hid (Below wq2.heap.size wq2 wq)) (fun i _ => M - (intOf i).toNat)
              case atStart => exact ⟨0, Nat.zero_le _, rfl, Below.refl _ _⟩
              case round =>
                obtain ⟨wl, rfl⟩ : ∃ wo : World, wo = wr := ⟨_, rfl⟩
                obtain ⟨j, hj, rfl, HBL⟩ := hrel
                have HB7L : Hid (Below w7.heap.size w7 wl) := HB7Q.out.trans (HBL.out.mono HB7Q.out.size)
                have HB6L : Hid (Below w6.heap.size w6 wl) := HB6Q.out.trans (HBL.out.mono HB6Q.out.size)
                by_cases hlt : j < M
                · have hjl : j < ts.length := by rw [HM.out]; exact hlt
                  have hTL : OwnTs w.heap.size (.slice pt M ct) ts wl := HT6.out.below HB6L.out (Nat.le_refl _)
                  obtain ⟨b, oo, rfl, hc⟩ := Po.TAt1.cells (show Po.TAt1 pt ts wl from hTL.pos.1) (by omega)
                  obtain ⟨d0, d1⟩ := hc j hjl
                  have hls := Po.TAt1.lab (show Po.TAt1 _ ts wl from hTL.pos.1) j hjl
                  obtain ⟨f1, f2⟩ := HFT.out ts[j] (List.getElem_mem _)
                  have hin : Po.tv ts[j] ∈ TT := by rw [← HVT.out]; exact List.mem_map_of_mem (List.getElem_mem _)
                  obtain ⟨t, ht⟩ : ∃ t, ts[j] = t := ⟨_, rfl⟩
                  rw [ht] at d0 d1 hls f1 f2 hin
                  obtain ⟨n, hn26, hvt⟩ := HTS.out _ hin
                  rw [hvt] at hin
                  have hal : Po.all TT ev ti n = some ((Po.tgt n).1, (Po.tgt n).2, ev, ti, false) := by unfold Po.all Po.tT; rw [if_pos hin]; rfl
                  obtain ⟨q2, hq0, hql, hqv⟩ := Po.rows_some HGA2.out n hn26 _ hal
                  obtain ⟨tj, tp, tn, tc, tl⟩ := t
                  dsimp only at d0 d1 hls f1 f2
                  have n1 : (0 : Int) ≤ (j : Int) := by omega
                  have n2 : (j : Int) < (M : Int) := by omega
                  have HBA : Hid (Below wl.heap.size wl (wl.alloc (.cells #[.string tj, .slice tp tn tc] 29))) := (Below.refl _ _).alloc (Nat.le_refl _) _
                  have HLF := Lib.hid (lfind_is p4 s4 ⟨tj, tp, tn, tc, tl⟩ k c4 (q2 : Int) true (by rw [HV4.out, hvt]; exact hq0) (wl.alloc (.cells #[.string tj, .slice tp tn tc] 29)) HN4.out ((HO4.out.at.1.below HB7L.out (Nat.le_refl _)).below HBA.out (Nat.le_refl _)) (hls.below HBA.out (Nat.le_refl _)) (HO4.out.n HV4.out HU4.out) f1 f2 (by omega))
                  clear ht hc hls f1 f2 hvt hal hq0 hqv hTL
                  go_wp2_with (go_at_call 28; refine HLF.out.mono ?_)
                  first | rintro e wa rfl hba | rintro e wa ⟨rfl, hba⟩
                  have HBa : Hid (Below wq2.heap.size wq2 wa) := (HBL.out.alloc HBL.out.size _).trans (hba.mono (by have h9 := HBL.out.size; omega))
                  clear hba HLF
                  go_wp2_with fail
                  go_roundw
                  case rel => exact ⟨j + 1, by omega, by go_num, HBa.out⟩
                  case measure => simp [intOf]; omega
                · have n2 : (M : Int) ≤ (j : Int) := by omega
                  have HMD := Lib.hid (onesD_is pM4 m4 m4.length cM4 wl rfl (HR4.out.mat.1.below HB7L.out (Nat.le_refl _)) (fun m hm => HM9.out (Mv.view m) (by rw [← HM4.out]; exact List.mem_map_of_mem hm)) (by have h1 := congrArg List.length HM4.out; rw [List.length_map] at h1; omega))
                  go_wp2_with (go_at_call 29; refine HMD.out.mono ?_)
                  first | rintro e wa rfl hba | rintro e wa ⟨rfl, hba⟩
                  have hbz : Below w.heap.size w wa := below_next (HB7w.out.trans (HB6L.out.mono HB7w.out.size)) hba
                  clear hba
                  go_wp2_with fail
                  go_ret
                  exact ⟨rfl, hbz⟩
end Go.Proofs.Ytpnpgjjbincigaa
