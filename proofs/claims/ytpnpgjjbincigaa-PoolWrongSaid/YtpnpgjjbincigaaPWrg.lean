/- The walk of PoolWrong: the law returns true. (Printed by gen_pwrg.py.) -/
import Derived.Test.YtpnpgjjbincigaaCpd
import Derived.Test.YtpnpgjjbincigaaRws
import Derived.Deep.RegionHeld3
namespace Go.Proofs.Ytpnpgjjbincigaa
open Go.RowKit
set_option linter.unusedVariables false

theorem Po.okVs_bad {S : List Po.V} (h : ∃ s ∈ S, Po.ke (Po.vu s) ≠ 0 ∨ Po.num s.2.2.1 s.2.2.2.1 = false) : Po.okVs S = false := by
  rw [Bool.eq_false_iff]
  intro hok
  obtain ⟨s, hs, h2⟩ := h
  obtain ⟨h3, h4⟩ := (Po.okVs_mem S hok).1 s hs
  rcases h2 with h2 | h2
  · exact h2 h3
  · rw [h2] at h4; cases h4
theorem Po.okVs_dup {S : List Po.V} {i : Nat} (hi : i < S.length) : Po.okVs (S ++ [S[i]]) = false := by
  rw [Bool.eq_false_iff]
  intro hok
  have := Po.ok_ne hok
  rw [List.pairwise_append] at this
  exact this.2.2 S[i] (List.getElem_mem _) S[i] (List.mem_singleton.2 rfl) rfl
def Wrg.k : Po.U := (⟨#[107]⟩, [])
def Wrg.x : Po.U := (⟨#[255]⟩, [])
theorem Wrg.lt (n : Nat) (hn : n < 26) : Po.ky (Po.tgt n) < Po.ky Wrg.k := by
  have : ∀ m : Fin 26, Po.ky (Po.tgt m) < Po.ky Wrg.k := by decide +kernel
  exact this ⟨n, hn⟩
theorem Wrg.ke_k : Po.ke Wrg.k = 0 := by kernel_rfl
theorem Wrg.ke_x : ¬ Po.ke Wrg.x = 0 := by decide +kernel
theorem Wrg.x_ne (n : Nat) : Po.tgt n ≠ Wrg.x := fun h => by
  have := congrArg (fun u => u.1.data.toList) h
  simp [Po.tgt, Wrg.x] at this
/-- the slots of the law -/
def Wrg.S (xs : List Sm5) : List Po.V := Po.made xs 26 ++ [(⟨#[107]⟩, [], 5, 5, false)]
theorem Wrg.ok (xs : List Sm5) : Po.okVs (Wrg.S xs) = true := by
  obtain ⟨h1, h2⟩ := Po.okVs_mem _ (Po.made_ok xs)
  refine Po.okVs_of _ (fun s hs => ?_) ?_
  · rcases List.mem_append.1 hs with hs | hs
    · exact h1 s hs
    · rw [List.mem_singleton] at hs
      subst hs
      exact ⟨Wrg.ke_k, rfl⟩
  · unfold Wrg.S
    rw [List.map_append]
    refine List.pairwise_append.2 ⟨h2, List.pairwise_singleton .., fun a ha b hb => ?_⟩
    obtain ⟨s, hs, rfl⟩ := List.mem_map.1 ha
    obtain ⟨n, hn, x, _, rfl⟩ := Po.made_mem hs
    rw [List.map_cons, List.map_nil, List.mem_singleton] at hb
    subst hb
    exact Wrg.lt n hn
theorem Wrg.okU (xs : List Sm5) : ∀ v ∈ Wrg.S xs, Po.okU (Po.vu v) := fun v hv => by
  rcases List.mem_append.1 hv with hv | hv
  · exact Po.made_okU xs 26 v hv
  · rw [List.mem_singleton] at hv
    subst hv
    exact ⟨(by show 1 ≤ 1000; decide), fun x hx => (nomatch hx), (by show 0 ≤ 1000; decide)⟩
theorem Wrg.fxn (xs : List Sm5) : Po.fx (Wrg.S xs) Wrg.x = none := by
  unfold Po.fx
  rw [List.findIdx?_eq_none_iff]
  intro v hv
  rcases List.mem_append.1 hv with hv | hv
  · obtain ⟨n, hn, x, _, rfl⟩ := Po.made_mem hv
    exact decide_eq_false (Wrg.x_ne n)
  · rw [List.mem_singleton] at hv
    subst hv
    exact decide_eq_false (by unfold Po.vu Wrg.x; decide)
theorem Wrg.ke_empty (l : List Lab.L) : ¬ Po.ke (⟨#[]⟩, l) = 0 := fun h => by
  have h1 := (Po.ke_zero _ h).1
  have h2 : Can.job (Lab.bs ⟨#[]⟩) = false := by decide +kernel
  rw [h2] at h1
  cases h1
theorem Wrg.okT : Po.okT [Wrg.x] = false := by
  unfold Po.okT
  rw [List.all_cons, decide_eq_false Wrg.ke_x]; rfl
theorem Wrg.okT2 : Po.okT [Po.tgt 1, Wrg.x] = false := by
  unfold Po.okT
  rw [List.all_cons, List.all_cons, decide_eq_false Wrg.ke_x, Bool.false_and, Bool.and_false]
theorem Wrg.sync350 {S : List Po.V} (h : Po.okVs S = false) (U : List Po.U) (ev ti : Int) : Po.sync S U ev ti = (350, [], []) := by
  unfold Po.sync
  rw [h, if_neg (by simp)]
theorem Wrg.end350 {S : List Po.V} (h : Po.okVs S = false) (u : Po.U) : Po.endS S u = (350, []) := by
  unfold Po.endS
  rw [h, if_neg (by simp)]
theorem Wrg.sync2 {S : List Po.V} (h : Po.okVs S = true) (U : List Po.U) {ev ti : Int} (hn : Po.num ev ti = false) : Po.sync S U ev ti = (2, [], []) := by
  unfold Po.sync
  rw [if_pos h, hn, if_neg (by simp)]
theorem Wrg.sync351 {S : List Po.V} (h : Po.okVs S = true) {U : List Po.U} (hU : Po.okT U = false) {ev ti : Int} (hn : Po.num ev ti = true) : Po.sync S U ev ti = (351, [], []) := by
  unfold Po.sync
  rw [if_pos h, if_pos hn, hU, if_neg (by simp)]
theorem Wrg.end6 {S : List Po.V} (h : Po.okVs S = true) {u : Po.U} (hx : Po.fx S u = none) : Po.endS S u = (6, []) := by
  unfold Po.endS
  rw [if_pos h, hx]
theorem Wrg.num_a {n : Int} (t : Int) : Po.num (min n 0) t = false := by
  unfold Po.num
  rw [decide_eq_false (show ¬ 1 ≤ min n 0 by omega)]; rfl
theorem Wrg.num_b {n : Int} (t : Int) : Po.num (max n 1099511627777) t = false := by
  unfold Po.num
  rw [decide_eq_false (show ¬ max n 1099511627777 ≤ 1099511627776 by omega), Bool.and_false]; rfl
theorem Wrg.num_c {n ev : Int} : Po.num ev (max n (ev + 1)) = false := by
  unfold Po.num
  rw [decide_eq_false (show ¬ max n (ev + 1) ≤ ev by omega), Bool.and_false]
theorem Wrg.num_d {n ev : Int} : Po.num ev (min n 0) = false := by
  unfold Po.num
  rw [decide_eq_false (show ¬ 1 ≤ min n 0 by omega), Bool.and_false, Bool.false_and]
theorem Wrg.num_e {n : Int} : Po.num 5 (max n 6) = false := by
  unfold Po.num
  rw [decide_eq_false (show ¬ max n 6 ≤ 5 by omega), Bool.and_false]
/-- a cell of a row of slots is written -/
theorem Po.Own.store {B g n c i j : Nat} {ss : List Sl} {w : World} (h : Po.Own B (.slice (some ⟨g, 0, none⟩) n c) ss w) (hi : i < ss.length) (hj : j < 5) (s' : Sl) (v : Value) (he : Sl.enc s' = (Sl.enc ss[i]).set j v) (ht : s'.t.p = ss[i].t.p ∧ s'.t.n = ss[i].t.n ∧ s'.t.c = ss[i].t.c ∧ s'.t.ls = ss[i].t.ls) :
    Po.Own B (.slice (some ⟨g, 0, none⟩) n c) (ss.set i s') (w.setCell ⟨g, i * 5 + j, none⟩ v) ∧ Below B w (w.setCell ⟨g, i * 5 + j, none⟩ v) := by
  obtain rfl : n = ss.length := by
    obtain ⟨p', c', e, _⟩ := h.1.shape
    simp only [Value.slice.injEq] at e
    exact e.2.1
  have hb : ∃ cur, w.heap[g]? = some (.cells cur 33) ∧ B ≤ g := by
    rcases h.1.2 with ⟨e, _⟩ | ⟨g', cap, cur, hv, hg, hh, _⟩
    · cases e
    · simp only [Value.slice.injEq, Option.some.injEq, Addr.mk.injEq] at hv
      obtain ⟨⟨rfl, _⟩, _⟩ := hv
      exact ⟨cur, hh, hg⟩
  obtain ⟨cur, hh, hB⟩ := hb
  obtain ⟨k1, k2⟩ := World.ownsRow.stored h.1 (i * 5 + j) v
  have hcells : (slR.cells ss).set (i * 5 + j) v = slR.cells (ss.set i s') := by
    rw [slOk.set ss i hi s']
    apply List.ext_getElem?
    intro m
    have hlen : (slR.cells ss).length = ss.length * 5 := slOk.length ss
    rw [setL_get _ _ _ (by rw [slOk.length, slOk.len]; have := Nat.mul_le_mul_right slR.k (show i + 1 ≤ ss.length from hi); rw [Nat.add_mul] at this; omega), slOk.len]
    have hk5 : slR.k = 5 := rfl
    have he2 : slR.enc s' = (slR.enc ss[i]).set j v := he
    rw [hk5, he2]
    by_cases hm : i * 5 ≤ m ∧ m < i * 5 + 5
    · rw [if_pos hm]
      by_cases hmj : m = i * 5 + j
      · subst hmj
        rw [List.getElem?_set_self (by rw [hlen]; omega), show i * 5 + j - i * 5 = j by omega, List.getElem?_set_self (by rw [slOk.len]; exact hj)]
      · rw [List.getElem?_set_ne (by omega), List.getElem?_set_ne (by omega)]
        have := slOk.get ss i hi (m - i * 5) (by show m - i * 5 < 5; omega)
        rw [hk5, show i * 5 + (m - i * 5) = m by omega] at this
        exact this
    · rw [if_neg hm, List.getElem?_set_ne (by omega)]
  refine ⟨⟨?_, fun x hx => ?_⟩, (Below.refl _ w).setCell (p := ⟨g, i * 5 + j, none⟩) hB _⟩
  · unfold OwnR
    rw [List.length_set, ← hcells]
    exact k1
  · have base : ∀ y ∈ ss, OwnT B y.t (w.setCell ⟨g, i * 5 + j, none⟩ v) := fun y hy => (h.2 y hy).setT hh (by decide)
    rcases List.mem_or_eq_of_mem_set hx with hx | rfl
    · exact base x hx
    · have h5 := base ss[i] (List.getElem_mem _)
      obtain ⟨e1, e2, e3, e4⟩ := ht
      unfold OwnT at h5 ⊢
      rw [e1, e2, e3, e4]
      exact h5

set_option maxHeartbeats 12800000 in
set_option maxRecDepth 100000 in
theorem walk_PoolWrong (a0 : Option Addr) (xs0 : List Sm5) (len0 cap0 : Nat) (n1 n2 n3 : Int) (w : World) (hlen0 : xs0.length = len0) (hAt0 : Po.SmAt a0 xs0 w) (hlc0 : len0 ≤ cap0) (hmax0 : cap0 ≤ maxLen) (wn1 : (Lit.int .u8 n1).wf = true) (wn2 : (Lit.int .u8 n2).wf = true) (wn3 : (Lit.int .i64 n3).wf = true) :
    Calls Try.prog 7 #[.slice a0 len0 cap0, .int .u8 n1, .int .u8 n2, .int .i64 n3] w fun e w' => e = .returned (.bool true) ∧ Below w.heap.size w w' := by
  obtain ⟨y, hy, rfl⟩ := row.wf_u8 wn1
  obtain ⟨z, hz, rfl⟩ := row.wf_u8 wn2
  unfold maxLen at hmax0
  obtain ⟨m, hm, hmn, hm20⟩ : ∃ m : Nat, min (len0 : Int) 20 = (m : Int) ∧ m ≤ len0 ∧ m ≤ 20 := ⟨min len0 20, by omega, by omega, by omega⟩
  have m0 : (0 : Int) ≤ (m : Int) := by omega
  have m1 : (m : Int) ≤ (cap0 : Int) := by omega
  have HAW := Lib.hid (fun w => awake_is w)
  obtain ⟨xs, hxs⟩ : ∃ xs, xs0.take m = xs := ⟨_, rfl⟩
  have hAt : Po.SmAt a0 xs w := by
    rw [← hxs]
    rcases hAt0 with h | ⟨b, o, hp, hc⟩
    · exact .inl (by rw [h]; simp)
    · refine .inr ⟨b, o, hp, fun i hi => ?_⟩
      rw [List.length_take] at hi
      rw [List.getElem_take]
      exact hc i (by omega)
  have hxl : xs.length = m := by rw [← hxs, List.length_take]; omega
  have HMD := Lib.hid (fun w hA => made_is5 a0 xs m cap0 w hxl (by omega) hA (by unfold maxLen; omega))
  have HA0 := Lib.hid hAt
  have HT1 := Lib.hid (fun w => target_z 1 1 rfl (by decide) w)
  obtain ⟨S, hS⟩ : ∃ S, Wrg.S xs = S := ⟨_, rfl⟩
  have HOK : Hid (Po.okVs S = true) := by show _ = _; rw [← hS]; exact Wrg.ok xs
  have HU : Hid (∀ v ∈ S, Po.okU (Po.vu v)) := by show ∀ v ∈ S, _; rw [← hS]; exact Wrg.okU xs
  have HNO : Hid (Po.fx S Wrg.x = none) := by show _ = _; rw [← hS]; exact Wrg.fxn xs
  have HSE := Lib.hid hS
  have r1 : IntKind.i64.wrap (y : Int) = (y : Int) := by rw [IntKind.wrap_i64]; omega
  have r6 : Int.tmod (z : Int) 6 = ((z % 6 : Nat) : Int) := by rw [Int.tmod_eq_emod_of_nonneg (by omega)]; omega
  have hz6 : z % 6 < 6 := Nat.mod_lt _ (by decide)
  obtain ⟨wy, hwy⟩ : ∃ wy, z % 6 = wy := ⟨_, rfl⟩
  rw [hwy] at r6 hz6
  clear hS hxs hAt0 hAt hxl wn1 wn2 hlen0 hlc0 hmax0 hwy
  go_enter Try.func7, Try.ntmps7
  go_wp2_with (go_at_call 13; refine (HAW.out _).mono ?_)
  first | rintro e w1 rfl hb1 | rintro e w1 ⟨rfl, hb1⟩
  go_wp2_with (go_at_call 17; refine (HMD.out _ (HA0.out.below hb1 (Nat.le_refl _))).mono ?_)
  first | rintro e w2 v ss rfl hO hv hb2 | rintro e w2 ⟨⟨v, ss, rfl, hO, hv⟩, hb2⟩
  have hb3 := below_next hb1 hb2
  have hO2 := hO.lift hb1.size
  have hsl : ss.length ≤ 26 := by rw [← List.length_map (f := Sl.view), hv]; exact Po.made_len _ _
  have hsz := hb3.size
  have HO2 := Lib.hid hO2
  have HB3 := Lib.hid hb3
  have HV := Lib.hid hv
  clear hO hb1 hb2 hb3 hO2 hv HMD HAW HA0
  go_wp2_with (at_builtin; refine wpList_pushRec slOk 22 Try.underlying22 rfl _ _ rfl w.heap.size _ ss w2 rfl (by exact HO2.out.1) ⟨⟨⟨#[107]⟩, none, 0, 0, []⟩, 5, 5, false⟩ _ _ rfl _ rfl rfl ?_ ?_ ?_)
  · omega
  · exact hsz
  intro v3 w3 hro3 hg3
  have HT0 : Hid (OwnT w.heap.size ⟨⟨#[107]⟩, none, 0, 0, []⟩ w2) := ⟨rfl, OwnLabels.nil _ _⟩
  have HO3 := Lib.hid (HO2.out.push ((Below.refl _ _).alloc (Nat.le_refl _) _) ⟨⟨⟨#[107]⟩, none, 0, 0, []⟩, 5, 5, false⟩ (HT0.out.below ((Below.refl _ _).alloc (Nat.le_refl _) _) (Nat.le_refl _)) hro3 hg3)
  have hb4 : Below w.heap.size w w3 := (HB3.out.alloc hsz _).grown hg3 (by simp; omega) (fun j hj => (World.ownsRow.lt HO2.out.1 j hj).1)
  obtain ⟨sl, hsl2⟩ : ∃ sl, ss ++ [(⟨⟨⟨#[107]⟩, none, 0, 0, []⟩, 5, 5, false⟩ : Sl)] = sl := ⟨_, rfl⟩
  have HVS : Hid (sl.map Sl.view = S) := by show _ = _; rw [← hsl2, List.map_append, HV.out, ← HSE.out]; rfl
  rw [hsl2] at HO3
  obtain ⟨N, hN⟩ : ∃ N, sl.length = N := ⟨_, rfl⟩
  have hN27 : N ≤ 27 ∧ 1 ≤ N := by rw [← hN, ← hsl2, List.length_append, List.length_singleton]; omega
  obtain ⟨ps, cs, rfl, hcs1, hcs2⟩ := HO3.out.form
  rw [hN] at HO3 hcs1 ⊢
  have HN := Lib.hid hN
  have HB4 := Lib.hid hb4
  have hs3 := hb4.size
  have HNS : Hid (N = S.length) := by show _ = _; rw [← hN, ← HVS.out, List.length_map]
  clear hN hsl2 hb4 hro3 hg3 HO2 HB3 HT0 HV hsl
  have HCP := Lib.hid (lcopied_is ps sl N cs w3 HN.out HO3.out.at.1 (fun s hs => ⟨(HO3.out.n2 HVS.out HU.out s hs).1, (HO3.out.n2 HVS.out HU.out s hs).2, (HO3.out.2 s hs).any⟩) (by omega))
  go_wp2_with (go_at_call 24; refine HCP.out.mono ?_)
  first | rintro e w4 v bb rfl hOb hvb hb5 | rintro e w4 ⟨⟨v, bb, rfl, hOb, hvb⟩, hb5⟩
  have hbl : bb.length = N := by have h1 := congrArg List.length hvb; rw [List.length_map, List.length_map] at h1; have := HN.out; omega
  obtain ⟨gb, cb, hvf, _, _, hcb1, hcb2⟩ := hOb.1.form (by omega)
  subst hvf
  rw [hbl] at hOb hcb1 ⊢
  have HBB := Lib.hid hOb
  have HVB : Hid (bb.map Sl.view = S) := hvb.trans HVS.out
  have HBL := Lib.hid hbl
  have HO4 : Hid (Po.Own w.heap.size (.slice ps N cs) sl w4) := HO3.out.below hb5 (Nat.le_refl _)
  have HB5 := Lib.hid (below_next HB4.out hb5)
  have hs34 := hb5.size
  have hlenS := HNS.out
  have r2 : Int.tmod (y : Int) (N : Int) = ((y % N : Nat) : Int) := by rw [Int.tmod_eq_emod_of_nonneg (by omega)]; omega
  obtain ⟨iu, hiu⟩ : ∃ iu, y % N = iu := ⟨_, rfl⟩
  have hiN : iu < N := by rw [← hiu]; exact Nat.mod_lt _ (by omega)
  rw [hiu] at r2
  have hi1 : iu < bb.length := by rw [hbl]; exact hiN
  obtain ⟨b', o', e', hcl⟩ := hOb.at.1.cells (by omega)
  simp only [Option.some.injEq, Addr.mk.injEq, and_true] at e'
  obtain ⟨rfl, rfl⟩ := e'
  obtain ⟨d0, d1, d2, d3, d4⟩ := hcl iu hi1
  rw [Nat.zero_add] at d0 d1 d2 d3 d4
  obtain ⟨s, hs⟩ : ∃ s, bb[iu] = s := ⟨_, rfl⟩
  rw [hs] at d0 d1 d2 d3 d4
  have HSI := Lib.hid hs
  have hsS : Sl.view s ∈ S := by rw [← HVB.out, ← hs]; exact List.mem_map_of_mem (List.getElem_mem _)
  have HSS := Lib.hid hsS
  have hnum := ((Po.okVs_mem S HOK.out).1 _ hsS).2
  obtain ⟨⟨sj, sp, sn, sc, sl'⟩, sev, sti, sen⟩ := s
  dsimp only at d0 d1 d2 d3 d4
  have hev : 1 ≤ sev ∧ sev ≤ 1099511627776 := by
    have h1 : Po.num sev sti = true := hnum
    unfold Po.num at h1
    simp only [Bool.and_eq_true, decide_eq_true_eq] at h1
    exact ⟨h1.1.1.1, h1.1.1.2⟩
  have r7 : IntKind.i64.wrap (sev + 1) = sev + 1 := by rw [IntKind.wrap_i64]; omega
  obtain ⟨cur, hgb, hgbB⟩ : ∃ cur, w4.heap[gb]? = some (.cells cur 33) ∧ w3.heap.size ≤ gb := by
    rcases hOb.1.2 with ⟨e, _⟩ | ⟨g', cap, cur, hv, hg, hh, _⟩
    · cases e
    · simp only [Value.slice.injEq, Option.some.injEq, Addr.mk.injEq] at hv
      obtain ⟨⟨rfl, _⟩, _⟩ := hv
      exact ⟨cur, hh, hg⟩
  have fz := fun j => Lib.frozen_of_heap hgb (iu * 5 + j)
  have fz0 := fz 0
  have fz2 := fz 2
  have fz3 := fz 3
  rw [Nat.add_zero] at fz0
  have hbb4 : gb < w4.heap.size := lt_of_heap hgb
  have HI1 := Lib.hid hi1
  have HOF : Hid (∀ U : World, Below w3.heap.size w4 U → Po.Own w.heap.size (.slice ps N cs) sl U) := fun U hb => (HO3.out.below hb5 (Nat.le_refl _) |> fun _ => HO3.out.below (hb5.trans hb) (Nat.le_refl _))
  clear hOb hvb hb5 hbl hs hcl hsS hnum hgb fz HCP hiu HO3 HB4 hlenS
  have hz6b : wy = 0 ∨ wy = 1 ∨ wy = 2 ∨ wy = 3 ∨ wy = 4 ∨ wy = 5 := by omega
  rcases hz6b with rfl | rfl | rfl | rfl | rfl | rfl
  · have ht : Int.tmod (z : Int) 6 = 0 := r6
    have h0 := HBB.out
    have st0 := Po.Own.store (j := 2) HBB.out (i := iu) (by first | exact hi1 | (rw [List.length_set]; exact hi1)) (by decide) (⟨⟨sj, sp, sn, sc, sl'⟩, min n3 0, sti, sen⟩ : Sl) (.int .i64 (min n3 0)) (by rw [HSI.out]; rfl) (by rw [HSI.out]; exact ⟨rfl, rfl, rfl, rfl⟩)
    obtain ⟨U, hU⟩ : ∃ U, (w4.setCell ⟨gb, iu * 5 + 2, none⟩ (.int .i64 (min n3 0))) = U := ⟨_, rfl⟩
    have hbu : Below w3.heap.size w4 (w4.setCell ⟨gb, iu * 5 + 2, none⟩ (.int .i64 (min n3 0))) := ((Below.refl w3.heap.size w4).trans st0.2)
    have hou : Po.Own w3.heap.size (.slice (some ⟨gb, 0, none⟩) N cb) (bb.set iu (⟨⟨sj, sp, sn, sc, sl'⟩, min n3 0, sti, sen⟩ : Sl)) (w4.setCell ⟨gb, iu * 5 + 2, none⟩ (.int .i64 (min n3 0))) := st0.1
    rw [hU] at hbu hou
    obtain ⟨bx, hbx⟩ : ∃ bx, (bb.set iu (⟨⟨sj, sp, sn, sc, sl'⟩, min n3 0, sti, sen⟩ : Sl)) = bx := ⟨_, rfl⟩
    rw [hbx] at hou
    have hbs : bx = bb.set iu (⟨⟨sj, sp, sn, sc, sl'⟩, min n3 0, sti, sen⟩ : Sl) := by rw [← hbx]; try rw [List.set_set]
    have HBX0 := Lib.hid hou
    have hlast : (⟨⟨sj, sp, sn, sc, sl'⟩, min n3 0, sti, sen⟩ : Sl) ∈ bx := by rw [hbs]; exact List.mem_iff_getElem.2 ⟨iu, by rw [List.length_set]; exact hi1, List.getElem_set_self ..⟩
    obtain ⟨SX, hSX⟩ : ∃ SX, bx.map Sl.view = SX := ⟨_, rfl⟩
    have HVX := Lib.hid hSX
    have HLX : Hid (bx.length = N) := by show _ = _; rw [hbs, List.length_set]; exact HBL.out
    have hvl : Sl.view (⟨⟨sj, sp, sn, sc, sl'⟩, min n3 0, sti, sen⟩ : Sl) ∈ SX := by rw [← hSX]; exact List.mem_map_of_mem hlast
    have HBADX : Hid (Po.okVs SX = false) := Po.okVs_bad ⟨_, hvl, .inr (Wrg.num_a _)⟩
    have HUX : Hid (∀ v ∈ SX, Po.okU (Po.vu v)) := fun v hv => by
      rw [← hSX] at hv
      obtain ⟨x, hx, rfl⟩ := List.mem_map.1 hv
      rw [hbs] at hx
      rcases List.mem_or_eq_of_mem_set hx with hx | rfl
      · exact HU.out _ (by rw [← HVB.out]; exact List.mem_map_of_mem hx)
      · have h9 := HU.out _ HSS.out
        exact ⟨h9.1, h9.2.1, h9.2.2⟩
    have HBW0 : Hid (Below w.heap.size w U) := HB5.out.trans (hbu.mono (by omega))
    have HOX0 : Hid (Po.Own w.heap.size (.slice ps N cs) sl U) := HOF.out U hbu
    have hnb : N ≤ 100 := by omega
    clear st0 h0 hbu hou hbx hbs hSX hvl hlast
    obtain ⟨V, hV⟩ : ∃ V, V = U.alloc (.cells #[.string ⟨#[255]⟩, .slice none 0 0] 29) := ⟨_, rfl⟩
    obtain ⟨gx, hgx⟩ : ∃ gx, gx = U.heap.size := ⟨_, rfl⟩
    have hbV : Below U.heap.size U V := by rw [hV]; exact (Below.refl _ _).alloc (Nat.le_refl _) _
    have kV : V.heap[gx]? = some (.cells #[.string ⟨#[255]⟩, .slice none 0 0] 29) := by rw [hV, hgx]; exact alloc_new _ _
    have hzV : gx < V.heap.size := lt_of_heap kV
    have HBX := Lib.hid (HBX0.out.below hbV (Nat.le_refl _))
    have HOX := Lib.hid (HOX0.out.below hbV (Nat.le_refl _))
    have HBWV : Hid (Below w.heap.size w V) := below_next HBW0.out hbV
    have KV := Lib.hid kV
    have x0 : V.cell? ⟨gx, 0, none⟩ = some (.string ⟨#[255]⟩) := by rw [Lib.cell_of_heap kV]; rfl
    have x1 : V.cell? ⟨gx, 1, none⟩ = some (.slice none 0 0) := by rw [Lib.cell_of_heap kV]; rfl
    have HTA : Hid (∀ (W : World) (b : Nat), W.heap[b]? = some (.cells #[.string ⟨#[255]⟩, .slice none 0 0] 29) → Po.TgAt (some ⟨b, 0, none⟩) [(⟨⟨#[255]⟩, none, 0, 0, []⟩ : Can.T)] W) := fun W b h => Po.tgts_at (by rfl) h (fun t ht => by rw [List.mem_singleton] at ht; subst ht; exact .inl rfl)
    have HTAN : Hid (∀ t ∈ [(⟨⟨#[255]⟩, none, 0, 0, []⟩ : Can.T)], Can.TAny t) := fun t ht => by rw [List.mem_singleton] at ht; subst ht; exact ⟨by decide, rfl, fun x hx => (nomatch hx), fun _ => rfl, Nat.zero_le _⟩
    have HSY : Hid (∀ (p : Option Addr) (ss : List Sl) (S : List Po.V) (n c : Nat) (ev ti r : Int) (W : World), Po.sync S [Wrg.x] ev ti = (r, [], []) → ss.map Sl.view = S → ss.length = n → Po.At p ss W → (∀ s ∈ ss, Can.TAny s.t) → n ≤ 100 → Calls Try.prog 25 #[.slice p n c, .slice (some ⟨W.heap.size, 0, none⟩) 1 1, .int .i64 ev, .int .i64 ti] (W.alloc (.cells #[.string ⟨#[255]⟩, .slice none 0 0] 29)) fun e w' => (∃ v1 v2, e = .returned (.tuple #[v1, v2, .int .i64 r])) ∧ Below W.heap.size W w') := fun p ss S n c ev ti r W h hv hn hA hF hl => by
      have hb : Below W.heap.size W (W.alloc (.cells #[.string ⟨#[255]⟩, .slice none 0 0] 29)) := (Below.refl _ _).alloc (Nat.le_refl _) _
      refine (sync_is p (some ⟨W.heap.size, 0, none⟩) ss [(⟨⟨#[255]⟩, none, 0, 0, []⟩ : Can.T)] n c 1 1 ev ti r [] [] (by rw [hv]; exact h) _ hn rfl (hA.below hb (Nat.le_refl _)) (HTA.out _ _ (alloc_new W _)) hF HTAN.out (by omega) (by decide)).mono ?_
      rintro e w6 ⟨⟨v1, v2, s6, m6, rfl, _⟩, hb6⟩
      exact ⟨⟨v1, v2, rfl⟩, hb.trans (hb6.mono (by simp))⟩
    have HCE : Hid (Can.TAny ⟨⟨#[255]⟩, none, 0, 0, []⟩) := HTAN.out _ (List.mem_singleton.2 rfl)
    have HS1 := Lib.hid (HSY.out (some ⟨gb, 0, none⟩) bx SX N cb 0 0 350 V (Wrg.sync350 HBADX.out _ _ _) HVX.out HLX.out HBX.out.at.1 (HBX.out.any HVX.out HUX.out) hnb)
    clear hbV kV HTA HTAN
    go_wp2_with (first | (rw [hU]; clear hU) | (rw [← hV, ← hgx]; clear hV hgx) | (go_at_call 25; refine HS1.out.mono ?_))
    first | rintro e w6 v1 v2 rfl hb6 | rintro e w6 ⟨⟨v1, v2, rfl⟩, hb6⟩
    have Hw6 : Hid (Below V.heap.size V w6) := hb6
    clear hb6 HS1 x0 x1
    have hkw6 := below_kept Hw6.out KV.out hzV
    have x0w6 : w6.cell? ⟨gx, 0, none⟩ = some (.string ⟨#[255]⟩) := by rw [Lib.cell_of_heap hkw6]; rfl
    have x1w6 : w6.cell? ⟨gx, 1, none⟩ = some (.slice none 0 0) := by rw [Lib.cell_of_heap hkw6]; rfl
    have hzw6 : gx < w6.heap.size := lt_of_heap hkw6
    clear hkw6
    have HE1 := Lib.hid (pend_is (some ⟨gb, 0, none⟩) bx ⟨⟨#[255]⟩, none, 0, 0, []⟩ N cb 350 [] (by rw [HVX.out]; exact Wrg.end350 HBADX.out _) w6 HLX.out (HBX.out.at.1.below Hw6.out (Nat.le_refl _)) (.inl rfl) (HBX.out.any HVX.out HUX.out) HCE.out (by omega))
    go_wp2_with (go_at_call 18; refine HE1.out.mono ?_)
    first | rintro e w7 v3 v4 s3 rfl hR hs hb7 | rintro e w7 v3 rfl v4 s3 hR hs hb7 | rintro e w7 ⟨⟨v3, v4, s3, rfl, hR, hs⟩, hb7⟩
    have Hw7 : Hid (Below V.heap.size V w7) := below_next Hw6.out hb7
    clear hb7 hR hs HE1 x0w6 x1w6
    have hkw7 := below_kept Hw7.out KV.out hzV
    have x0w7 : w7.cell? ⟨gx, 0, none⟩ = some (.string ⟨#[255]⟩) := by rw [Lib.cell_of_heap hkw7]; rfl
    have x1w7 : w7.cell? ⟨gx, 1, none⟩ = some (.slice none 0 0) := by rw [Lib.cell_of_heap hkw7]; rfl
    have hzw7 : gx < w7.heap.size := lt_of_heap hkw7
    clear hkw7
    have HS2 := Lib.hid (HSY.out ps sl S N cs (min n3 0) 1 2 w7 (Wrg.sync2 HOK.out _ (Wrg.num_a 1)) HVS.out HN.out (HOX.out.at.1.below Hw7.out (Nat.le_refl _)) (HOX.out.any HVS.out HU.out) (by omega))
    go_wp2_with (go_at_call 25; refine HS2.out.mono ?_)
    first | rintro e w8 v5 v6 rfl hb8 | rintro e w8 ⟨⟨v5, v6, rfl⟩, hb8⟩
    have Hw8 : Hid (Below V.heap.size V w8) := below_next Hw7.out hb8
    clear hb8 HS2 x0w7 x1w7
    have hkw8 := below_kept Hw8.out KV.out hzV
    have x0w8 : w8.cell? ⟨gx, 0, none⟩ = some (.string ⟨#[255]⟩) := by rw [Lib.cell_of_heap hkw8]; rfl
    have x1w8 : w8.cell? ⟨gx, 1, none⟩ = some (.slice none 0 0) := by rw [Lib.cell_of_heap hkw8]; rfl
    have hzw8 : gx < w8.heap.size := lt_of_heap hkw8
    clear hkw8
    have HS3 := Lib.hid (HSY.out ps sl S N cs 5 (max n3 6) 2 w8 (Wrg.sync2 HOK.out _ Wrg.num_e) HVS.out HN.out (HOX.out.at.1.below Hw8.out (Nat.le_refl _)) (HOX.out.any HVS.out HU.out) (by omega))
    go_wp2_with (go_at_call 25; refine HS3.out.mono ?_)
    first | rintro e w9 v7 v8 rfl hb9 | rintro e w9 ⟨⟨v7, v8, rfl⟩, hb9⟩
    have Hw9 : Hid (Below V.heap.size V w9) := below_next Hw8.out hb9
    clear hb9 HS3 x0w8 x1w8
    have hkw9 := below_kept Hw9.out KV.out hzV
    have x0w9 : w9.cell? ⟨gx, 0, none⟩ = some (.string ⟨#[255]⟩) := by rw [Lib.cell_of_heap hkw9]; rfl
    have x1w9 : w9.cell? ⟨gx, 1, none⟩ = some (.slice none 0 0) := by rw [Lib.cell_of_heap hkw9]; rfl
    have hzw9 : gx < w9.heap.size := lt_of_heap hkw9
    clear hkw9
    have hc9 : w9.drew.cell? ⟨gx, 0, none⟩ = some (.string ⟨#[255]⟩) ∧ w9.drew.cell? ⟨gx, 1, none⟩ = some (.slice none 0 0) := ⟨x0w9, x1w9⟩
    go_wp2_with fail
    refine wp_region_held_drew (S := (fun w' => Below w9.heap.size w9 w' ∧ w'.cell? ⟨gx, 0, none⟩ = some (.string ⟨#[255]⟩) ∧ w'.cell? ⟨gx, 1, none⟩ = some (.slice none 0 0))) (by kernel_rfl) ⟨(Below.refl _ w9).drew, (((Below.refl _ w9).drew).cell (p := ⟨gx, 0, none⟩) hzw9).trans x0w9, (((Below.refl _ w9).drew).cell (p := ⟨gx, 1, none⟩) hzw9).trans x1w9⟩ (fun hHeld => ?_)
    refine Rnd.take (i := 0) (v := ?_) rfl (by kernel_rfl) (by kernel_rfl) (by kernel_rfl) (fun _ _ _ h => h) (.inl ⟨by rfl, ?_⟩) (by assumption) ?_
    rotate_left
    · (intro w9 hS9; (try dsimp only at hS9); go_simp; try with_reducible rfl)
    try simp only [Act.put, List.setIfInBounds_toArray, List.set_cons_zero, List.set_cons_succ]
    refine Rnd.take (i := 2) (v := ?_) rfl (by kernel_rfl) (by kernel_rfl) (by kernel_rfl) (fun _ _ _ h => h) (.inl ⟨by rfl, ?_⟩) (by assumption) ?_
    rotate_left
    · (intro w9 hS9; (try dsimp only at hS9); go_simp; try with_reducible rfl)
    try simp only [Act.put, List.setIfInBounds_toArray, List.set_cons_zero, List.set_cons_succ]
    refine wpAnyH_ready (rs := [1]) (by kernel_rfl) (by simp) ?_
    refine AllReadyH.cons rfl (fun K hK => ?_) AllReadyH.nil
    go_simp
    refine (HT1.out _).mono ?_
    rintro e wt ⟨⟨t, rfl, hOt, hvt⟩, hbt⟩
    obtain ⟨tj, tp, tn, tc, tl⟩ := t
    have hbt9 : Below w9.heap.size w9 wt := below_next ((Below.refl _ w9).drew) hbt
    refine hK.out _ _ ⟨hbt9, ((hbt9).cell (p := ⟨gx, 0, none⟩) hzw9).trans x0w9, ((hbt9).cell (p := ⟨gx, 1, none⟩) hzw9).trans x1w9⟩ (fun hHeld => ?_)
    clear hK K
    skip
    refine wpAnyH_ready (rs := [3]) (by kernel_rfl) (by simp) ?_
    refine AllReadyH.cons rfl (fun K hK => ?_) AllReadyH.nil
    go_simp
    have hbU : Below w9.heap.size w9 (wt.alloc (.cells #[.string tj, .slice tp tn tc, .string ⟨#[255]⟩, .slice none 0 0] 29)) := hbt9.alloc hbt9.size _
    refine hK.out _ _ ⟨hbU, ((hbU).cell (p := ⟨gx, 0, none⟩) hzw9).trans x0w9, ((hbU).cell (p := ⟨gx, 1, none⟩) hzw9).trans x1w9⟩ (fun hHeld => ?_)
    clear hK K
    try simp only [Act.put, List.setIfInBounds_toArray, List.set_cons_zero, List.set_cons_succ]
    refine wpAnyH_ready (rs := [4]) (by kernel_rfl) (by simp) ?_
    refine AllReadyH.cons rfl (fun K hK => ?_) AllReadyH.nil
    go_simp
    have hOt2 : OwnT w9.drew.heap.size ⟨tj, tp, tn, tc, tl⟩ (wt.alloc (.cells #[.string tj, .slice tp tn tc, .string ⟨#[255]⟩, .slice none 0 0] 29)) := hOt.below ((Below.refl _ _).alloc (Nat.le_refl _) _) (Nat.le_refl _)
    refine (sync_is ps (some ⟨wt.heap.size, 0, none⟩) sl [(⟨tj, tp, tn, tc, tl⟩ : Can.T), ⟨⟨#[255]⟩, none, 0, 0, []⟩] N cs 2 2 5 5 351 [] [] (by rw [HVS.out]; refine Eq.trans ?_ (Wrg.sync351 (ev := 5) (ti := 5) HOK.out Wrg.okT2 (by decide)); show Po.sync S [(tj, tl), _] 5 5 = _; rw [show (tj, tl) = Po.tgt 1 from hvt]; rfl) _ HN.out rfl (HOX.out.at.1.below (Hw9.out.trans (hbU.mono Hw9.out.size)) (Nat.le_refl _)) (Po.tgts_at (by rfl) (alloc_new wt (.cells #[.string tj, .slice tp tn tc, .string ⟨#[255]⟩, .slice none 0 0] 29)) (fun t ht => by simp only [List.mem_cons, List.not_mem_nil, or_false] at ht; rcases ht with rfl | rfl; exact hOt2.at; exact .inl rfl)) (HOX.out.any HVS.out HU.out) (fun t ht => by simp only [List.mem_cons, List.not_mem_nil, or_false] at ht; rcases ht with rfl | rfl; exact Po.okU.any hOt2 (by rw [hvt]; exact Po.tgt_ok 1); exact HCE.out) (by omega) (by decide)).mono ?_
    rintro e wa ⟨⟨v9, va, s9, m9, rfl, hR9, hs9, hm9⟩, hba⟩
    obtain ⟨⟨p9, c9, rfl, _⟩, pm9, cm9, rfl, _⟩ := hR9.form
    have hba9 : Below w9.heap.size w9 wa := below_next hbU hba
    obtain rfl : s9 = [] := List.map_eq_nil_iff.1 hs9
    obtain rfl : m9 = [] := List.map_eq_nil_iff.1 hm9
    refine hK.out _ _ ⟨hba9, ((hba9).cell (p := ⟨gx, 0, none⟩) hzw9).trans x0w9, ((hba9).cell (p := ⟨gx, 1, none⟩) hzw9).trans x1w9⟩ (fun hHeld => ?_)
    clear hK K
    try simp only [Act.put, List.setIfInBounds_toArray, List.set_cons_zero, List.set_cons_succ]
    refine Rnd.take (i := 5) (v := ?_) rfl (by kernel_rfl) (by kernel_rfl) (by kernel_rfl) (fun _ _ _ h => h) (.inl ⟨by rfl, ?_⟩) (by assumption) ?_
    rotate_left
    · (intro w9 hS9; (try dsimp only at hS9); go_simp; try with_reducible rfl)
    try simp only [Act.put, List.setIfInBounds_toArray, List.set_cons_zero, List.set_cons_succ]
    refine Rnd.take (i := 6) (v := ?_) rfl (by kernel_rfl) (by kernel_rfl) (by kernel_rfl) (fun _ _ _ h => h) (.inl ⟨by rfl, ?_⟩) (by assumption) ?_
    rotate_left
    · (intro w9 hS9; (try dsimp only at hS9); go_simp; try with_reducible rfl)
    try simp only [Act.put, List.setIfInBounds_toArray, List.set_cons_zero, List.set_cons_succ]
    refine Rnd.take (i := 7) (v := ?_) rfl (by kernel_rfl) (by kernel_rfl) (by kernel_rfl) (fun _ _ _ h => h) (.inl ⟨by rfl, ?_⟩) (by assumption) ?_
    rotate_left
    · (intro w9 hS9; (try dsimp only at hS9); go_simp; try with_reducible rfl)
    try simp only [Act.put, List.setIfInBounds_toArray, List.set_cons_zero, List.set_cons_succ]
    refine Rnd.take (i := 8) (v := ?_) rfl (by kernel_rfl) (by kernel_rfl) (by kernel_rfl) (fun _ _ _ h => h) (.inl ⟨by rfl, ?_⟩) (by assumption) ?_
    rotate_left
    · (intro w9 hS9; (try dsimp only at hS9); go_simp; try with_reducible rfl)
    try simp only [Act.put, List.setIfInBounds_toArray, List.set_cons_zero, List.set_cons_succ]
    refine Rnd.take (i := 9) (v := ?_) rfl (by kernel_rfl) (by kernel_rfl) (by kernel_rfl) (fun _ _ _ h => h) (.inl ⟨by rfl, ?_⟩) (by assumption) ?_
    rotate_left
    · (intro w9 hS9; (try dsimp only at hS9); go_simp; try with_reducible rfl)
    try simp only [Act.put, List.setIfInBounds_toArray, List.set_cons_zero, List.set_cons_succ]
    refine Rnd.take (i := 10) (v := ?_) rfl (by kernel_rfl) (by kernel_rfl) (by kernel_rfl) (fun _ _ _ h => h) (.inl ⟨by rfl, ?_⟩) (by assumption) ?_
    rotate_left
    · (intro w9 hS9; (try dsimp only at hS9); go_simp; try with_reducible rfl)
    try simp only [Act.put, List.setIfInBounds_toArray, List.set_cons_zero, List.set_cons_succ]
    refine Rnd.take (i := 11) (v := ?_) rfl (by kernel_rfl) (by kernel_rfl) (by kernel_rfl) (fun _ _ _ h => h) (.inl ⟨by rfl, ?_⟩) (by assumption) ?_
    rotate_left
    · (intro w9 hS9; (try dsimp only at hS9); go_simp; try with_reducible rfl)
    try simp only [Act.put, List.setIfInBounds_toArray, List.set_cons_zero, List.set_cons_succ]
    refine wpAnyH_done (by kernel_rfl) ?_ _
    have Hwa : Hid (Below V.heap.size V wa) := below_next Hw9.out hba9
    clear hba9 hba hbU hbt hbt9 hR9 hs9 hm9 hOt hOt2 hc9 x0w9 x1w9
    have hkwa := below_kept Hwa.out KV.out hzV
    have x0wa : wa.cell? ⟨gx, 0, none⟩ = some (.string ⟨#[255]⟩) := by rw [Lib.cell_of_heap hkwa]; rfl
    have x1wa : wa.cell? ⟨gx, 1, none⟩ = some (.slice none 0 0) := by rw [Lib.cell_of_heap hkwa]; rfl
    have hzwa : gx < wa.heap.size := lt_of_heap hkwa
    clear hkwa
    have HE2 := Lib.hid (pend_is ps sl ⟨⟨#[255]⟩, none, 0, 0, []⟩ N cs 6 [] (by rw [HVS.out]; exact Wrg.end6 HOK.out HNO.out) wa HN.out (HOX.out.at.1.below Hwa.out (Nat.le_refl _)) (.inl rfl) (HOX.out.any HVS.out HU.out) HCE.out (by omega))
    go_wp2_with (go_at_call 18; refine HE2.out.mono ?_)
    first | rintro e wb v3 rfl v4 hR hb7 | rintro e wb v3 v4 s3 rfl hR hs hb7 | rintro e wb v3 rfl v4 s3 hR hs hb7 | rintro e wb ⟨⟨v3, v4, s3, rfl, hR, hs⟩, hb7⟩
    have Hwb : Hid (Below V.heap.size V wb) := below_next Hwa.out hb7
    clear hb7 hR HE2 x0wa x1wa
    have HR1 := Lib.hid (pright_is (some ⟨gb, 0, none⟩) bx N cb false (by rw [HVX.out]; exact HBADX.out) wb HLX.out (HBX.out.at.1.below Hwb.out (Nat.le_refl _)) (HBX.out.any HVX.out HUX.out) (by omega))
    go_wp2_with (go_at_call 23; refine HR1.out.mono ?_)
    first | rintro e wc rfl hb7 | rintro e wc ⟨rfl, hb7⟩
    have Hwc : Hid (Below V.heap.size V wc) := below_next Hwb.out hb7
    clear hb7 HR1
    have HR2 := Lib.hid (pright_is ps sl N cs true (by rw [HVS.out]; exact HOK.out) wc HN.out (HOX.out.at.1.below Hwc.out (Nat.le_refl _)) (HOX.out.any HVS.out HU.out) (by omega))
    go_wp2_with (go_at_call 23; refine HR2.out.mono ?_)
    first | rintro e wd rfl hb7 | rintro e wd ⟨rfl, hb7⟩
    have hbz : Below w.heap.size w wd := below_next (below_next HBWV.out Hwc.out) hb7
    clear hb7
    go_wp2_with fail
    go_ret
    exact ⟨rfl, hbz⟩
  · have ht : Int.tmod (z : Int) 6 = 1 := r6
    have h0 := HBB.out
    have st0 := Po.Own.store (j := 2) HBB.out (i := iu) (by first | exact hi1 | (rw [List.length_set]; exact hi1)) (by decide) (⟨⟨sj, sp, sn, sc, sl'⟩, max n3 1099511627777, sti, sen⟩ : Sl) (.int .i64 (max n3 1099511627777)) (by rw [HSI.out]; rfl) (by rw [HSI.out]; exact ⟨rfl, rfl, rfl, rfl⟩)
    have st1 := Po.Own.store (j := 3) st0.1 (i := iu) (by first | exact hi1 | (rw [List.length_set]; exact hi1)) (by decide) (⟨⟨sj, sp, sn, sc, sl'⟩, max n3 1099511627777, 1, sen⟩ : Sl) (.int .i64 1) (by rw [List.getElem_set_self]; rfl) (by rw [List.getElem_set_self]; exact ⟨rfl, rfl, rfl, rfl⟩)
    obtain ⟨U, hU⟩ : ∃ U, ((w4.setCell ⟨gb, iu * 5 + 2, none⟩ (.int .i64 (max n3 1099511627777))).setCell ⟨gb, iu * 5 + 3, none⟩ (.int .i64 1)) = U := ⟨_, rfl⟩
    have hbu : Below w3.heap.size w4 ((w4.setCell ⟨gb, iu * 5 + 2, none⟩ (.int .i64 (max n3 1099511627777))).setCell ⟨gb, iu * 5 + 3, none⟩ (.int .i64 1)) := (((Below.refl w3.heap.size w4).trans st0.2).trans st1.2)
    have hou : Po.Own w3.heap.size (.slice (some ⟨gb, 0, none⟩) N cb) ((bb.set iu (⟨⟨sj, sp, sn, sc, sl'⟩, max n3 1099511627777, sti, sen⟩ : Sl)).set iu (⟨⟨sj, sp, sn, sc, sl'⟩, max n3 1099511627777, 1, sen⟩ : Sl)) ((w4.setCell ⟨gb, iu * 5 + 2, none⟩ (.int .i64 (max n3 1099511627777))).setCell ⟨gb, iu * 5 + 3, none⟩ (.int .i64 1)) := st1.1
    rw [hU] at hbu hou
    obtain ⟨bx, hbx⟩ : ∃ bx, ((bb.set iu (⟨⟨sj, sp, sn, sc, sl'⟩, max n3 1099511627777, sti, sen⟩ : Sl)).set iu (⟨⟨sj, sp, sn, sc, sl'⟩, max n3 1099511627777, 1, sen⟩ : Sl)) = bx := ⟨_, rfl⟩
    rw [hbx] at hou
    have hbs : bx = bb.set iu (⟨⟨sj, sp, sn, sc, sl'⟩, max n3 1099511627777, 1, sen⟩ : Sl) := by rw [← hbx]; try rw [List.set_set]
    have HBX0 := Lib.hid hou
    have hlast : (⟨⟨sj, sp, sn, sc, sl'⟩, max n3 1099511627777, 1, sen⟩ : Sl) ∈ bx := by rw [hbs]; exact List.mem_iff_getElem.2 ⟨iu, by rw [List.length_set]; exact hi1, List.getElem_set_self ..⟩
    obtain ⟨SX, hSX⟩ : ∃ SX, bx.map Sl.view = SX := ⟨_, rfl⟩
    have HVX := Lib.hid hSX
    have HLX : Hid (bx.length = N) := by show _ = _; rw [hbs, List.length_set]; exact HBL.out
    have hvl : Sl.view (⟨⟨sj, sp, sn, sc, sl'⟩, max n3 1099511627777, 1, sen⟩ : Sl) ∈ SX := by rw [← hSX]; exact List.mem_map_of_mem hlast
    have HBADX : Hid (Po.okVs SX = false) := Po.okVs_bad ⟨_, hvl, .inr (Wrg.num_b _)⟩
    have HUX : Hid (∀ v ∈ SX, Po.okU (Po.vu v)) := fun v hv => by
      rw [← hSX] at hv
      obtain ⟨x, hx, rfl⟩ := List.mem_map.1 hv
      rw [hbs] at hx
      rcases List.mem_or_eq_of_mem_set hx with hx | rfl
      · exact HU.out _ (by rw [← HVB.out]; exact List.mem_map_of_mem hx)
      · have h9 := HU.out _ HSS.out
        exact ⟨h9.1, h9.2.1, h9.2.2⟩
    have HBW0 : Hid (Below w.heap.size w U) := HB5.out.trans (hbu.mono (by omega))
    have HOX0 : Hid (Po.Own w.heap.size (.slice ps N cs) sl U) := HOF.out U hbu
    have hnb : N ≤ 100 := by omega
    clear st0 h0 hbu hou hbx hbs hSX hvl hlast st1
    obtain ⟨V, hV⟩ : ∃ V, V = U.alloc (.cells #[.string ⟨#[255]⟩, .slice none 0 0] 29) := ⟨_, rfl⟩
    obtain ⟨gx, hgx⟩ : ∃ gx, gx = U.heap.size := ⟨_, rfl⟩
    have hbV : Below U.heap.size U V := by rw [hV]; exact (Below.refl _ _).alloc (Nat.le_refl _) _
    have kV : V.heap[gx]? = some (.cells #[.string ⟨#[255]⟩, .slice none 0 0] 29) := by rw [hV, hgx]; exact alloc_new _ _
    have hzV : gx < V.heap.size := lt_of_heap kV
    have HBX := Lib.hid (HBX0.out.below hbV (Nat.le_refl _))
    have HOX := Lib.hid (HOX0.out.below hbV (Nat.le_refl _))
    have HBWV : Hid (Below w.heap.size w V) := below_next HBW0.out hbV
    have KV := Lib.hid kV
    have x0 : V.cell? ⟨gx, 0, none⟩ = some (.string ⟨#[255]⟩) := by rw [Lib.cell_of_heap kV]; rfl
    have x1 : V.cell? ⟨gx, 1, none⟩ = some (.slice none 0 0) := by rw [Lib.cell_of_heap kV]; rfl
    have HTA : Hid (∀ (W : World) (b : Nat), W.heap[b]? = some (.cells #[.string ⟨#[255]⟩, .slice none 0 0] 29) → Po.TgAt (some ⟨b, 0, none⟩) [(⟨⟨#[255]⟩, none, 0, 0, []⟩ : Can.T)] W) := fun W b h => Po.tgts_at (by rfl) h (fun t ht => by rw [List.mem_singleton] at ht; subst ht; exact .inl rfl)
    have HTAN : Hid (∀ t ∈ [(⟨⟨#[255]⟩, none, 0, 0, []⟩ : Can.T)], Can.TAny t) := fun t ht => by rw [List.mem_singleton] at ht; subst ht; exact ⟨by decide, rfl, fun x hx => (nomatch hx), fun _ => rfl, Nat.zero_le _⟩
    have HSY : Hid (∀ (p : Option Addr) (ss : List Sl) (S : List Po.V) (n c : Nat) (ev ti r : Int) (W : World), Po.sync S [Wrg.x] ev ti = (r, [], []) → ss.map Sl.view = S → ss.length = n → Po.At p ss W → (∀ s ∈ ss, Can.TAny s.t) → n ≤ 100 → Calls Try.prog 25 #[.slice p n c, .slice (some ⟨W.heap.size, 0, none⟩) 1 1, .int .i64 ev, .int .i64 ti] (W.alloc (.cells #[.string ⟨#[255]⟩, .slice none 0 0] 29)) fun e w' => (∃ v1 v2, e = .returned (.tuple #[v1, v2, .int .i64 r])) ∧ Below W.heap.size W w') := fun p ss S n c ev ti r W h hv hn hA hF hl => by
      have hb : Below W.heap.size W (W.alloc (.cells #[.string ⟨#[255]⟩, .slice none 0 0] 29)) := (Below.refl _ _).alloc (Nat.le_refl _) _
      refine (sync_is p (some ⟨W.heap.size, 0, none⟩) ss [(⟨⟨#[255]⟩, none, 0, 0, []⟩ : Can.T)] n c 1 1 ev ti r [] [] (by rw [hv]; exact h) _ hn rfl (hA.below hb (Nat.le_refl _)) (HTA.out _ _ (alloc_new W _)) hF HTAN.out (by omega) (by decide)).mono ?_
      rintro e w6 ⟨⟨v1, v2, s6, m6, rfl, _⟩, hb6⟩
      exact ⟨⟨v1, v2, rfl⟩, hb.trans (hb6.mono (by simp))⟩
    have HCE : Hid (Can.TAny ⟨⟨#[255]⟩, none, 0, 0, []⟩) := HTAN.out _ (List.mem_singleton.2 rfl)
    have HS1 := Lib.hid (HSY.out (some ⟨gb, 0, none⟩) bx SX N cb 0 0 350 V (Wrg.sync350 HBADX.out _ _ _) HVX.out HLX.out HBX.out.at.1 (HBX.out.any HVX.out HUX.out) hnb)
    clear hbV kV HTA HTAN
    go_wp2_with (first | (rw [hU]; clear hU) | (rw [← hV, ← hgx]; clear hV hgx) | (go_at_call 25; refine HS1.out.mono ?_))
    first | rintro e w6 v1 v2 rfl hb6 | rintro e w6 ⟨⟨v1, v2, rfl⟩, hb6⟩
    have Hw6 : Hid (Below V.heap.size V w6) := hb6
    clear hb6 HS1 x0 x1
    have hkw6 := below_kept Hw6.out KV.out hzV
    have x0w6 : w6.cell? ⟨gx, 0, none⟩ = some (.string ⟨#[255]⟩) := by rw [Lib.cell_of_heap hkw6]; rfl
    have x1w6 : w6.cell? ⟨gx, 1, none⟩ = some (.slice none 0 0) := by rw [Lib.cell_of_heap hkw6]; rfl
    have hzw6 : gx < w6.heap.size := lt_of_heap hkw6
    clear hkw6
    have HE1 := Lib.hid (pend_is (some ⟨gb, 0, none⟩) bx ⟨⟨#[255]⟩, none, 0, 0, []⟩ N cb 350 [] (by rw [HVX.out]; exact Wrg.end350 HBADX.out _) w6 HLX.out (HBX.out.at.1.below Hw6.out (Nat.le_refl _)) (.inl rfl) (HBX.out.any HVX.out HUX.out) HCE.out (by omega))
    go_wp2_with (go_at_call 18; refine HE1.out.mono ?_)
    first | rintro e w7 v3 v4 s3 rfl hR hs hb7 | rintro e w7 v3 rfl v4 s3 hR hs hb7 | rintro e w7 ⟨⟨v3, v4, s3, rfl, hR, hs⟩, hb7⟩
    have Hw7 : Hid (Below V.heap.size V w7) := below_next Hw6.out hb7
    clear hb7 hR hs HE1 x0w6 x1w6
    have hkw7 := below_kept Hw7.out KV.out hzV
    have x0w7 : w7.cell? ⟨gx, 0, none⟩ = some (.string ⟨#[255]⟩) := by rw [Lib.cell_of_heap hkw7]; rfl
    have x1w7 : w7.cell? ⟨gx, 1, none⟩ = some (.slice none 0 0) := by rw [Lib.cell_of_heap hkw7]; rfl
    have hzw7 : gx < w7.heap.size := lt_of_heap hkw7
    clear hkw7
    have HS2 := Lib.hid (HSY.out ps sl S N cs (min n3 0) 1 2 w7 (Wrg.sync2 HOK.out _ (Wrg.num_a 1)) HVS.out HN.out (HOX.out.at.1.below Hw7.out (Nat.le_refl _)) (HOX.out.any HVS.out HU.out) (by omega))
    go_wp2_with (go_at_call 25; refine HS2.out.mono ?_)
    first | rintro e w8 v5 v6 rfl hb8 | rintro e w8 ⟨⟨v5, v6, rfl⟩, hb8⟩
    have Hw8 : Hid (Below V.heap.size V w8) := below_next Hw7.out hb8
    clear hb8 HS2 x0w7 x1w7
    have hkw8 := below_kept Hw8.out KV.out hzV
    have x0w8 : w8.cell? ⟨gx, 0, none⟩ = some (.string ⟨#[255]⟩) := by rw [Lib.cell_of_heap hkw8]; rfl
    have x1w8 : w8.cell? ⟨gx, 1, none⟩ = some (.slice none 0 0) := by rw [Lib.cell_of_heap hkw8]; rfl
    have hzw8 : gx < w8.heap.size := lt_of_heap hkw8
    clear hkw8
    have HS3 := Lib.hid (HSY.out ps sl S N cs 5 (max n3 6) 2 w8 (Wrg.sync2 HOK.out _ Wrg.num_e) HVS.out HN.out (HOX.out.at.1.below Hw8.out (Nat.le_refl _)) (HOX.out.any HVS.out HU.out) (by omega))
    go_wp2_with (go_at_call 25; refine HS3.out.mono ?_)
    first | rintro e w9 v7 v8 rfl hb9 | rintro e w9 ⟨⟨v7, v8, rfl⟩, hb9⟩
    have Hw9 : Hid (Below V.heap.size V w9) := below_next Hw8.out hb9
    clear hb9 HS3 x0w8 x1w8
    have hkw9 := below_kept Hw9.out KV.out hzV
    have x0w9 : w9.cell? ⟨gx, 0, none⟩ = some (.string ⟨#[255]⟩) := by rw [Lib.cell_of_heap hkw9]; rfl
    have x1w9 : w9.cell? ⟨gx, 1, none⟩ = some (.slice none 0 0) := by rw [Lib.cell_of_heap hkw9]; rfl
    have hzw9 : gx < w9.heap.size := lt_of_heap hkw9
    clear hkw9
    have hc9 : w9.drew.cell? ⟨gx, 0, none⟩ = some (.string ⟨#[255]⟩) ∧ w9.drew.cell? ⟨gx, 1, none⟩ = some (.slice none 0 0) := ⟨x0w9, x1w9⟩
    go_wp2_with fail
    refine wp_region_held_drew (S := (fun w' => Below w9.heap.size w9 w' ∧ w'.cell? ⟨gx, 0, none⟩ = some (.string ⟨#[255]⟩) ∧ w'.cell? ⟨gx, 1, none⟩ = some (.slice none 0 0))) (by kernel_rfl) ⟨(Below.refl _ w9).drew, (((Below.refl _ w9).drew).cell (p := ⟨gx, 0, none⟩) hzw9).trans x0w9, (((Below.refl _ w9).drew).cell (p := ⟨gx, 1, none⟩) hzw9).trans x1w9⟩ (fun hHeld => ?_)
    refine Rnd.take (i := 0) (v := ?_) rfl (by kernel_rfl) (by kernel_rfl) (by kernel_rfl) (fun _ _ _ h => h) (.inl ⟨by rfl, ?_⟩) (by assumption) ?_
    rotate_left
    · (intro w9 hS9; (try dsimp only at hS9); go_simp; try with_reducible rfl)
    try simp only [Act.put, List.setIfInBounds_toArray, List.set_cons_zero, List.set_cons_succ]
    refine Rnd.take (i := 2) (v := ?_) rfl (by kernel_rfl) (by kernel_rfl) (by kernel_rfl) (fun _ _ _ h => h) (.inl ⟨by rfl, ?_⟩) (by assumption) ?_
    rotate_left
    · (intro w9 hS9; (try dsimp only at hS9); go_simp; try with_reducible rfl)
    try simp only [Act.put, List.setIfInBounds_toArray, List.set_cons_zero, List.set_cons_succ]
    refine wpAnyH_ready (rs := [1]) (by kernel_rfl) (by simp) ?_
    refine AllReadyH.cons rfl (fun K hK => ?_) AllReadyH.nil
    go_simp
    refine (HT1.out _).mono ?_
    rintro e wt ⟨⟨t, rfl, hOt, hvt⟩, hbt⟩
    obtain ⟨tj, tp, tn, tc, tl⟩ := t
    have hbt9 : Below w9.heap.size w9 wt := below_next ((Below.refl _ w9).drew) hbt
    refine hK.out _ _ ⟨hbt9, ((hbt9).cell (p := ⟨gx, 0, none⟩) hzw9).trans x0w9, ((hbt9).cell (p := ⟨gx, 1, none⟩) hzw9).trans x1w9⟩ (fun hHeld => ?_)
    clear hK K
    skip
    refine wpAnyH_ready (rs := [3]) (by kernel_rfl) (by simp) ?_
    refine AllReadyH.cons rfl (fun K hK => ?_) AllReadyH.nil
    go_simp
    have hbU : Below w9.heap.size w9 (wt.alloc (.cells #[.string tj, .slice tp tn tc, .string ⟨#[255]⟩, .slice none 0 0] 29)) := hbt9.alloc hbt9.size _
    refine hK.out _ _ ⟨hbU, ((hbU).cell (p := ⟨gx, 0, none⟩) hzw9).trans x0w9, ((hbU).cell (p := ⟨gx, 1, none⟩) hzw9).trans x1w9⟩ (fun hHeld => ?_)
    clear hK K
    try simp only [Act.put, List.setIfInBounds_toArray, List.set_cons_zero, List.set_cons_succ]
    refine wpAnyH_ready (rs := [4]) (by kernel_rfl) (by simp) ?_
    refine AllReadyH.cons rfl (fun K hK => ?_) AllReadyH.nil
    go_simp
    have hOt2 : OwnT w9.drew.heap.size ⟨tj, tp, tn, tc, tl⟩ (wt.alloc (.cells #[.string tj, .slice tp tn tc, .string ⟨#[255]⟩, .slice none 0 0] 29)) := hOt.below ((Below.refl _ _).alloc (Nat.le_refl _) _) (Nat.le_refl _)
    refine (sync_is ps (some ⟨wt.heap.size, 0, none⟩) sl [(⟨tj, tp, tn, tc, tl⟩ : Can.T), ⟨⟨#[255]⟩, none, 0, 0, []⟩] N cs 2 2 5 5 351 [] [] (by rw [HVS.out]; refine Eq.trans ?_ (Wrg.sync351 (ev := 5) (ti := 5) HOK.out Wrg.okT2 (by decide)); show Po.sync S [(tj, tl), _] 5 5 = _; rw [show (tj, tl) = Po.tgt 1 from hvt]; rfl) _ HN.out rfl (HOX.out.at.1.below (Hw9.out.trans (hbU.mono Hw9.out.size)) (Nat.le_refl _)) (Po.tgts_at (by rfl) (alloc_new wt (.cells #[.string tj, .slice tp tn tc, .string ⟨#[255]⟩, .slice none 0 0] 29)) (fun t ht => by simp only [List.mem_cons, List.not_mem_nil, or_false] at ht; rcases ht with rfl | rfl; exact hOt2.at; exact .inl rfl)) (HOX.out.any HVS.out HU.out) (fun t ht => by simp only [List.mem_cons, List.not_mem_nil, or_false] at ht; rcases ht with rfl | rfl; exact Po.okU.any hOt2 (by rw [hvt]; exact Po.tgt_ok 1); exact HCE.out) (by omega) (by decide)).mono ?_
    rintro e wa ⟨⟨v9, va, s9, m9, rfl, hR9, hs9, hm9⟩, hba⟩
    obtain ⟨⟨p9, c9, rfl, _⟩, pm9, cm9, rfl, _⟩ := hR9.form
    have hba9 : Below w9.heap.size w9 wa := below_next hbU hba
    obtain rfl : s9 = [] := List.map_eq_nil_iff.1 hs9
    obtain rfl : m9 = [] := List.map_eq_nil_iff.1 hm9
    refine hK.out _ _ ⟨hba9, ((hba9).cell (p := ⟨gx, 0, none⟩) hzw9).trans x0w9, ((hba9).cell (p := ⟨gx, 1, none⟩) hzw9).trans x1w9⟩ (fun hHeld => ?_)
    clear hK K
    try simp only [Act.put, List.setIfInBounds_toArray, List.set_cons_zero, List.set_cons_succ]
    refine Rnd.take (i := 5) (v := ?_) rfl (by kernel_rfl) (by kernel_rfl) (by kernel_rfl) (fun _ _ _ h => h) (.inl ⟨by rfl, ?_⟩) (by assumption) ?_
    rotate_left
    · (intro w9 hS9; (try dsimp only at hS9); go_simp; try with_reducible rfl)
    try simp only [Act.put, List.setIfInBounds_toArray, List.set_cons_zero, List.set_cons_succ]
    refine Rnd.take (i := 6) (v := ?_) rfl (by kernel_rfl) (by kernel_rfl) (by kernel_rfl) (fun _ _ _ h => h) (.inl ⟨by rfl, ?_⟩) (by assumption) ?_
    rotate_left
    · (intro w9 hS9; (try dsimp only at hS9); go_simp; try with_reducible rfl)
    try simp only [Act.put, List.setIfInBounds_toArray, List.set_cons_zero, List.set_cons_succ]
    refine Rnd.take (i := 7) (v := ?_) rfl (by kernel_rfl) (by kernel_rfl) (by kernel_rfl) (fun _ _ _ h => h) (.inl ⟨by rfl, ?_⟩) (by assumption) ?_
    rotate_left
    · (intro w9 hS9; (try dsimp only at hS9); go_simp; try with_reducible rfl)
    try simp only [Act.put, List.setIfInBounds_toArray, List.set_cons_zero, List.set_cons_succ]
    refine Rnd.take (i := 8) (v := ?_) rfl (by kernel_rfl) (by kernel_rfl) (by kernel_rfl) (fun _ _ _ h => h) (.inl ⟨by rfl, ?_⟩) (by assumption) ?_
    rotate_left
    · (intro w9 hS9; (try dsimp only at hS9); go_simp; try with_reducible rfl)
    try simp only [Act.put, List.setIfInBounds_toArray, List.set_cons_zero, List.set_cons_succ]
    refine Rnd.take (i := 9) (v := ?_) rfl (by kernel_rfl) (by kernel_rfl) (by kernel_rfl) (fun _ _ _ h => h) (.inl ⟨by rfl, ?_⟩) (by assumption) ?_
    rotate_left
    · (intro w9 hS9; (try dsimp only at hS9); go_simp; try with_reducible rfl)
    try simp only [Act.put, List.setIfInBounds_toArray, List.set_cons_zero, List.set_cons_succ]
    refine Rnd.take (i := 10) (v := ?_) rfl (by kernel_rfl) (by kernel_rfl) (by kernel_rfl) (fun _ _ _ h => h) (.inl ⟨by rfl, ?_⟩) (by assumption) ?_
    rotate_left
    · (intro w9 hS9; (try dsimp only at hS9); go_simp; try with_reducible rfl)
    try simp only [Act.put, List.setIfInBounds_toArray, List.set_cons_zero, List.set_cons_succ]
    refine Rnd.take (i := 11) (v := ?_) rfl (by kernel_rfl) (by kernel_rfl) (by kernel_rfl) (fun _ _ _ h => h) (.inl ⟨by rfl, ?_⟩) (by assumption) ?_
    rotate_left
    · (intro w9 hS9; (try dsimp only at hS9); go_simp; try with_reducible rfl)
    try simp only [Act.put, List.setIfInBounds_toArray, List.set_cons_zero, List.set_cons_succ]
    refine wpAnyH_done (by kernel_rfl) ?_ _
    have Hwa : Hid (Below V.heap.size V wa) := below_next Hw9.out hba9
    clear hba9 hba hbU hbt hbt9 hR9 hs9 hm9 hOt hOt2 hc9 x0w9 x1w9
    have hkwa := below_kept Hwa.out KV.out hzV
    have x0wa : wa.cell? ⟨gx, 0, none⟩ = some (.string ⟨#[255]⟩) := by rw [Lib.cell_of_heap hkwa]; rfl
    have x1wa : wa.cell? ⟨gx, 1, none⟩ = some (.slice none 0 0) := by rw [Lib.cell_of_heap hkwa]; rfl
    have hzwa : gx < wa.heap.size := lt_of_heap hkwa
    clear hkwa
    have HE2 := Lib.hid (pend_is ps sl ⟨⟨#[255]⟩, none, 0, 0, []⟩ N cs 6 [] (by rw [HVS.out]; exact Wrg.end6 HOK.out HNO.out) wa HN.out (HOX.out.at.1.below Hwa.out (Nat.le_refl _)) (.inl rfl) (HOX.out.any HVS.out HU.out) HCE.out (by omega))
    go_wp2_with (go_at_call 18; refine HE2.out.mono ?_)
    first | rintro e wb v3 rfl v4 hR hb7 | rintro e wb v3 v4 s3 rfl hR hs hb7 | rintro e wb v3 rfl v4 s3 hR hs hb7 | rintro e wb ⟨⟨v3, v4, s3, rfl, hR, hs⟩, hb7⟩
    have Hwb : Hid (Below V.heap.size V wb) := below_next Hwa.out hb7
    clear hb7 hR HE2 x0wa x1wa
    have HR1 := Lib.hid (pright_is (some ⟨gb, 0, none⟩) bx N cb false (by rw [HVX.out]; exact HBADX.out) wb HLX.out (HBX.out.at.1.below Hwb.out (Nat.le_refl _)) (HBX.out.any HVX.out HUX.out) (by omega))
    go_wp2_with (go_at_call 23; refine HR1.out.mono ?_)
    first | rintro e wc rfl hb7 | rintro e wc ⟨rfl, hb7⟩
    have Hwc : Hid (Below V.heap.size V wc) := below_next Hwb.out hb7
    clear hb7 HR1
    have HR2 := Lib.hid (pright_is ps sl N cs true (by rw [HVS.out]; exact HOK.out) wc HN.out (HOX.out.at.1.below Hwc.out (Nat.le_refl _)) (HOX.out.any HVS.out HU.out) (by omega))
    go_wp2_with (go_at_call 23; refine HR2.out.mono ?_)
    first | rintro e wd rfl hb7 | rintro e wd ⟨rfl, hb7⟩
    have hbz : Below w.heap.size w wd := below_next (below_next HBWV.out Hwc.out) hb7
    clear hb7
    go_wp2_with fail
    go_ret
    exact ⟨rfl, hbz⟩
  · have ht : Int.tmod (z : Int) 6 = 2 := r6
    have h0 := HBB.out
    have st0 := Po.Own.store (j := 3) HBB.out (i := iu) (by first | exact hi1 | (rw [List.length_set]; exact hi1)) (by decide) (⟨⟨sj, sp, sn, sc, sl'⟩, sev, max n3 (sev + 1), sen⟩ : Sl) (.int .i64 (max n3 (sev + 1))) (by rw [HSI.out]; rfl) (by rw [HSI.out]; exact ⟨rfl, rfl, rfl, rfl⟩)
    obtain ⟨U, hU⟩ : ∃ U, (w4.setCell ⟨gb, iu * 5 + 3, none⟩ (.int .i64 (max n3 (sev + 1)))) = U := ⟨_, rfl⟩
    have hbu : Below w3.heap.size w4 (w4.setCell ⟨gb, iu * 5 + 3, none⟩ (.int .i64 (max n3 (sev + 1)))) := ((Below.refl w3.heap.size w4).trans st0.2)
    have hou : Po.Own w3.heap.size (.slice (some ⟨gb, 0, none⟩) N cb) (bb.set iu (⟨⟨sj, sp, sn, sc, sl'⟩, sev, max n3 (sev + 1), sen⟩ : Sl)) (w4.setCell ⟨gb, iu * 5 + 3, none⟩ (.int .i64 (max n3 (sev + 1)))) := st0.1
    rw [hU] at hbu hou
    obtain ⟨bx, hbx⟩ : ∃ bx, (bb.set iu (⟨⟨sj, sp, sn, sc, sl'⟩, sev, max n3 (sev + 1), sen⟩ : Sl)) = bx := ⟨_, rfl⟩
    rw [hbx] at hou
    have hbs : bx = bb.set iu (⟨⟨sj, sp, sn, sc, sl'⟩, sev, max n3 (sev + 1), sen⟩ : Sl) := by rw [← hbx]; try rw [List.set_set]
    have HBX0 := Lib.hid hou
    have hlast : (⟨⟨sj, sp, sn, sc, sl'⟩, sev, max n3 (sev + 1), sen⟩ : Sl) ∈ bx := by rw [hbs]; exact List.mem_iff_getElem.2 ⟨iu, by rw [List.length_set]; exact hi1, List.getElem_set_self ..⟩
    obtain ⟨SX, hSX⟩ : ∃ SX, bx.map Sl.view = SX := ⟨_, rfl⟩
    have HVX := Lib.hid hSX
    have HLX : Hid (bx.length = N) := by show _ = _; rw [hbs, List.length_set]; exact HBL.out
    have hvl : Sl.view (⟨⟨sj, sp, sn, sc, sl'⟩, sev, max n3 (sev + 1), sen⟩ : Sl) ∈ SX := by rw [← hSX]; exact List.mem_map_of_mem hlast
    have HBADX : Hid (Po.okVs SX = false) := Po.okVs_bad ⟨_, hvl, .inr Wrg.num_c⟩
    have HUX : Hid (∀ v ∈ SX, Po.okU (Po.vu v)) := fun v hv => by
      rw [← hSX] at hv
      obtain ⟨x, hx, rfl⟩ := List.mem_map.1 hv
      rw [hbs] at hx
      rcases List.mem_or_eq_of_mem_set hx with hx | rfl
      · exact HU.out _ (by rw [← HVB.out]; exact List.mem_map_of_mem hx)
      · have h9 := HU.out _ HSS.out
        exact ⟨h9.1, h9.2.1, h9.2.2⟩
    have HBW0 : Hid (Below w.heap.size w U) := HB5.out.trans (hbu.mono (by omega))
    have HOX0 : Hid (Po.Own w.heap.size (.slice ps N cs) sl U) := HOF.out U hbu
    have hnb : N ≤ 100 := by omega
    clear st0 h0 hbu hou hbx hbs hSX hvl hlast
    obtain ⟨V, hV⟩ : ∃ V, V = U.alloc (.cells #[.string ⟨#[255]⟩, .slice none 0 0] 29) := ⟨_, rfl⟩
    obtain ⟨gx, hgx⟩ : ∃ gx, gx = U.heap.size := ⟨_, rfl⟩
    have hbV : Below U.heap.size U V := by rw [hV]; exact (Below.refl _ _).alloc (Nat.le_refl _) _
    have kV : V.heap[gx]? = some (.cells #[.string ⟨#[255]⟩, .slice none 0 0] 29) := by rw [hV, hgx]; exact alloc_new _ _
    have hzV : gx < V.heap.size := lt_of_heap kV
    have HBX := Lib.hid (HBX0.out.below hbV (Nat.le_refl _))
    have HOX := Lib.hid (HOX0.out.below hbV (Nat.le_refl _))
    have HBWV : Hid (Below w.heap.size w V) := below_next HBW0.out hbV
    have KV := Lib.hid kV
    have x0 : V.cell? ⟨gx, 0, none⟩ = some (.string ⟨#[255]⟩) := by rw [Lib.cell_of_heap kV]; rfl
    have x1 : V.cell? ⟨gx, 1, none⟩ = some (.slice none 0 0) := by rw [Lib.cell_of_heap kV]; rfl
    have HTA : Hid (∀ (W : World) (b : Nat), W.heap[b]? = some (.cells #[.string ⟨#[255]⟩, .slice none 0 0] 29) → Po.TgAt (some ⟨b, 0, none⟩) [(⟨⟨#[255]⟩, none, 0, 0, []⟩ : Can.T)] W) := fun W b h => Po.tgts_at (by rfl) h (fun t ht => by rw [List.mem_singleton] at ht; subst ht; exact .inl rfl)
    have HTAN : Hid (∀ t ∈ [(⟨⟨#[255]⟩, none, 0, 0, []⟩ : Can.T)], Can.TAny t) := fun t ht => by rw [List.mem_singleton] at ht; subst ht; exact ⟨by decide, rfl, fun x hx => (nomatch hx), fun _ => rfl, Nat.zero_le _⟩
    have HSY : Hid (∀ (p : Option Addr) (ss : List Sl) (S : List Po.V) (n c : Nat) (ev ti r : Int) (W : World), Po.sync S [Wrg.x] ev ti = (r, [], []) → ss.map Sl.view = S → ss.length = n → Po.At p ss W → (∀ s ∈ ss, Can.TAny s.t) → n ≤ 100 → Calls Try.prog 25 #[.slice p n c, .slice (some ⟨W.heap.size, 0, none⟩) 1 1, .int .i64 ev, .int .i64 ti] (W.alloc (.cells #[.string ⟨#[255]⟩, .slice none 0 0] 29)) fun e w' => (∃ v1 v2, e = .returned (.tuple #[v1, v2, .int .i64 r])) ∧ Below W.heap.size W w') := fun p ss S n c ev ti r W h hv hn hA hF hl => by
      have hb : Below W.heap.size W (W.alloc (.cells #[.string ⟨#[255]⟩, .slice none 0 0] 29)) := (Below.refl _ _).alloc (Nat.le_refl _) _
      refine (sync_is p (some ⟨W.heap.size, 0, none⟩) ss [(⟨⟨#[255]⟩, none, 0, 0, []⟩ : Can.T)] n c 1 1 ev ti r [] [] (by rw [hv]; exact h) _ hn rfl (hA.below hb (Nat.le_refl _)) (HTA.out _ _ (alloc_new W _)) hF HTAN.out (by omega) (by decide)).mono ?_
      rintro e w6 ⟨⟨v1, v2, s6, m6, rfl, _⟩, hb6⟩
      exact ⟨⟨v1, v2, rfl⟩, hb.trans (hb6.mono (by simp))⟩
    have HCE : Hid (Can.TAny ⟨⟨#[255]⟩, none, 0, 0, []⟩) := HTAN.out _ (List.mem_singleton.2 rfl)
    have HS1 := Lib.hid (HSY.out (some ⟨gb, 0, none⟩) bx SX N cb 0 0 350 V (Wrg.sync350 HBADX.out _ _ _) HVX.out HLX.out HBX.out.at.1 (HBX.out.any HVX.out HUX.out) hnb)
    clear hbV kV HTA HTAN
    go_wp2_with (first | (rw [hU]; clear hU) | (rw [← hV, ← hgx]; clear hV hgx) | (go_at_call 25; refine HS1.out.mono ?_))
    first | rintro e w6 v1 v2 rfl hb6 | rintro e w6 ⟨⟨v1, v2, rfl⟩, hb6⟩
    have Hw6 : Hid (Below V.heap.size V w6) := hb6
    clear hb6 HS1 x0 x1
    have hkw6 := below_kept Hw6.out KV.out hzV
    have x0w6 : w6.cell? ⟨gx, 0, none⟩ = some (.string ⟨#[255]⟩) := by rw [Lib.cell_of_heap hkw6]; rfl
    have x1w6 : w6.cell? ⟨gx, 1, none⟩ = some (.slice none 0 0) := by rw [Lib.cell_of_heap hkw6]; rfl
    have hzw6 : gx < w6.heap.size := lt_of_heap hkw6
    clear hkw6
    have HE1 := Lib.hid (pend_is (some ⟨gb, 0, none⟩) bx ⟨⟨#[255]⟩, none, 0, 0, []⟩ N cb 350 [] (by rw [HVX.out]; exact Wrg.end350 HBADX.out _) w6 HLX.out (HBX.out.at.1.below Hw6.out (Nat.le_refl _)) (.inl rfl) (HBX.out.any HVX.out HUX.out) HCE.out (by omega))
    go_wp2_with (go_at_call 18; refine HE1.out.mono ?_)
    first | rintro e w7 v3 v4 s3 rfl hR hs hb7 | rintro e w7 v3 rfl v4 s3 hR hs hb7 | rintro e w7 ⟨⟨v3, v4, s3, rfl, hR, hs⟩, hb7⟩
    have Hw7 : Hid (Below V.heap.size V w7) := below_next Hw6.out hb7
    clear hb7 hR hs HE1 x0w6 x1w6
    have hkw7 := below_kept Hw7.out KV.out hzV
    have x0w7 : w7.cell? ⟨gx, 0, none⟩ = some (.string ⟨#[255]⟩) := by rw [Lib.cell_of_heap hkw7]; rfl
    have x1w7 : w7.cell? ⟨gx, 1, none⟩ = some (.slice none 0 0) := by rw [Lib.cell_of_heap hkw7]; rfl
    have hzw7 : gx < w7.heap.size := lt_of_heap hkw7
    clear hkw7
    have HS2 := Lib.hid (HSY.out ps sl S N cs (min n3 0) 1 2 w7 (Wrg.sync2 HOK.out _ (Wrg.num_a 1)) HVS.out HN.out (HOX.out.at.1.below Hw7.out (Nat.le_refl _)) (HOX.out.any HVS.out HU.out) (by omega))
    go_wp2_with (go_at_call 25; refine HS2.out.mono ?_)
    first | rintro e w8 v5 v6 rfl hb8 | rintro e w8 ⟨⟨v5, v6, rfl⟩, hb8⟩
    have Hw8 : Hid (Below V.heap.size V w8) := below_next Hw7.out hb8
    clear hb8 HS2 x0w7 x1w7
    have hkw8 := below_kept Hw8.out KV.out hzV
    have x0w8 : w8.cell? ⟨gx, 0, none⟩ = some (.string ⟨#[255]⟩) := by rw [Lib.cell_of_heap hkw8]; rfl
    have x1w8 : w8.cell? ⟨gx, 1, none⟩ = some (.slice none 0 0) := by rw [Lib.cell_of_heap hkw8]; rfl
    have hzw8 : gx < w8.heap.size := lt_of_heap hkw8
    clear hkw8
    have HS3 := Lib.hid (HSY.out ps sl S N cs 5 (max n3 6) 2 w8 (Wrg.sync2 HOK.out _ Wrg.num_e) HVS.out HN.out (HOX.out.at.1.below Hw8.out (Nat.le_refl _)) (HOX.out.any HVS.out HU.out) (by omega))
    go_wp2_with (go_at_call 25; refine HS3.out.mono ?_)
    first | rintro e w9 v7 v8 rfl hb9 | rintro e w9 ⟨⟨v7, v8, rfl⟩, hb9⟩
    have Hw9 : Hid (Below V.heap.size V w9) := below_next Hw8.out hb9
    clear hb9 HS3 x0w8 x1w8
    have hkw9 := below_kept Hw9.out KV.out hzV
    have x0w9 : w9.cell? ⟨gx, 0, none⟩ = some (.string ⟨#[255]⟩) := by rw [Lib.cell_of_heap hkw9]; rfl
    have x1w9 : w9.cell? ⟨gx, 1, none⟩ = some (.slice none 0 0) := by rw [Lib.cell_of_heap hkw9]; rfl
    have hzw9 : gx < w9.heap.size := lt_of_heap hkw9
    clear hkw9
    have hc9 : w9.drew.cell? ⟨gx, 0, none⟩ = some (.string ⟨#[255]⟩) ∧ w9.drew.cell? ⟨gx, 1, none⟩ = some (.slice none 0 0) := ⟨x0w9, x1w9⟩
    go_wp2_with fail
    refine wp_region_held_drew (S := (fun w' => Below w9.heap.size w9 w' ∧ w'.cell? ⟨gx, 0, none⟩ = some (.string ⟨#[255]⟩) ∧ w'.cell? ⟨gx, 1, none⟩ = some (.slice none 0 0))) (by kernel_rfl) ⟨(Below.refl _ w9).drew, (((Below.refl _ w9).drew).cell (p := ⟨gx, 0, none⟩) hzw9).trans x0w9, (((Below.refl _ w9).drew).cell (p := ⟨gx, 1, none⟩) hzw9).trans x1w9⟩ (fun hHeld => ?_)
    refine Rnd.take (i := 0) (v := ?_) rfl (by kernel_rfl) (by kernel_rfl) (by kernel_rfl) (fun _ _ _ h => h) (.inl ⟨by rfl, ?_⟩) (by assumption) ?_
    rotate_left
    · (intro w9 hS9; (try dsimp only at hS9); go_simp; try with_reducible rfl)
    try simp only [Act.put, List.setIfInBounds_toArray, List.set_cons_zero, List.set_cons_succ]
    refine Rnd.take (i := 2) (v := ?_) rfl (by kernel_rfl) (by kernel_rfl) (by kernel_rfl) (fun _ _ _ h => h) (.inl ⟨by rfl, ?_⟩) (by assumption) ?_
    rotate_left
    · (intro w9 hS9; (try dsimp only at hS9); go_simp; try with_reducible rfl)
    try simp only [Act.put, List.setIfInBounds_toArray, List.set_cons_zero, List.set_cons_succ]
    refine wpAnyH_ready (rs := [1]) (by kernel_rfl) (by simp) ?_
    refine AllReadyH.cons rfl (fun K hK => ?_) AllReadyH.nil
    go_simp
    refine (HT1.out _).mono ?_
    rintro e wt ⟨⟨t, rfl, hOt, hvt⟩, hbt⟩
    obtain ⟨tj, tp, tn, tc, tl⟩ := t
    have hbt9 : Below w9.heap.size w9 wt := below_next ((Below.refl _ w9).drew) hbt
    refine hK.out _ _ ⟨hbt9, ((hbt9).cell (p := ⟨gx, 0, none⟩) hzw9).trans x0w9, ((hbt9).cell (p := ⟨gx, 1, none⟩) hzw9).trans x1w9⟩ (fun hHeld => ?_)
    clear hK K
    skip
    refine wpAnyH_ready (rs := [3]) (by kernel_rfl) (by simp) ?_
    refine AllReadyH.cons rfl (fun K hK => ?_) AllReadyH.nil
    go_simp
    have hbU : Below w9.heap.size w9 (wt.alloc (.cells #[.string tj, .slice tp tn tc, .string ⟨#[255]⟩, .slice none 0 0] 29)) := hbt9.alloc hbt9.size _
    refine hK.out _ _ ⟨hbU, ((hbU).cell (p := ⟨gx, 0, none⟩) hzw9).trans x0w9, ((hbU).cell (p := ⟨gx, 1, none⟩) hzw9).trans x1w9⟩ (fun hHeld => ?_)
    clear hK K
    try simp only [Act.put, List.setIfInBounds_toArray, List.set_cons_zero, List.set_cons_succ]
    refine wpAnyH_ready (rs := [4]) (by kernel_rfl) (by simp) ?_
    refine AllReadyH.cons rfl (fun K hK => ?_) AllReadyH.nil
    go_simp
    have hOt2 : OwnT w9.drew.heap.size ⟨tj, tp, tn, tc, tl⟩ (wt.alloc (.cells #[.string tj, .slice tp tn tc, .string ⟨#[255]⟩, .slice none 0 0] 29)) := hOt.below ((Below.refl _ _).alloc (Nat.le_refl _) _) (Nat.le_refl _)
    refine (sync_is ps (some ⟨wt.heap.size, 0, none⟩) sl [(⟨tj, tp, tn, tc, tl⟩ : Can.T), ⟨⟨#[255]⟩, none, 0, 0, []⟩] N cs 2 2 5 5 351 [] [] (by rw [HVS.out]; refine Eq.trans ?_ (Wrg.sync351 (ev := 5) (ti := 5) HOK.out Wrg.okT2 (by decide)); show Po.sync S [(tj, tl), _] 5 5 = _; rw [show (tj, tl) = Po.tgt 1 from hvt]; rfl) _ HN.out rfl (HOX.out.at.1.below (Hw9.out.trans (hbU.mono Hw9.out.size)) (Nat.le_refl _)) (Po.tgts_at (by rfl) (alloc_new wt (.cells #[.string tj, .slice tp tn tc, .string ⟨#[255]⟩, .slice none 0 0] 29)) (fun t ht => by simp only [List.mem_cons, List.not_mem_nil, or_false] at ht; rcases ht with rfl | rfl; exact hOt2.at; exact .inl rfl)) (HOX.out.any HVS.out HU.out) (fun t ht => by simp only [List.mem_cons, List.not_mem_nil, or_false] at ht; rcases ht with rfl | rfl; exact Po.okU.any hOt2 (by rw [hvt]; exact Po.tgt_ok 1); exact HCE.out) (by omega) (by decide)).mono ?_
    rintro e wa ⟨⟨v9, va, s9, m9, rfl, hR9, hs9, hm9⟩, hba⟩
    obtain ⟨⟨p9, c9, rfl, _⟩, pm9, cm9, rfl, _⟩ := hR9.form
    have hba9 : Below w9.heap.size w9 wa := below_next hbU hba
    obtain rfl : s9 = [] := List.map_eq_nil_iff.1 hs9
    obtain rfl : m9 = [] := List.map_eq_nil_iff.1 hm9
    refine hK.out _ _ ⟨hba9, ((hba9).cell (p := ⟨gx, 0, none⟩) hzw9).trans x0w9, ((hba9).cell (p := ⟨gx, 1, none⟩) hzw9).trans x1w9⟩ (fun hHeld => ?_)
    clear hK K
    try simp only [Act.put, List.setIfInBounds_toArray, List.set_cons_zero, List.set_cons_succ]
    refine Rnd.take (i := 5) (v := ?_) rfl (by kernel_rfl) (by kernel_rfl) (by kernel_rfl) (fun _ _ _ h => h) (.inl ⟨by rfl, ?_⟩) (by assumption) ?_
    rotate_left
    · (intro w9 hS9; (try dsimp only at hS9); go_simp; try with_reducible rfl)
    try simp only [Act.put, List.setIfInBounds_toArray, List.set_cons_zero, List.set_cons_succ]
    refine Rnd.take (i := 6) (v := ?_) rfl (by kernel_rfl) (by kernel_rfl) (by kernel_rfl) (fun _ _ _ h => h) (.inl ⟨by rfl, ?_⟩) (by assumption) ?_
    rotate_left
    · (intro w9 hS9; (try dsimp only at hS9); go_simp; try with_reducible rfl)
    try simp only [Act.put, List.setIfInBounds_toArray, List.set_cons_zero, List.set_cons_succ]
    refine Rnd.take (i := 7) (v := ?_) rfl (by kernel_rfl) (by kernel_rfl) (by kernel_rfl) (fun _ _ _ h => h) (.inl ⟨by rfl, ?_⟩) (by assumption) ?_
    rotate_left
    · (intro w9 hS9; (try dsimp only at hS9); go_simp; try with_reducible rfl)
    try simp only [Act.put, List.setIfInBounds_toArray, List.set_cons_zero, List.set_cons_succ]
    refine Rnd.take (i := 8) (v := ?_) rfl (by kernel_rfl) (by kernel_rfl) (by kernel_rfl) (fun _ _ _ h => h) (.inl ⟨by rfl, ?_⟩) (by assumption) ?_
    rotate_left
    · (intro w9 hS9; (try dsimp only at hS9); go_simp; try with_reducible rfl)
    try simp only [Act.put, List.setIfInBounds_toArray, List.set_cons_zero, List.set_cons_succ]
    refine Rnd.take (i := 9) (v := ?_) rfl (by kernel_rfl) (by kernel_rfl) (by kernel_rfl) (fun _ _ _ h => h) (.inl ⟨by rfl, ?_⟩) (by assumption) ?_
    rotate_left
    · (intro w9 hS9; (try dsimp only at hS9); go_simp; try with_reducible rfl)
    try simp only [Act.put, List.setIfInBounds_toArray, List.set_cons_zero, List.set_cons_succ]
    refine Rnd.take (i := 10) (v := ?_) rfl (by kernel_rfl) (by kernel_rfl) (by kernel_rfl) (fun _ _ _ h => h) (.inl ⟨by rfl, ?_⟩) (by assumption) ?_
    rotate_left
    · (intro w9 hS9; (try dsimp only at hS9); go_simp; try with_reducible rfl)
    try simp only [Act.put, List.setIfInBounds_toArray, List.set_cons_zero, List.set_cons_succ]
    refine Rnd.take (i := 11) (v := ?_) rfl (by kernel_rfl) (by kernel_rfl) (by kernel_rfl) (fun _ _ _ h => h) (.inl ⟨by rfl, ?_⟩) (by assumption) ?_
    rotate_left
    · (intro w9 hS9; (try dsimp only at hS9); go_simp; try with_reducible rfl)
    try simp only [Act.put, List.setIfInBounds_toArray, List.set_cons_zero, List.set_cons_succ]
    refine wpAnyH_done (by kernel_rfl) ?_ _
    have Hwa : Hid (Below V.heap.size V wa) := below_next Hw9.out hba9
    clear hba9 hba hbU hbt hbt9 hR9 hs9 hm9 hOt hOt2 hc9 x0w9 x1w9
    have hkwa := below_kept Hwa.out KV.out hzV
    have x0wa : wa.cell? ⟨gx, 0, none⟩ = some (.string ⟨#[255]⟩) := by rw [Lib.cell_of_heap hkwa]; rfl
    have x1wa : wa.cell? ⟨gx, 1, none⟩ = some (.slice none 0 0) := by rw [Lib.cell_of_heap hkwa]; rfl
    have hzwa : gx < wa.heap.size := lt_of_heap hkwa
    clear hkwa
    have HE2 := Lib.hid (pend_is ps sl ⟨⟨#[255]⟩, none, 0, 0, []⟩ N cs 6 [] (by rw [HVS.out]; exact Wrg.end6 HOK.out HNO.out) wa HN.out (HOX.out.at.1.below Hwa.out (Nat.le_refl _)) (.inl rfl) (HOX.out.any HVS.out HU.out) HCE.out (by omega))
    go_wp2_with (go_at_call 18; refine HE2.out.mono ?_)
    first | rintro e wb v3 rfl v4 hR hb7 | rintro e wb v3 v4 s3 rfl hR hs hb7 | rintro e wb v3 rfl v4 s3 hR hs hb7 | rintro e wb ⟨⟨v3, v4, s3, rfl, hR, hs⟩, hb7⟩
    have Hwb : Hid (Below V.heap.size V wb) := below_next Hwa.out hb7
    clear hb7 hR HE2 x0wa x1wa
    have HR1 := Lib.hid (pright_is (some ⟨gb, 0, none⟩) bx N cb false (by rw [HVX.out]; exact HBADX.out) wb HLX.out (HBX.out.at.1.below Hwb.out (Nat.le_refl _)) (HBX.out.any HVX.out HUX.out) (by omega))
    go_wp2_with (go_at_call 23; refine HR1.out.mono ?_)
    first | rintro e wc rfl hb7 | rintro e wc ⟨rfl, hb7⟩
    have Hwc : Hid (Below V.heap.size V wc) := below_next Hwb.out hb7
    clear hb7 HR1
    have HR2 := Lib.hid (pright_is ps sl N cs true (by rw [HVS.out]; exact HOK.out) wc HN.out (HOX.out.at.1.below Hwc.out (Nat.le_refl _)) (HOX.out.any HVS.out HU.out) (by omega))
    go_wp2_with (go_at_call 23; refine HR2.out.mono ?_)
    first | rintro e wd rfl hb7 | rintro e wd ⟨rfl, hb7⟩
    have hbz : Below w.heap.size w wd := below_next (below_next HBWV.out Hwc.out) hb7
    clear hb7
    go_wp2_with fail
    go_ret
    exact ⟨rfl, hbz⟩
  · have ht : Int.tmod (z : Int) 6 = 3 := r6
    have h0 := HBB.out
    have st0 := Po.Own.store (j := 3) HBB.out (i := iu) (by first | exact hi1 | (rw [List.length_set]; exact hi1)) (by decide) (⟨⟨sj, sp, sn, sc, sl'⟩, sev, min n3 0, sen⟩ : Sl) (.int .i64 (min n3 0)) (by rw [HSI.out]; rfl) (by rw [HSI.out]; exact ⟨rfl, rfl, rfl, rfl⟩)
    obtain ⟨U, hU⟩ : ∃ U, (w4.setCell ⟨gb, iu * 5 + 3, none⟩ (.int .i64 (min n3 0))) = U := ⟨_, rfl⟩
    have hbu : Below w3.heap.size w4 (w4.setCell ⟨gb, iu * 5 + 3, none⟩ (.int .i64 (min n3 0))) := ((Below.refl w3.heap.size w4).trans st0.2)
    have hou : Po.Own w3.heap.size (.slice (some ⟨gb, 0, none⟩) N cb) (bb.set iu (⟨⟨sj, sp, sn, sc, sl'⟩, sev, min n3 0, sen⟩ : Sl)) (w4.setCell ⟨gb, iu * 5 + 3, none⟩ (.int .i64 (min n3 0))) := st0.1
    rw [hU] at hbu hou
    obtain ⟨bx, hbx⟩ : ∃ bx, (bb.set iu (⟨⟨sj, sp, sn, sc, sl'⟩, sev, min n3 0, sen⟩ : Sl)) = bx := ⟨_, rfl⟩
    rw [hbx] at hou
    have hbs : bx = bb.set iu (⟨⟨sj, sp, sn, sc, sl'⟩, sev, min n3 0, sen⟩ : Sl) := by rw [← hbx]; try rw [List.set_set]
    have HBX0 := Lib.hid hou
    have hlast : (⟨⟨sj, sp, sn, sc, sl'⟩, sev, min n3 0, sen⟩ : Sl) ∈ bx := by rw [hbs]; exact List.mem_iff_getElem.2 ⟨iu, by rw [List.length_set]; exact hi1, List.getElem_set_self ..⟩
    obtain ⟨SX, hSX⟩ : ∃ SX, bx.map Sl.view = SX := ⟨_, rfl⟩
    have HVX := Lib.hid hSX
    have HLX : Hid (bx.length = N) := by show _ = _; rw [hbs, List.length_set]; exact HBL.out
    have hvl : Sl.view (⟨⟨sj, sp, sn, sc, sl'⟩, sev, min n3 0, sen⟩ : Sl) ∈ SX := by rw [← hSX]; exact List.mem_map_of_mem hlast
    have HBADX : Hid (Po.okVs SX = false) := Po.okVs_bad ⟨_, hvl, .inr Wrg.num_d⟩
    have HUX : Hid (∀ v ∈ SX, Po.okU (Po.vu v)) := fun v hv => by
      rw [← hSX] at hv
      obtain ⟨x, hx, rfl⟩ := List.mem_map.1 hv
      rw [hbs] at hx
      rcases List.mem_or_eq_of_mem_set hx with hx | rfl
      · exact HU.out _ (by rw [← HVB.out]; exact List.mem_map_of_mem hx)
      · have h9 := HU.out _ HSS.out
        exact ⟨h9.1, h9.2.1, h9.2.2⟩
    have HBW0 : Hid (Below w.heap.size w U) := HB5.out.trans (hbu.mono (by omega))
    have HOX0 : Hid (Po.Own w.heap.size (.slice ps N cs) sl U) := HOF.out U hbu
    have hnb : N ≤ 100 := by omega
    clear st0 h0 hbu hou hbx hbs hSX hvl hlast
    obtain ⟨V, hV⟩ : ∃ V, V = U.alloc (.cells #[.string ⟨#[255]⟩, .slice none 0 0] 29) := ⟨_, rfl⟩
    obtain ⟨gx, hgx⟩ : ∃ gx, gx = U.heap.size := ⟨_, rfl⟩
    have hbV : Below U.heap.size U V := by rw [hV]; exact (Below.refl _ _).alloc (Nat.le_refl _) _
    have kV : V.heap[gx]? = some (.cells #[.string ⟨#[255]⟩, .slice none 0 0] 29) := by rw [hV, hgx]; exact alloc_new _ _
    have hzV : gx < V.heap.size := lt_of_heap kV
    have HBX := Lib.hid (HBX0.out.below hbV (Nat.le_refl _))
    have HOX := Lib.hid (HOX0.out.below hbV (Nat.le_refl _))
    have HBWV : Hid (Below w.heap.size w V) := below_next HBW0.out hbV
    have KV := Lib.hid kV
    have x0 : V.cell? ⟨gx, 0, none⟩ = some (.string ⟨#[255]⟩) := by rw [Lib.cell_of_heap kV]; rfl
    have x1 : V.cell? ⟨gx, 1, none⟩ = some (.slice none 0 0) := by rw [Lib.cell_of_heap kV]; rfl
    have HTA : Hid (∀ (W : World) (b : Nat), W.heap[b]? = some (.cells #[.string ⟨#[255]⟩, .slice none 0 0] 29) → Po.TgAt (some ⟨b, 0, none⟩) [(⟨⟨#[255]⟩, none, 0, 0, []⟩ : Can.T)] W) := fun W b h => Po.tgts_at (by rfl) h (fun t ht => by rw [List.mem_singleton] at ht; subst ht; exact .inl rfl)
    have HTAN : Hid (∀ t ∈ [(⟨⟨#[255]⟩, none, 0, 0, []⟩ : Can.T)], Can.TAny t) := fun t ht => by rw [List.mem_singleton] at ht; subst ht; exact ⟨by decide, rfl, fun x hx => (nomatch hx), fun _ => rfl, Nat.zero_le _⟩
    have HSY : Hid (∀ (p : Option Addr) (ss : List Sl) (S : List Po.V) (n c : Nat) (ev ti r : Int) (W : World), Po.sync S [Wrg.x] ev ti = (r, [], []) → ss.map Sl.view = S → ss.length = n → Po.At p ss W → (∀ s ∈ ss, Can.TAny s.t) → n ≤ 100 → Calls Try.prog 25 #[.slice p n c, .slice (some ⟨W.heap.size, 0, none⟩) 1 1, .int .i64 ev, .int .i64 ti] (W.alloc (.cells #[.string ⟨#[255]⟩, .slice none 0 0] 29)) fun e w' => (∃ v1 v2, e = .returned (.tuple #[v1, v2, .int .i64 r])) ∧ Below W.heap.size W w') := fun p ss S n c ev ti r W h hv hn hA hF hl => by
      have hb : Below W.heap.size W (W.alloc (.cells #[.string ⟨#[255]⟩, .slice none 0 0] 29)) := (Below.refl _ _).alloc (Nat.le_refl _) _
      refine (sync_is p (some ⟨W.heap.size, 0, none⟩) ss [(⟨⟨#[255]⟩, none, 0, 0, []⟩ : Can.T)] n c 1 1 ev ti r [] [] (by rw [hv]; exact h) _ hn rfl (hA.below hb (Nat.le_refl _)) (HTA.out _ _ (alloc_new W _)) hF HTAN.out (by omega) (by decide)).mono ?_
      rintro e w6 ⟨⟨v1, v2, s6, m6, rfl, _⟩, hb6⟩
      exact ⟨⟨v1, v2, rfl⟩, hb.trans (hb6.mono (by simp))⟩
    have HCE : Hid (Can.TAny ⟨⟨#[255]⟩, none, 0, 0, []⟩) := HTAN.out _ (List.mem_singleton.2 rfl)
    have HS1 := Lib.hid (HSY.out (some ⟨gb, 0, none⟩) bx SX N cb 0 0 350 V (Wrg.sync350 HBADX.out _ _ _) HVX.out HLX.out HBX.out.at.1 (HBX.out.any HVX.out HUX.out) hnb)
    clear hbV kV HTA HTAN
    go_wp2_with (first | (rw [hU]; clear hU) | (rw [← hV, ← hgx]; clear hV hgx) | (go_at_call 25; refine HS1.out.mono ?_))
    first | rintro e w6 v1 v2 rfl hb6 | rintro e w6 ⟨⟨v1, v2, rfl⟩, hb6⟩
    have Hw6 : Hid (Below V.heap.size V w6) := hb6
    clear hb6 HS1 x0 x1
    have hkw6 := below_kept Hw6.out KV.out hzV
    have x0w6 : w6.cell? ⟨gx, 0, none⟩ = some (.string ⟨#[255]⟩) := by rw [Lib.cell_of_heap hkw6]; rfl
    have x1w6 : w6.cell? ⟨gx, 1, none⟩ = some (.slice none 0 0) := by rw [Lib.cell_of_heap hkw6]; rfl
    have hzw6 : gx < w6.heap.size := lt_of_heap hkw6
    clear hkw6
    have HE1 := Lib.hid (pend_is (some ⟨gb, 0, none⟩) bx ⟨⟨#[255]⟩, none, 0, 0, []⟩ N cb 350 [] (by rw [HVX.out]; exact Wrg.end350 HBADX.out _) w6 HLX.out (HBX.out.at.1.below Hw6.out (Nat.le_refl _)) (.inl rfl) (HBX.out.any HVX.out HUX.out) HCE.out (by omega))
    go_wp2_with (go_at_call 18; refine HE1.out.mono ?_)
    first | rintro e w7 v3 v4 s3 rfl hR hs hb7 | rintro e w7 v3 rfl v4 s3 hR hs hb7 | rintro e w7 ⟨⟨v3, v4, s3, rfl, hR, hs⟩, hb7⟩
    have Hw7 : Hid (Below V.heap.size V w7) := below_next Hw6.out hb7
    clear hb7 hR hs HE1 x0w6 x1w6
    have hkw7 := below_kept Hw7.out KV.out hzV
    have x0w7 : w7.cell? ⟨gx, 0, none⟩ = some (.string ⟨#[255]⟩) := by rw [Lib.cell_of_heap hkw7]; rfl
    have x1w7 : w7.cell? ⟨gx, 1, none⟩ = some (.slice none 0 0) := by rw [Lib.cell_of_heap hkw7]; rfl
    have hzw7 : gx < w7.heap.size := lt_of_heap hkw7
    clear hkw7
    have HS2 := Lib.hid (HSY.out ps sl S N cs (min n3 0) 1 2 w7 (Wrg.sync2 HOK.out _ (Wrg.num_a 1)) HVS.out HN.out (HOX.out.at.1.below Hw7.out (Nat.le_refl _)) (HOX.out.any HVS.out HU.out) (by omega))
    go_wp2_with (go_at_call 25; refine HS2.out.mono ?_)
    first | rintro e w8 v5 v6 rfl hb8 | rintro e w8 ⟨⟨v5, v6, rfl⟩, hb8⟩
    have Hw8 : Hid (Below V.heap.size V w8) := below_next Hw7.out hb8
    clear hb8 HS2 x0w7 x1w7
    have hkw8 := below_kept Hw8.out KV.out hzV
    have x0w8 : w8.cell? ⟨gx, 0, none⟩ = some (.string ⟨#[255]⟩) := by rw [Lib.cell_of_heap hkw8]; rfl
    have x1w8 : w8.cell? ⟨gx, 1, none⟩ = some (.slice none 0 0) := by rw [Lib.cell_of_heap hkw8]; rfl
    have hzw8 : gx < w8.heap.size := lt_of_heap hkw8
    clear hkw8
    have HS3 := Lib.hid (HSY.out ps sl S N cs 5 (max n3 6) 2 w8 (Wrg.sync2 HOK.out _ Wrg.num_e) HVS.out HN.out (HOX.out.at.1.below Hw8.out (Nat.le_refl _)) (HOX.out.any HVS.out HU.out) (by omega))
    go_wp2_with (go_at_call 25; refine HS3.out.mono ?_)
    first | rintro e w9 v7 v8 rfl hb9 | rintro e w9 ⟨⟨v7, v8, rfl⟩, hb9⟩
    have Hw9 : Hid (Below V.heap.size V w9) := below_next Hw8.out hb9
    clear hb9 HS3 x0w8 x1w8
    have hkw9 := below_kept Hw9.out KV.out hzV
    have x0w9 : w9.cell? ⟨gx, 0, none⟩ = some (.string ⟨#[255]⟩) := by rw [Lib.cell_of_heap hkw9]; rfl
    have x1w9 : w9.cell? ⟨gx, 1, none⟩ = some (.slice none 0 0) := by rw [Lib.cell_of_heap hkw9]; rfl
    have hzw9 : gx < w9.heap.size := lt_of_heap hkw9
    clear hkw9
    have hc9 : w9.drew.cell? ⟨gx, 0, none⟩ = some (.string ⟨#[255]⟩) ∧ w9.drew.cell? ⟨gx, 1, none⟩ = some (.slice none 0 0) := ⟨x0w9, x1w9⟩
    go_wp2_with fail
    refine wp_region_held_drew (S := (fun w' => Below w9.heap.size w9 w' ∧ w'.cell? ⟨gx, 0, none⟩ = some (.string ⟨#[255]⟩) ∧ w'.cell? ⟨gx, 1, none⟩ = some (.slice none 0 0))) (by kernel_rfl) ⟨(Below.refl _ w9).drew, (((Below.refl _ w9).drew).cell (p := ⟨gx, 0, none⟩) hzw9).trans x0w9, (((Below.refl _ w9).drew).cell (p := ⟨gx, 1, none⟩) hzw9).trans x1w9⟩ (fun hHeld => ?_)
    refine Rnd.take (i := 0) (v := ?_) rfl (by kernel_rfl) (by kernel_rfl) (by kernel_rfl) (fun _ _ _ h => h) (.inl ⟨by rfl, ?_⟩) (by assumption) ?_
    rotate_left
    · (intro w9 hS9; (try dsimp only at hS9); go_simp; try with_reducible rfl)
    try simp only [Act.put, List.setIfInBounds_toArray, List.set_cons_zero, List.set_cons_succ]
    refine Rnd.take (i := 2) (v := ?_) rfl (by kernel_rfl) (by kernel_rfl) (by kernel_rfl) (fun _ _ _ h => h) (.inl ⟨by rfl, ?_⟩) (by assumption) ?_
    rotate_left
    · (intro w9 hS9; (try dsimp only at hS9); go_simp; try with_reducible rfl)
    try simp only [Act.put, List.setIfInBounds_toArray, List.set_cons_zero, List.set_cons_succ]
    refine wpAnyH_ready (rs := [1]) (by kernel_rfl) (by simp) ?_
    refine AllReadyH.cons rfl (fun K hK => ?_) AllReadyH.nil
    go_simp
    refine (HT1.out _).mono ?_
    rintro e wt ⟨⟨t, rfl, hOt, hvt⟩, hbt⟩
    obtain ⟨tj, tp, tn, tc, tl⟩ := t
    have hbt9 : Below w9.heap.size w9 wt := below_next ((Below.refl _ w9).drew) hbt
    refine hK.out _ _ ⟨hbt9, ((hbt9).cell (p := ⟨gx, 0, none⟩) hzw9).trans x0w9, ((hbt9).cell (p := ⟨gx, 1, none⟩) hzw9).trans x1w9⟩ (fun hHeld => ?_)
    clear hK K
    skip
    refine wpAnyH_ready (rs := [3]) (by kernel_rfl) (by simp) ?_
    refine AllReadyH.cons rfl (fun K hK => ?_) AllReadyH.nil
    go_simp
    have hbU : Below w9.heap.size w9 (wt.alloc (.cells #[.string tj, .slice tp tn tc, .string ⟨#[255]⟩, .slice none 0 0] 29)) := hbt9.alloc hbt9.size _
    refine hK.out _ _ ⟨hbU, ((hbU).cell (p := ⟨gx, 0, none⟩) hzw9).trans x0w9, ((hbU).cell (p := ⟨gx, 1, none⟩) hzw9).trans x1w9⟩ (fun hHeld => ?_)
    clear hK K
    try simp only [Act.put, List.setIfInBounds_toArray, List.set_cons_zero, List.set_cons_succ]
    refine wpAnyH_ready (rs := [4]) (by kernel_rfl) (by simp) ?_
    refine AllReadyH.cons rfl (fun K hK => ?_) AllReadyH.nil
    go_simp
    have hOt2 : OwnT w9.drew.heap.size ⟨tj, tp, tn, tc, tl⟩ (wt.alloc (.cells #[.string tj, .slice tp tn tc, .string ⟨#[255]⟩, .slice none 0 0] 29)) := hOt.below ((Below.refl _ _).alloc (Nat.le_refl _) _) (Nat.le_refl _)
    refine (sync_is ps (some ⟨wt.heap.size, 0, none⟩) sl [(⟨tj, tp, tn, tc, tl⟩ : Can.T), ⟨⟨#[255]⟩, none, 0, 0, []⟩] N cs 2 2 5 5 351 [] [] (by rw [HVS.out]; refine Eq.trans ?_ (Wrg.sync351 (ev := 5) (ti := 5) HOK.out Wrg.okT2 (by decide)); show Po.sync S [(tj, tl), _] 5 5 = _; rw [show (tj, tl) = Po.tgt 1 from hvt]; rfl) _ HN.out rfl (HOX.out.at.1.below (Hw9.out.trans (hbU.mono Hw9.out.size)) (Nat.le_refl _)) (Po.tgts_at (by rfl) (alloc_new wt (.cells #[.string tj, .slice tp tn tc, .string ⟨#[255]⟩, .slice none 0 0] 29)) (fun t ht => by simp only [List.mem_cons, List.not_mem_nil, or_false] at ht; rcases ht with rfl | rfl; exact hOt2.at; exact .inl rfl)) (HOX.out.any HVS.out HU.out) (fun t ht => by simp only [List.mem_cons, List.not_mem_nil, or_false] at ht; rcases ht with rfl | rfl; exact Po.okU.any hOt2 (by rw [hvt]; exact Po.tgt_ok 1); exact HCE.out) (by omega) (by decide)).mono ?_
    rintro e wa ⟨⟨v9, va, s9, m9, rfl, hR9, hs9, hm9⟩, hba⟩
    obtain ⟨⟨p9, c9, rfl, _⟩, pm9, cm9, rfl, _⟩ := hR9.form
    have hba9 : Below w9.heap.size w9 wa := below_next hbU hba
    obtain rfl : s9 = [] := List.map_eq_nil_iff.1 hs9
    obtain rfl : m9 = [] := List.map_eq_nil_iff.1 hm9
    refine hK.out _ _ ⟨hba9, ((hba9).cell (p := ⟨gx, 0, none⟩) hzw9).trans x0w9, ((hba9).cell (p := ⟨gx, 1, none⟩) hzw9).trans x1w9⟩ (fun hHeld => ?_)
    clear hK K
    try simp only [Act.put, List.setIfInBounds_toArray, List.set_cons_zero, List.set_cons_succ]
    refine Rnd.take (i := 5) (v := ?_) rfl (by kernel_rfl) (by kernel_rfl) (by kernel_rfl) (fun _ _ _ h => h) (.inl ⟨by rfl, ?_⟩) (by assumption) ?_
    rotate_left
    · (intro w9 hS9; (try dsimp only at hS9); go_simp; try with_reducible rfl)
    try simp only [Act.put, List.setIfInBounds_toArray, List.set_cons_zero, List.set_cons_succ]
    refine Rnd.take (i := 6) (v := ?_) rfl (by kernel_rfl) (by kernel_rfl) (by kernel_rfl) (fun _ _ _ h => h) (.inl ⟨by rfl, ?_⟩) (by assumption) ?_
    rotate_left
    · (intro w9 hS9; (try dsimp only at hS9); go_simp; try with_reducible rfl)
    try simp only [Act.put, List.setIfInBounds_toArray, List.set_cons_zero, List.set_cons_succ]
    refine Rnd.take (i := 7) (v := ?_) rfl (by kernel_rfl) (by kernel_rfl) (by kernel_rfl) (fun _ _ _ h => h) (.inl ⟨by rfl, ?_⟩) (by assumption) ?_
    rotate_left
    · (intro w9 hS9; (try dsimp only at hS9); go_simp; try with_reducible rfl)
    try simp only [Act.put, List.setIfInBounds_toArray, List.set_cons_zero, List.set_cons_succ]
    refine Rnd.take (i := 8) (v := ?_) rfl (by kernel_rfl) (by kernel_rfl) (by kernel_rfl) (fun _ _ _ h => h) (.inl ⟨by rfl, ?_⟩) (by assumption) ?_
    rotate_left
    · (intro w9 hS9; (try dsimp only at hS9); go_simp; try with_reducible rfl)
    try simp only [Act.put, List.setIfInBounds_toArray, List.set_cons_zero, List.set_cons_succ]
    refine Rnd.take (i := 9) (v := ?_) rfl (by kernel_rfl) (by kernel_rfl) (by kernel_rfl) (fun _ _ _ h => h) (.inl ⟨by rfl, ?_⟩) (by assumption) ?_
    rotate_left
    · (intro w9 hS9; (try dsimp only at hS9); go_simp; try with_reducible rfl)
    try simp only [Act.put, List.setIfInBounds_toArray, List.set_cons_zero, List.set_cons_succ]
    refine Rnd.take (i := 10) (v := ?_) rfl (by kernel_rfl) (by kernel_rfl) (by kernel_rfl) (fun _ _ _ h => h) (.inl ⟨by rfl, ?_⟩) (by assumption) ?_
    rotate_left
    · (intro w9 hS9; (try dsimp only at hS9); go_simp; try with_reducible rfl)
    try simp only [Act.put, List.setIfInBounds_toArray, List.set_cons_zero, List.set_cons_succ]
    refine Rnd.take (i := 11) (v := ?_) rfl (by kernel_rfl) (by kernel_rfl) (by kernel_rfl) (fun _ _ _ h => h) (.inl ⟨by rfl, ?_⟩) (by assumption) ?_
    rotate_left
    · (intro w9 hS9; (try dsimp only at hS9); go_simp; try with_reducible rfl)
    try simp only [Act.put, List.setIfInBounds_toArray, List.set_cons_zero, List.set_cons_succ]
    refine wpAnyH_done (by kernel_rfl) ?_ _
    have Hwa : Hid (Below V.heap.size V wa) := below_next Hw9.out hba9
    clear hba9 hba hbU hbt hbt9 hR9 hs9 hm9 hOt hOt2 hc9 x0w9 x1w9
    have hkwa := below_kept Hwa.out KV.out hzV
    have x0wa : wa.cell? ⟨gx, 0, none⟩ = some (.string ⟨#[255]⟩) := by rw [Lib.cell_of_heap hkwa]; rfl
    have x1wa : wa.cell? ⟨gx, 1, none⟩ = some (.slice none 0 0) := by rw [Lib.cell_of_heap hkwa]; rfl
    have hzwa : gx < wa.heap.size := lt_of_heap hkwa
    clear hkwa
    have HE2 := Lib.hid (pend_is ps sl ⟨⟨#[255]⟩, none, 0, 0, []⟩ N cs 6 [] (by rw [HVS.out]; exact Wrg.end6 HOK.out HNO.out) wa HN.out (HOX.out.at.1.below Hwa.out (Nat.le_refl _)) (.inl rfl) (HOX.out.any HVS.out HU.out) HCE.out (by omega))
    go_wp2_with (go_at_call 18; refine HE2.out.mono ?_)
    first | rintro e wb v3 rfl v4 hR hb7 | rintro e wb v3 v4 s3 rfl hR hs hb7 | rintro e wb v3 rfl v4 s3 hR hs hb7 | rintro e wb ⟨⟨v3, v4, s3, rfl, hR, hs⟩, hb7⟩
    have Hwb : Hid (Below V.heap.size V wb) := below_next Hwa.out hb7
    clear hb7 hR HE2 x0wa x1wa
    have HR1 := Lib.hid (pright_is (some ⟨gb, 0, none⟩) bx N cb false (by rw [HVX.out]; exact HBADX.out) wb HLX.out (HBX.out.at.1.below Hwb.out (Nat.le_refl _)) (HBX.out.any HVX.out HUX.out) (by omega))
    go_wp2_with (go_at_call 23; refine HR1.out.mono ?_)
    first | rintro e wc rfl hb7 | rintro e wc ⟨rfl, hb7⟩
    have Hwc : Hid (Below V.heap.size V wc) := below_next Hwb.out hb7
    clear hb7 HR1
    have HR2 := Lib.hid (pright_is ps sl N cs true (by rw [HVS.out]; exact HOK.out) wc HN.out (HOX.out.at.1.below Hwc.out (Nat.le_refl _)) (HOX.out.any HVS.out HU.out) (by omega))
    go_wp2_with (go_at_call 23; refine HR2.out.mono ?_)
    first | rintro e wd rfl hb7 | rintro e wd ⟨rfl, hb7⟩
    have hbz : Below w.heap.size w wd := below_next (below_next HBWV.out Hwc.out) hb7
    clear hb7
    go_wp2_with fail
    go_ret
    exact ⟨rfl, hbz⟩
  · have ht : Int.tmod (z : Int) 6 = 4 := r6
    have hTI : OwnT w3.heap.size ⟨sj, sp, sn, sc, sl'⟩ w4 := by have h9 : ∀ x, bb[iu]'hi1 = x → OwnT w3.heap.size x.t w4 := fun x e => e ▸ HBB.out.2 _ (List.getElem_mem hi1); exact h9 _ HSI.out
    have hiS : iu < S.length := by have h9 := HNS.out; omega
    have HTI := Lib.hid hTI
    have hhb : bb.length + 1 ≤ 1000000000 := by have := HBL.out; omega
    clear hTI
    go_wp2_with (at_builtin; refine wpList_pushRec slOk 22 Try.underlying22 rfl _ _ rfl w3.heap.size _ bb w4 rfl (by exact HBB.out.1) ⟨⟨sj, sp, sn, sc, sl'⟩, sev, sti, sen⟩ _ _ rfl _ rfl rfl hhb hs34 ?_)
    intro v5 w5 hro hg5
    have hbw : Below w3.heap.size w4 w5 := ((Below.refl _ _).alloc hs34 _).grown hg5 (by simp; omega) (fun j hj => (World.ownsRow.lt HBB.out.1 j hj).1)
    have hO5 : Po.Own w3.heap.size v5 (bb ++ [(⟨⟨sj, sp, sn, sc, sl'⟩, sev, sti, sen⟩ : Sl)]) w5 := HBB.out.push ((Below.refl _ _).alloc (Nat.le_refl _) _) ⟨⟨sj, sp, sn, sc, sl'⟩, sev, sti, sen⟩ (HTI.out.below ((Below.refl _ _).alloc (Nat.le_refl _) _) (Nat.le_refl _)) hro hg5
    obtain ⟨bx, hbx⟩ : ∃ bx, bb ++ [(⟨⟨sj, sp, sn, sc, sl'⟩, sev, sti, sen⟩ : Sl)] = bx := ⟨_, rfl⟩
    have hvi : Sl.view ⟨⟨sj, sp, sn, sc, sl'⟩, sev, sti, sen⟩ = S[iu]'hiS := by have h9 := view_at HVB.out iu hi1 hiS; exact (congrArg Sl.view HSI.out).symm.trans h9
    have HVX : Hid (bx.map Sl.view = S ++ [S[iu]'hiS]) := by show _ = _; rw [← hbx, List.map_append, HVB.out, ← hvi]; rfl
    have HLX : Hid (bx.length = N + 1) := by show _ = _; rw [← hbx, List.length_append, HBL.out]; rfl
    rw [hbx] at hO5
    obtain ⟨pb, cb5, rfl, _⟩ := hO5.form
    rw [HLX.out] at hO5 ⊢
    have HBX0 := Lib.hid hO5
    have HBADX : Hid (Po.okVs (S ++ [S[iu]'hiS]) = false) := Po.okVs_dup hiS
    have HUX : Hid (∀ v ∈ S ++ [S[iu]'hiS], Po.okU (Po.vu v)) := fun v hv => by
      rcases List.mem_append.1 hv with hv | hv
      · exact HU.out v hv
      · rw [List.mem_singleton] at hv
        subst hv
        exact HU.out _ (List.getElem_mem _)
    have HBW0 : Hid (Below w.heap.size w w5) := HB5.out.trans (hbw.mono (by omega))
    have HOX0 : Hid (Po.Own w.heap.size (.slice ps N cs) sl w5) := HOF.out w5 hbw
    have hnb : N + 1 ≤ 100 := by omega
    clear hO5 hbx hvi hbw hro hg5 HTI
    obtain ⟨V, hV⟩ : ∃ V, V = w5.alloc (.cells #[.string ⟨#[255]⟩, .slice none 0 0] 29) := ⟨_, rfl⟩
    obtain ⟨gx, hgx⟩ : ∃ gx, gx = w5.heap.size := ⟨_, rfl⟩
    have hbV : Below w5.heap.size w5 V := by rw [hV]; exact (Below.refl _ _).alloc (Nat.le_refl _) _
    have kV : V.heap[gx]? = some (.cells #[.string ⟨#[255]⟩, .slice none 0 0] 29) := by rw [hV, hgx]; exact alloc_new _ _
    have hzV : gx < V.heap.size := lt_of_heap kV
    have HBX := Lib.hid (HBX0.out.below hbV (Nat.le_refl _))
    have HOX := Lib.hid (HOX0.out.below hbV (Nat.le_refl _))
    have HBWV : Hid (Below w.heap.size w V) := below_next HBW0.out hbV
    have KV := Lib.hid kV
    have x0 : V.cell? ⟨gx, 0, none⟩ = some (.string ⟨#[255]⟩) := by rw [Lib.cell_of_heap kV]; rfl
    have x1 : V.cell? ⟨gx, 1, none⟩ = some (.slice none 0 0) := by rw [Lib.cell_of_heap kV]; rfl
    have HTA : Hid (∀ (W : World) (b : Nat), W.heap[b]? = some (.cells #[.string ⟨#[255]⟩, .slice none 0 0] 29) → Po.TgAt (some ⟨b, 0, none⟩) [(⟨⟨#[255]⟩, none, 0, 0, []⟩ : Can.T)] W) := fun W b h => Po.tgts_at (by rfl) h (fun t ht => by rw [List.mem_singleton] at ht; subst ht; exact .inl rfl)
    have HTAN : Hid (∀ t ∈ [(⟨⟨#[255]⟩, none, 0, 0, []⟩ : Can.T)], Can.TAny t) := fun t ht => by rw [List.mem_singleton] at ht; subst ht; exact ⟨by decide, rfl, fun x hx => (nomatch hx), fun _ => rfl, Nat.zero_le _⟩
    have HSY : Hid (∀ (p : Option Addr) (ss : List Sl) (S : List Po.V) (n c : Nat) (ev ti r : Int) (W : World), Po.sync S [Wrg.x] ev ti = (r, [], []) → ss.map Sl.view = S → ss.length = n → Po.At p ss W → (∀ s ∈ ss, Can.TAny s.t) → n ≤ 100 → Calls Try.prog 25 #[.slice p n c, .slice (some ⟨W.heap.size, 0, none⟩) 1 1, .int .i64 ev, .int .i64 ti] (W.alloc (.cells #[.string ⟨#[255]⟩, .slice none 0 0] 29)) fun e w' => (∃ v1 v2, e = .returned (.tuple #[v1, v2, .int .i64 r])) ∧ Below W.heap.size W w') := fun p ss S n c ev ti r W h hv hn hA hF hl => by
      have hb : Below W.heap.size W (W.alloc (.cells #[.string ⟨#[255]⟩, .slice none 0 0] 29)) := (Below.refl _ _).alloc (Nat.le_refl _) _
      refine (sync_is p (some ⟨W.heap.size, 0, none⟩) ss [(⟨⟨#[255]⟩, none, 0, 0, []⟩ : Can.T)] n c 1 1 ev ti r [] [] (by rw [hv]; exact h) _ hn rfl (hA.below hb (Nat.le_refl _)) (HTA.out _ _ (alloc_new W _)) hF HTAN.out (by omega) (by decide)).mono ?_
      rintro e w6 ⟨⟨v1, v2, s6, m6, rfl, _⟩, hb6⟩
      exact ⟨⟨v1, v2, rfl⟩, hb.trans (hb6.mono (by simp))⟩
    have HCE : Hid (Can.TAny ⟨⟨#[255]⟩, none, 0, 0, []⟩) := HTAN.out _ (List.mem_singleton.2 rfl)
    have HS1 := Lib.hid (HSY.out pb bx (S ++ [S[iu]'hiS]) (N + 1) cb5 0 0 350 V (Wrg.sync350 HBADX.out _ _ _) HVX.out HLX.out HBX.out.at.1 (HBX.out.any HVX.out HUX.out) hnb)
    clear hbV kV HTA HTAN
    go_wp2_with (first | (rw [← hV, ← hgx]; clear hV hgx) | (go_at_call 25; refine HS1.out.mono ?_))
    first | rintro e w6 v1 v2 rfl hb6 | rintro e w6 ⟨⟨v1, v2, rfl⟩, hb6⟩
    have Hw6 : Hid (Below V.heap.size V w6) := hb6
    clear hb6 HS1 x0 x1
    have hkw6 := below_kept Hw6.out KV.out hzV
    have x0w6 : w6.cell? ⟨gx, 0, none⟩ = some (.string ⟨#[255]⟩) := by rw [Lib.cell_of_heap hkw6]; rfl
    have x1w6 : w6.cell? ⟨gx, 1, none⟩ = some (.slice none 0 0) := by rw [Lib.cell_of_heap hkw6]; rfl
    have hzw6 : gx < w6.heap.size := lt_of_heap hkw6
    clear hkw6
    have HE1 := Lib.hid (pend_is pb bx ⟨⟨#[255]⟩, none, 0, 0, []⟩ (N + 1) cb5 350 [] (by rw [HVX.out]; exact Wrg.end350 HBADX.out _) w6 HLX.out (HBX.out.at.1.below Hw6.out (Nat.le_refl _)) (.inl rfl) (HBX.out.any HVX.out HUX.out) HCE.out (by omega))
    go_wp2_with (go_at_call 18; refine HE1.out.mono ?_)
    first | rintro e w7 v3 v4 s3 rfl hR hs hb7 | rintro e w7 v3 rfl v4 s3 hR hs hb7 | rintro e w7 ⟨⟨v3, v4, s3, rfl, hR, hs⟩, hb7⟩
    have Hw7 : Hid (Below V.heap.size V w7) := below_next Hw6.out hb7
    clear hb7 hR hs HE1 x0w6 x1w6
    have hkw7 := below_kept Hw7.out KV.out hzV
    have x0w7 : w7.cell? ⟨gx, 0, none⟩ = some (.string ⟨#[255]⟩) := by rw [Lib.cell_of_heap hkw7]; rfl
    have x1w7 : w7.cell? ⟨gx, 1, none⟩ = some (.slice none 0 0) := by rw [Lib.cell_of_heap hkw7]; rfl
    have hzw7 : gx < w7.heap.size := lt_of_heap hkw7
    clear hkw7
    have HS2 := Lib.hid (HSY.out ps sl S N cs (min n3 0) 1 2 w7 (Wrg.sync2 HOK.out _ (Wrg.num_a 1)) HVS.out HN.out (HOX.out.at.1.below Hw7.out (Nat.le_refl _)) (HOX.out.any HVS.out HU.out) (by omega))
    go_wp2_with (go_at_call 25; refine HS2.out.mono ?_)
    first | rintro e w8 v5 v6 rfl hb8 | rintro e w8 ⟨⟨v5, v6, rfl⟩, hb8⟩
    have Hw8 : Hid (Below V.heap.size V w8) := below_next Hw7.out hb8
    clear hb8 HS2 x0w7 x1w7
    have hkw8 := below_kept Hw8.out KV.out hzV
    have x0w8 : w8.cell? ⟨gx, 0, none⟩ = some (.string ⟨#[255]⟩) := by rw [Lib.cell_of_heap hkw8]; rfl
    have x1w8 : w8.cell? ⟨gx, 1, none⟩ = some (.slice none 0 0) := by rw [Lib.cell_of_heap hkw8]; rfl
    have hzw8 : gx < w8.heap.size := lt_of_heap hkw8
    clear hkw8
    have HS3 := Lib.hid (HSY.out ps sl S N cs 5 (max n3 6) 2 w8 (Wrg.sync2 HOK.out _ Wrg.num_e) HVS.out HN.out (HOX.out.at.1.below Hw8.out (Nat.le_refl _)) (HOX.out.any HVS.out HU.out) (by omega))
    go_wp2_with (go_at_call 25; refine HS3.out.mono ?_)
    first | rintro e w9 v7 v8 rfl hb9 | rintro e w9 ⟨⟨v7, v8, rfl⟩, hb9⟩
    have Hw9 : Hid (Below V.heap.size V w9) := below_next Hw8.out hb9
    clear hb9 HS3 x0w8 x1w8
    have hkw9 := below_kept Hw9.out KV.out hzV
    have x0w9 : w9.cell? ⟨gx, 0, none⟩ = some (.string ⟨#[255]⟩) := by rw [Lib.cell_of_heap hkw9]; rfl
    have x1w9 : w9.cell? ⟨gx, 1, none⟩ = some (.slice none 0 0) := by rw [Lib.cell_of_heap hkw9]; rfl
    have hzw9 : gx < w9.heap.size := lt_of_heap hkw9
    clear hkw9
    have hc9 : w9.drew.cell? ⟨gx, 0, none⟩ = some (.string ⟨#[255]⟩) ∧ w9.drew.cell? ⟨gx, 1, none⟩ = some (.slice none 0 0) := ⟨x0w9, x1w9⟩
    go_wp2_with fail
    refine wp_region_held_drew (S := (fun w' => Below w9.heap.size w9 w' ∧ w'.cell? ⟨gx, 0, none⟩ = some (.string ⟨#[255]⟩) ∧ w'.cell? ⟨gx, 1, none⟩ = some (.slice none 0 0))) (by kernel_rfl) ⟨(Below.refl _ w9).drew, (((Below.refl _ w9).drew).cell (p := ⟨gx, 0, none⟩) hzw9).trans x0w9, (((Below.refl _ w9).drew).cell (p := ⟨gx, 1, none⟩) hzw9).trans x1w9⟩ (fun hHeld => ?_)
    refine Rnd.take (i := 0) (v := ?_) rfl (by kernel_rfl) (by kernel_rfl) (by kernel_rfl) (fun _ _ _ h => h) (.inl ⟨by rfl, ?_⟩) (by assumption) ?_
    rotate_left
    · (intro w9 hS9; (try dsimp only at hS9); go_simp; try with_reducible rfl)
    try simp only [Act.put, List.setIfInBounds_toArray, List.set_cons_zero, List.set_cons_succ]
    refine Rnd.take (i := 2) (v := ?_) rfl (by kernel_rfl) (by kernel_rfl) (by kernel_rfl) (fun _ _ _ h => h) (.inl ⟨by rfl, ?_⟩) (by assumption) ?_
    rotate_left
    · (intro w9 hS9; (try dsimp only at hS9); go_simp; try with_reducible rfl)
    try simp only [Act.put, List.setIfInBounds_toArray, List.set_cons_zero, List.set_cons_succ]
    refine wpAnyH_ready (rs := [1]) (by kernel_rfl) (by simp) ?_
    refine AllReadyH.cons rfl (fun K hK => ?_) AllReadyH.nil
    go_simp
    refine (HT1.out _).mono ?_
    rintro e wt ⟨⟨t, rfl, hOt, hvt⟩, hbt⟩
    obtain ⟨tj, tp, tn, tc, tl⟩ := t
    have hbt9 : Below w9.heap.size w9 wt := below_next ((Below.refl _ w9).drew) hbt
    refine hK.out _ _ ⟨hbt9, ((hbt9).cell (p := ⟨gx, 0, none⟩) hzw9).trans x0w9, ((hbt9).cell (p := ⟨gx, 1, none⟩) hzw9).trans x1w9⟩ (fun hHeld => ?_)
    clear hK K
    skip
    refine wpAnyH_ready (rs := [3]) (by kernel_rfl) (by simp) ?_
    refine AllReadyH.cons rfl (fun K hK => ?_) AllReadyH.nil
    go_simp
    have hbU : Below w9.heap.size w9 (wt.alloc (.cells #[.string tj, .slice tp tn tc, .string ⟨#[255]⟩, .slice none 0 0] 29)) := hbt9.alloc hbt9.size _
    refine hK.out _ _ ⟨hbU, ((hbU).cell (p := ⟨gx, 0, none⟩) hzw9).trans x0w9, ((hbU).cell (p := ⟨gx, 1, none⟩) hzw9).trans x1w9⟩ (fun hHeld => ?_)
    clear hK K
    try simp only [Act.put, List.setIfInBounds_toArray, List.set_cons_zero, List.set_cons_succ]
    refine wpAnyH_ready (rs := [4]) (by kernel_rfl) (by simp) ?_
    refine AllReadyH.cons rfl (fun K hK => ?_) AllReadyH.nil
    go_simp
    have hOt2 : OwnT w9.drew.heap.size ⟨tj, tp, tn, tc, tl⟩ (wt.alloc (.cells #[.string tj, .slice tp tn tc, .string ⟨#[255]⟩, .slice none 0 0] 29)) := hOt.below ((Below.refl _ _).alloc (Nat.le_refl _) _) (Nat.le_refl _)
    refine (sync_is ps (some ⟨wt.heap.size, 0, none⟩) sl [(⟨tj, tp, tn, tc, tl⟩ : Can.T), ⟨⟨#[255]⟩, none, 0, 0, []⟩] N cs 2 2 5 5 351 [] [] (by rw [HVS.out]; refine Eq.trans ?_ (Wrg.sync351 (ev := 5) (ti := 5) HOK.out Wrg.okT2 (by decide)); show Po.sync S [(tj, tl), _] 5 5 = _; rw [show (tj, tl) = Po.tgt 1 from hvt]; rfl) _ HN.out rfl (HOX.out.at.1.below (Hw9.out.trans (hbU.mono Hw9.out.size)) (Nat.le_refl _)) (Po.tgts_at (by rfl) (alloc_new wt (.cells #[.string tj, .slice tp tn tc, .string ⟨#[255]⟩, .slice none 0 0] 29)) (fun t ht => by simp only [List.mem_cons, List.not_mem_nil, or_false] at ht; rcases ht with rfl | rfl; exact hOt2.at; exact .inl rfl)) (HOX.out.any HVS.out HU.out) (fun t ht => by simp only [List.mem_cons, List.not_mem_nil, or_false] at ht; rcases ht with rfl | rfl; exact Po.okU.any hOt2 (by rw [hvt]; exact Po.tgt_ok 1); exact HCE.out) (by omega) (by decide)).mono ?_
    rintro e wa ⟨⟨v9, va, s9, m9, rfl, hR9, hs9, hm9⟩, hba⟩
    obtain ⟨⟨p9, c9, rfl, _⟩, pm9, cm9, rfl, _⟩ := hR9.form
    have hba9 : Below w9.heap.size w9 wa := below_next hbU hba
    obtain rfl : s9 = [] := List.map_eq_nil_iff.1 hs9
    obtain rfl : m9 = [] := List.map_eq_nil_iff.1 hm9
    refine hK.out _ _ ⟨hba9, ((hba9).cell (p := ⟨gx, 0, none⟩) hzw9).trans x0w9, ((hba9).cell (p := ⟨gx, 1, none⟩) hzw9).trans x1w9⟩ (fun hHeld => ?_)
    clear hK K
    try simp only [Act.put, List.setIfInBounds_toArray, List.set_cons_zero, List.set_cons_succ]
    refine Rnd.take (i := 5) (v := ?_) rfl (by kernel_rfl) (by kernel_rfl) (by kernel_rfl) (fun _ _ _ h => h) (.inl ⟨by rfl, ?_⟩) (by assumption) ?_
    rotate_left
    · (intro w9 hS9; (try dsimp only at hS9); go_simp; try with_reducible rfl)
    try simp only [Act.put, List.setIfInBounds_toArray, List.set_cons_zero, List.set_cons_succ]
    refine Rnd.take (i := 6) (v := ?_) rfl (by kernel_rfl) (by kernel_rfl) (by kernel_rfl) (fun _ _ _ h => h) (.inl ⟨by rfl, ?_⟩) (by assumption) ?_
    rotate_left
    · (intro w9 hS9; (try dsimp only at hS9); go_simp; try with_reducible rfl)
    try simp only [Act.put, List.setIfInBounds_toArray, List.set_cons_zero, List.set_cons_succ]
    refine Rnd.take (i := 7) (v := ?_) rfl (by kernel_rfl) (by kernel_rfl) (by kernel_rfl) (fun _ _ _ h => h) (.inl ⟨by rfl, ?_⟩) (by assumption) ?_
    rotate_left
    · (intro w9 hS9; (try dsimp only at hS9); go_simp; try with_reducible rfl)
    try simp only [Act.put, List.setIfInBounds_toArray, List.set_cons_zero, List.set_cons_succ]
    refine Rnd.take (i := 8) (v := ?_) rfl (by kernel_rfl) (by kernel_rfl) (by kernel_rfl) (fun _ _ _ h => h) (.inl ⟨by rfl, ?_⟩) (by assumption) ?_
    rotate_left
    · (intro w9 hS9; (try dsimp only at hS9); go_simp; try with_reducible rfl)
    try simp only [Act.put, List.setIfInBounds_toArray, List.set_cons_zero, List.set_cons_succ]
    refine Rnd.take (i := 9) (v := ?_) rfl (by kernel_rfl) (by kernel_rfl) (by kernel_rfl) (fun _ _ _ h => h) (.inl ⟨by rfl, ?_⟩) (by assumption) ?_
    rotate_left
    · (intro w9 hS9; (try dsimp only at hS9); go_simp; try with_reducible rfl)
    try simp only [Act.put, List.setIfInBounds_toArray, List.set_cons_zero, List.set_cons_succ]
    refine Rnd.take (i := 10) (v := ?_) rfl (by kernel_rfl) (by kernel_rfl) (by kernel_rfl) (fun _ _ _ h => h) (.inl ⟨by rfl, ?_⟩) (by assumption) ?_
    rotate_left
    · (intro w9 hS9; (try dsimp only at hS9); go_simp; try with_reducible rfl)
    try simp only [Act.put, List.setIfInBounds_toArray, List.set_cons_zero, List.set_cons_succ]
    refine Rnd.take (i := 11) (v := ?_) rfl (by kernel_rfl) (by kernel_rfl) (by kernel_rfl) (fun _ _ _ h => h) (.inl ⟨by rfl, ?_⟩) (by assumption) ?_
    rotate_left
    · (intro w9 hS9; (try dsimp only at hS9); go_simp; try with_reducible rfl)
    try simp only [Act.put, List.setIfInBounds_toArray, List.set_cons_zero, List.set_cons_succ]
    refine wpAnyH_done (by kernel_rfl) ?_ _
    have Hwa : Hid (Below V.heap.size V wa) := below_next Hw9.out hba9
    clear hba9 hba hbU hbt hbt9 hR9 hs9 hm9 hOt hOt2 hc9 x0w9 x1w9
    have hkwa := below_kept Hwa.out KV.out hzV
    have x0wa : wa.cell? ⟨gx, 0, none⟩ = some (.string ⟨#[255]⟩) := by rw [Lib.cell_of_heap hkwa]; rfl
    have x1wa : wa.cell? ⟨gx, 1, none⟩ = some (.slice none 0 0) := by rw [Lib.cell_of_heap hkwa]; rfl
    have hzwa : gx < wa.heap.size := lt_of_heap hkwa
    clear hkwa
    have HE2 := Lib.hid (pend_is ps sl ⟨⟨#[255]⟩, none, 0, 0, []⟩ N cs 6 [] (by rw [HVS.out]; exact Wrg.end6 HOK.out HNO.out) wa HN.out (HOX.out.at.1.below Hwa.out (Nat.le_refl _)) (.inl rfl) (HOX.out.any HVS.out HU.out) HCE.out (by omega))
    go_wp2_with (go_at_call 18; refine HE2.out.mono ?_)
    first | rintro e wb v3 rfl v4 hR hb7 | rintro e wb v3 v4 s3 rfl hR hs hb7 | rintro e wb v3 rfl v4 s3 hR hs hb7 | rintro e wb ⟨⟨v3, v4, s3, rfl, hR, hs⟩, hb7⟩
    have Hwb : Hid (Below V.heap.size V wb) := below_next Hwa.out hb7
    clear hb7 hR HE2 x0wa x1wa
    have HR1 := Lib.hid (pright_is pb bx (N + 1) cb5 false (by rw [HVX.out]; exact HBADX.out) wb HLX.out (HBX.out.at.1.below Hwb.out (Nat.le_refl _)) (HBX.out.any HVX.out HUX.out) (by omega))
    go_wp2_with (go_at_call 23; refine HR1.out.mono ?_)
    first | rintro e wc rfl hb7 | rintro e wc ⟨rfl, hb7⟩
    have Hwc : Hid (Below V.heap.size V wc) := below_next Hwb.out hb7
    clear hb7 HR1
    have HR2 := Lib.hid (pright_is ps sl N cs true (by rw [HVS.out]; exact HOK.out) wc HN.out (HOX.out.at.1.below Hwc.out (Nat.le_refl _)) (HOX.out.any HVS.out HU.out) (by omega))
    go_wp2_with (go_at_call 23; refine HR2.out.mono ?_)
    first | rintro e wd rfl hb7 | rintro e wd ⟨rfl, hb7⟩
    have hbz : Below w.heap.size w wd := below_next (below_next HBWV.out Hwc.out) hb7
    clear hb7
    go_wp2_with fail
    go_ret
    exact ⟨rfl, hbz⟩
  · have ht : Int.tmod (z : Int) 6 = 5 := r6
    have h0 := HBB.out
    have st0 := Po.Own.store (j := 0) HBB.out (i := iu) (by first | exact hi1 | (rw [List.length_set]; exact hi1)) (by decide) (⟨⟨⟨#[]⟩, sp, sn, sc, sl'⟩, sev, sti, sen⟩ : Sl) (.string ⟨#[]⟩) (by rw [HSI.out]; rfl) (by rw [HSI.out]; exact ⟨rfl, rfl, rfl, rfl⟩)
    obtain ⟨U, hU⟩ : ∃ U, (w4.setCell ⟨gb, iu * 5, none⟩ (.string ⟨#[]⟩)) = U := ⟨_, rfl⟩
    have hbu : Below w3.heap.size w4 (w4.setCell ⟨gb, iu * 5, none⟩ (.string ⟨#[]⟩)) := ((Below.refl w3.heap.size w4).trans st0.2)
    have hou : Po.Own w3.heap.size (.slice (some ⟨gb, 0, none⟩) N cb) (bb.set iu (⟨⟨⟨#[]⟩, sp, sn, sc, sl'⟩, sev, sti, sen⟩ : Sl)) (w4.setCell ⟨gb, iu * 5, none⟩ (.string ⟨#[]⟩)) := st0.1
    rw [hU] at hbu hou
    obtain ⟨bx, hbx⟩ : ∃ bx, (bb.set iu (⟨⟨⟨#[]⟩, sp, sn, sc, sl'⟩, sev, sti, sen⟩ : Sl)) = bx := ⟨_, rfl⟩
    rw [hbx] at hou
    have hbs : bx = bb.set iu (⟨⟨⟨#[]⟩, sp, sn, sc, sl'⟩, sev, sti, sen⟩ : Sl) := by rw [← hbx]; try rw [List.set_set]
    have HBX0 := Lib.hid hou
    have hlast : (⟨⟨⟨#[]⟩, sp, sn, sc, sl'⟩, sev, sti, sen⟩ : Sl) ∈ bx := by rw [hbs]; exact List.mem_iff_getElem.2 ⟨iu, by rw [List.length_set]; exact hi1, List.getElem_set_self ..⟩
    obtain ⟨SX, hSX⟩ : ∃ SX, bx.map Sl.view = SX := ⟨_, rfl⟩
    have HVX := Lib.hid hSX
    have HLX : Hid (bx.length = N) := by show _ = _; rw [hbs, List.length_set]; exact HBL.out
    have hvl : Sl.view (⟨⟨⟨#[]⟩, sp, sn, sc, sl'⟩, sev, sti, sen⟩ : Sl) ∈ SX := by rw [← hSX]; exact List.mem_map_of_mem hlast
    have HBADX : Hid (Po.okVs SX = false) := Po.okVs_bad ⟨_, hvl, .inl (by show ¬ Po.ke (⟨#[]⟩, sl') = 0; exact Wrg.ke_empty _)⟩
    have HUX : Hid (∀ v ∈ SX, Po.okU (Po.vu v)) := fun v hv => by
      rw [← hSX] at hv
      obtain ⟨x, hx, rfl⟩ := List.mem_map.1 hv
      rw [hbs] at hx
      rcases List.mem_or_eq_of_mem_set hx with hx | rfl
      · exact HU.out _ (by rw [← HVB.out]; exact List.mem_map_of_mem hx)
      · have h9 := HU.out _ HSS.out
        exact ⟨(by show 0 ≤ 1000; decide), h9.2.1, h9.2.2⟩
    have HBW0 : Hid (Below w.heap.size w U) := HB5.out.trans (hbu.mono (by omega))
    have HOX0 : Hid (Po.Own w.heap.size (.slice ps N cs) sl U) := HOF.out U hbu
    have hnb : N ≤ 100 := by omega
    clear st0 h0 hbu hou hbx hbs hSX hvl hlast
    obtain ⟨V, hV⟩ : ∃ V, V = U.alloc (.cells #[.string ⟨#[255]⟩, .slice none 0 0] 29) := ⟨_, rfl⟩
    obtain ⟨gx, hgx⟩ : ∃ gx, gx = U.heap.size := ⟨_, rfl⟩
    have hbV : Below U.heap.size U V := by rw [hV]; exact (Below.refl _ _).alloc (Nat.le_refl _) _
    have kV : V.heap[gx]? = some (.cells #[.string ⟨#[255]⟩, .slice none 0 0] 29) := by rw [hV, hgx]; exact alloc_new _ _
    have hzV : gx < V.heap.size := lt_of_heap kV
    have HBX := Lib.hid (HBX0.out.below hbV (Nat.le_refl _))
    have HOX := Lib.hid (HOX0.out.below hbV (Nat.le_refl _))
    have HBWV : Hid (Below w.heap.size w V) := below_next HBW0.out hbV
    have KV := Lib.hid kV
    have x0 : V.cell? ⟨gx, 0, none⟩ = some (.string ⟨#[255]⟩) := by rw [Lib.cell_of_heap kV]; rfl
    have x1 : V.cell? ⟨gx, 1, none⟩ = some (.slice none 0 0) := by rw [Lib.cell_of_heap kV]; rfl
    have HTA : Hid (∀ (W : World) (b : Nat), W.heap[b]? = some (.cells #[.string ⟨#[255]⟩, .slice none 0 0] 29) → Po.TgAt (some ⟨b, 0, none⟩) [(⟨⟨#[255]⟩, none, 0, 0, []⟩ : Can.T)] W) := fun W b h => Po.tgts_at (by rfl) h (fun t ht => by rw [List.mem_singleton] at ht; subst ht; exact .inl rfl)
    have HTAN : Hid (∀ t ∈ [(⟨⟨#[255]⟩, none, 0, 0, []⟩ : Can.T)], Can.TAny t) := fun t ht => by rw [List.mem_singleton] at ht; subst ht; exact ⟨by decide, rfl, fun x hx => (nomatch hx), fun _ => rfl, Nat.zero_le _⟩
    have HSY : Hid (∀ (p : Option Addr) (ss : List Sl) (S : List Po.V) (n c : Nat) (ev ti r : Int) (W : World), Po.sync S [Wrg.x] ev ti = (r, [], []) → ss.map Sl.view = S → ss.length = n → Po.At p ss W → (∀ s ∈ ss, Can.TAny s.t) → n ≤ 100 → Calls Try.prog 25 #[.slice p n c, .slice (some ⟨W.heap.size, 0, none⟩) 1 1, .int .i64 ev, .int .i64 ti] (W.alloc (.cells #[.string ⟨#[255]⟩, .slice none 0 0] 29)) fun e w' => (∃ v1 v2, e = .returned (.tuple #[v1, v2, .int .i64 r])) ∧ Below W.heap.size W w') := fun p ss S n c ev ti r W h hv hn hA hF hl => by
      have hb : Below W.heap.size W (W.alloc (.cells #[.string ⟨#[255]⟩, .slice none 0 0] 29)) := (Below.refl _ _).alloc (Nat.le_refl _) _
      refine (sync_is p (some ⟨W.heap.size, 0, none⟩) ss [(⟨⟨#[255]⟩, none, 0, 0, []⟩ : Can.T)] n c 1 1 ev ti r [] [] (by rw [hv]; exact h) _ hn rfl (hA.below hb (Nat.le_refl _)) (HTA.out _ _ (alloc_new W _)) hF HTAN.out (by omega) (by decide)).mono ?_
      rintro e w6 ⟨⟨v1, v2, s6, m6, rfl, _⟩, hb6⟩
      exact ⟨⟨v1, v2, rfl⟩, hb.trans (hb6.mono (by simp))⟩
    have HCE : Hid (Can.TAny ⟨⟨#[255]⟩, none, 0, 0, []⟩) := HTAN.out _ (List.mem_singleton.2 rfl)
    have HS1 := Lib.hid (HSY.out (some ⟨gb, 0, none⟩) bx SX N cb 0 0 350 V (Wrg.sync350 HBADX.out _ _ _) HVX.out HLX.out HBX.out.at.1 (HBX.out.any HVX.out HUX.out) hnb)
    clear hbV kV HTA HTAN
    go_wp2_with (first | (rw [hU]; clear hU) | (rw [← hV, ← hgx]; clear hV hgx) | (go_at_call 25; refine HS1.out.mono ?_))
    first | rintro e w6 v1 v2 rfl hb6 | rintro e w6 ⟨⟨v1, v2, rfl⟩, hb6⟩
    have Hw6 : Hid (Below V.heap.size V w6) := hb6
    clear hb6 HS1 x0 x1
    have hkw6 := below_kept Hw6.out KV.out hzV
    have x0w6 : w6.cell? ⟨gx, 0, none⟩ = some (.string ⟨#[255]⟩) := by rw [Lib.cell_of_heap hkw6]; rfl
    have x1w6 : w6.cell? ⟨gx, 1, none⟩ = some (.slice none 0 0) := by rw [Lib.cell_of_heap hkw6]; rfl
    have hzw6 : gx < w6.heap.size := lt_of_heap hkw6
    clear hkw6
    have HE1 := Lib.hid (pend_is (some ⟨gb, 0, none⟩) bx ⟨⟨#[255]⟩, none, 0, 0, []⟩ N cb 350 [] (by rw [HVX.out]; exact Wrg.end350 HBADX.out _) w6 HLX.out (HBX.out.at.1.below Hw6.out (Nat.le_refl _)) (.inl rfl) (HBX.out.any HVX.out HUX.out) HCE.out (by omega))
    go_wp2_with (go_at_call 18; refine HE1.out.mono ?_)
    first | rintro e w7 v3 v4 s3 rfl hR hs hb7 | rintro e w7 v3 rfl v4 s3 hR hs hb7 | rintro e w7 ⟨⟨v3, v4, s3, rfl, hR, hs⟩, hb7⟩
    have Hw7 : Hid (Below V.heap.size V w7) := below_next Hw6.out hb7
    clear hb7 hR hs HE1 x0w6 x1w6
    have hkw7 := below_kept Hw7.out KV.out hzV
    have x0w7 : w7.cell? ⟨gx, 0, none⟩ = some (.string ⟨#[255]⟩) := by rw [Lib.cell_of_heap hkw7]; rfl
    have x1w7 : w7.cell? ⟨gx, 1, none⟩ = some (.slice none 0 0) := by rw [Lib.cell_of_heap hkw7]; rfl
    have hzw7 : gx < w7.heap.size := lt_of_heap hkw7
    clear hkw7
    have HS2 := Lib.hid (HSY.out ps sl S N cs (min n3 0) 1 2 w7 (Wrg.sync2 HOK.out _ (Wrg.num_a 1)) HVS.out HN.out (HOX.out.at.1.below Hw7.out (Nat.le_refl _)) (HOX.out.any HVS.out HU.out) (by omega))
    go_wp2_with (go_at_call 25; refine HS2.out.mono ?_)
    first | rintro e w8 v5 v6 rfl hb8 | rintro e w8 ⟨⟨v5, v6, rfl⟩, hb8⟩
    have Hw8 : Hid (Below V.heap.size V w8) := below_next Hw7.out hb8
    clear hb8 HS2 x0w7 x1w7
    have hkw8 := below_kept Hw8.out KV.out hzV
    have x0w8 : w8.cell? ⟨gx, 0, none⟩ = some (.string ⟨#[255]⟩) := by rw [Lib.cell_of_heap hkw8]; rfl
    have x1w8 : w8.cell? ⟨gx, 1, none⟩ = some (.slice none 0 0) := by rw [Lib.cell_of_heap hkw8]; rfl
    have hzw8 : gx < w8.heap.size := lt_of_heap hkw8
    clear hkw8
    have HS3 := Lib.hid (HSY.out ps sl S N cs 5 (max n3 6) 2 w8 (Wrg.sync2 HOK.out _ Wrg.num_e) HVS.out HN.out (HOX.out.at.1.below Hw8.out (Nat.le_refl _)) (HOX.out.any HVS.out HU.out) (by omega))
    go_wp2_with (go_at_call 25; refine HS3.out.mono ?_)
    first | rintro e w9 v7 v8 rfl hb9 | rintro e w9 ⟨⟨v7, v8, rfl⟩, hb9⟩
    have Hw9 : Hid (Below V.heap.size V w9) := below_next Hw8.out hb9
    clear hb9 HS3 x0w8 x1w8
    have hkw9 := below_kept Hw9.out KV.out hzV
    have x0w9 : w9.cell? ⟨gx, 0, none⟩ = some (.string ⟨#[255]⟩) := by rw [Lib.cell_of_heap hkw9]; rfl
    have x1w9 : w9.cell? ⟨gx, 1, none⟩ = some (.slice none 0 0) := by rw [Lib.cell_of_heap hkw9]; rfl
    have hzw9 : gx < w9.heap.size := lt_of_heap hkw9
    clear hkw9
    have hc9 : w9.drew.cell? ⟨gx, 0, none⟩ = some (.string ⟨#[255]⟩) ∧ w9.drew.cell? ⟨gx, 1, none⟩ = some (.slice none 0 0) := ⟨x0w9, x1w9⟩
    go_wp2_with fail
    refine wp_region_held_drew (S := (fun w' => Below w9.heap.size w9 w' ∧ w'.cell? ⟨gx, 0, none⟩ = some (.string ⟨#[255]⟩) ∧ w'.cell? ⟨gx, 1, none⟩ = some (.slice none 0 0))) (by kernel_rfl) ⟨(Below.refl _ w9).drew, (((Below.refl _ w9).drew).cell (p := ⟨gx, 0, none⟩) hzw9).trans x0w9, (((Below.refl _ w9).drew).cell (p := ⟨gx, 1, none⟩) hzw9).trans x1w9⟩ (fun hHeld => ?_)
    refine Rnd.take (i := 0) (v := ?_) rfl (by kernel_rfl) (by kernel_rfl) (by kernel_rfl) (fun _ _ _ h => h) (.inl ⟨by rfl, ?_⟩) (by assumption) ?_
    rotate_left
    · (intro w9 hS9; (try dsimp only at hS9); go_simp; try with_reducible rfl)
    try simp only [Act.put, List.setIfInBounds_toArray, List.set_cons_zero, List.set_cons_succ]
    refine Rnd.take (i := 2) (v := ?_) rfl (by kernel_rfl) (by kernel_rfl) (by kernel_rfl) (fun _ _ _ h => h) (.inl ⟨by rfl, ?_⟩) (by assumption) ?_
    rotate_left
    · (intro w9 hS9; (try dsimp only at hS9); go_simp; try with_reducible rfl)
    try simp only [Act.put, List.setIfInBounds_toArray, List.set_cons_zero, List.set_cons_succ]
    refine wpAnyH_ready (rs := [1]) (by kernel_rfl) (by simp) ?_
    refine AllReadyH.cons rfl (fun K hK => ?_) AllReadyH.nil
    go_simp
    refine (HT1.out _).mono ?_
    rintro e wt ⟨⟨t, rfl, hOt, hvt⟩, hbt⟩
    obtain ⟨tj, tp, tn, tc, tl⟩ := t
    have hbt9 : Below w9.heap.size w9 wt := below_next ((Below.refl _ w9).drew) hbt
    refine hK.out _ _ ⟨hbt9, ((hbt9).cell (p := ⟨gx, 0, none⟩) hzw9).trans x0w9, ((hbt9).cell (p := ⟨gx, 1, none⟩) hzw9).trans x1w9⟩ (fun hHeld => ?_)
    clear hK K
    skip
    refine wpAnyH_ready (rs := [3]) (by kernel_rfl) (by simp) ?_
    refine AllReadyH.cons rfl (fun K hK => ?_) AllReadyH.nil
    go_simp
    have hbU : Below w9.heap.size w9 (wt.alloc (.cells #[.string tj, .slice tp tn tc, .string ⟨#[255]⟩, .slice none 0 0] 29)) := hbt9.alloc hbt9.size _
    refine hK.out _ _ ⟨hbU, ((hbU).cell (p := ⟨gx, 0, none⟩) hzw9).trans x0w9, ((hbU).cell (p := ⟨gx, 1, none⟩) hzw9).trans x1w9⟩ (fun hHeld => ?_)
    clear hK K
    try simp only [Act.put, List.setIfInBounds_toArray, List.set_cons_zero, List.set_cons_succ]
    refine wpAnyH_ready (rs := [4]) (by kernel_rfl) (by simp) ?_
    refine AllReadyH.cons rfl (fun K hK => ?_) AllReadyH.nil
    go_simp
    have hOt2 : OwnT w9.drew.heap.size ⟨tj, tp, tn, tc, tl⟩ (wt.alloc (.cells #[.string tj, .slice tp tn tc, .string ⟨#[255]⟩, .slice none 0 0] 29)) := hOt.below ((Below.refl _ _).alloc (Nat.le_refl _) _) (Nat.le_refl _)
    refine (sync_is ps (some ⟨wt.heap.size, 0, none⟩) sl [(⟨tj, tp, tn, tc, tl⟩ : Can.T), ⟨⟨#[255]⟩, none, 0, 0, []⟩] N cs 2 2 5 5 351 [] [] (by rw [HVS.out]; refine Eq.trans ?_ (Wrg.sync351 (ev := 5) (ti := 5) HOK.out Wrg.okT2 (by decide)); show Po.sync S [(tj, tl), _] 5 5 = _; rw [show (tj, tl) = Po.tgt 1 from hvt]; rfl) _ HN.out rfl (HOX.out.at.1.below (Hw9.out.trans (hbU.mono Hw9.out.size)) (Nat.le_refl _)) (Po.tgts_at (by rfl) (alloc_new wt (.cells #[.string tj, .slice tp tn tc, .string ⟨#[255]⟩, .slice none 0 0] 29)) (fun t ht => by simp only [List.mem_cons, List.not_mem_nil, or_false] at ht; rcases ht with rfl | rfl; exact hOt2.at; exact .inl rfl)) (HOX.out.any HVS.out HU.out) (fun t ht => by simp only [List.mem_cons, List.not_mem_nil, or_false] at ht; rcases ht with rfl | rfl; exact Po.okU.any hOt2 (by rw [hvt]; exact Po.tgt_ok 1); exact HCE.out) (by omega) (by decide)).mono ?_
    rintro e wa ⟨⟨v9, va, s9, m9, rfl, hR9, hs9, hm9⟩, hba⟩
    obtain ⟨⟨p9, c9, rfl, _⟩, pm9, cm9, rfl, _⟩ := hR9.form
    have hba9 : Below w9.heap.size w9 wa := below_next hbU hba
    obtain rfl : s9 = [] := List.map_eq_nil_iff.1 hs9
    obtain rfl : m9 = [] := List.map_eq_nil_iff.1 hm9
    refine hK.out _ _ ⟨hba9, ((hba9).cell (p := ⟨gx, 0, none⟩) hzw9).trans x0w9, ((hba9).cell (p := ⟨gx, 1, none⟩) hzw9).trans x1w9⟩ (fun hHeld => ?_)
    clear hK K
    try simp only [Act.put, List.setIfInBounds_toArray, List.set_cons_zero, List.set_cons_succ]
    refine Rnd.take (i := 5) (v := ?_) rfl (by kernel_rfl) (by kernel_rfl) (by kernel_rfl) (fun _ _ _ h => h) (.inl ⟨by rfl, ?_⟩) (by assumption) ?_
    rotate_left
    · (intro w9 hS9; (try dsimp only at hS9); go_simp; try with_reducible rfl)
    try simp only [Act.put, List.setIfInBounds_toArray, List.set_cons_zero, List.set_cons_succ]
    refine Rnd.take (i := 6) (v := ?_) rfl (by kernel_rfl) (by kernel_rfl) (by kernel_rfl) (fun _ _ _ h => h) (.inl ⟨by rfl, ?_⟩) (by assumption) ?_
    rotate_left
    · (intro w9 hS9; (try dsimp only at hS9); go_simp; try with_reducible rfl)
    try simp only [Act.put, List.setIfInBounds_toArray, List.set_cons_zero, List.set_cons_succ]
    refine Rnd.take (i := 7) (v := ?_) rfl (by kernel_rfl) (by kernel_rfl) (by kernel_rfl) (fun _ _ _ h => h) (.inl ⟨by rfl, ?_⟩) (by assumption) ?_
    rotate_left
    · (intro w9 hS9; (try dsimp only at hS9); go_simp; try with_reducible rfl)
    try simp only [Act.put, List.setIfInBounds_toArray, List.set_cons_zero, List.set_cons_succ]
    refine Rnd.take (i := 8) (v := ?_) rfl (by kernel_rfl) (by kernel_rfl) (by kernel_rfl) (fun _ _ _ h => h) (.inl ⟨by rfl, ?_⟩) (by assumption) ?_
    rotate_left
    · (intro w9 hS9; (try dsimp only at hS9); go_simp; try with_reducible rfl)
    try simp only [Act.put, List.setIfInBounds_toArray, List.set_cons_zero, List.set_cons_succ]
    refine Rnd.take (i := 9) (v := ?_) rfl (by kernel_rfl) (by kernel_rfl) (by kernel_rfl) (fun _ _ _ h => h) (.inl ⟨by rfl, ?_⟩) (by assumption) ?_
    rotate_left
    · (intro w9 hS9; (try dsimp only at hS9); go_simp; try with_reducible rfl)
    try simp only [Act.put, List.setIfInBounds_toArray, List.set_cons_zero, List.set_cons_succ]
    refine Rnd.take (i := 10) (v := ?_) rfl (by kernel_rfl) (by kernel_rfl) (by kernel_rfl) (fun _ _ _ h => h) (.inl ⟨by rfl, ?_⟩) (by assumption) ?_
    rotate_left
    · (intro w9 hS9; (try dsimp only at hS9); go_simp; try with_reducible rfl)
    try simp only [Act.put, List.setIfInBounds_toArray, List.set_cons_zero, List.set_cons_succ]
    refine Rnd.take (i := 11) (v := ?_) rfl (by kernel_rfl) (by kernel_rfl) (by kernel_rfl) (fun _ _ _ h => h) (.inl ⟨by rfl, ?_⟩) (by assumption) ?_
    rotate_left
    · (intro w9 hS9; (try dsimp only at hS9); go_simp; try with_reducible rfl)
    try simp only [Act.put, List.setIfInBounds_toArray, List.set_cons_zero, List.set_cons_succ]
    refine wpAnyH_done (by kernel_rfl) ?_ _
    have Hwa : Hid (Below V.heap.size V wa) := below_next Hw9.out hba9
    clear hba9 hba hbU hbt hbt9 hR9 hs9 hm9 hOt hOt2 hc9 x0w9 x1w9
    have hkwa := below_kept Hwa.out KV.out hzV
    have x0wa : wa.cell? ⟨gx, 0, none⟩ = some (.string ⟨#[255]⟩) := by rw [Lib.cell_of_heap hkwa]; rfl
    have x1wa : wa.cell? ⟨gx, 1, none⟩ = some (.slice none 0 0) := by rw [Lib.cell_of_heap hkwa]; rfl
    have hzwa : gx < wa.heap.size := lt_of_heap hkwa
    clear hkwa
    have HE2 := Lib.hid (pend_is ps sl ⟨⟨#[255]⟩, none, 0, 0, []⟩ N cs 6 [] (by rw [HVS.out]; exact Wrg.end6 HOK.out HNO.out) wa HN.out (HOX.out.at.1.below Hwa.out (Nat.le_refl _)) (.inl rfl) (HOX.out.any HVS.out HU.out) HCE.out (by omega))
    go_wp2_with (go_at_call 18; refine HE2.out.mono ?_)
    first | rintro e wb v3 rfl v4 hR hb7 | rintro e wb v3 v4 s3 rfl hR hs hb7 | rintro e wb v3 rfl v4 s3 hR hs hb7 | rintro e wb ⟨⟨v3, v4, s3, rfl, hR, hs⟩, hb7⟩
    have Hwb : Hid (Below V.heap.size V wb) := below_next Hwa.out hb7
    clear hb7 hR HE2 x0wa x1wa
    have HR1 := Lib.hid (pright_is (some ⟨gb, 0, none⟩) bx N cb false (by rw [HVX.out]; exact HBADX.out) wb HLX.out (HBX.out.at.1.below Hwb.out (Nat.le_refl _)) (HBX.out.any HVX.out HUX.out) (by omega))
    go_wp2_with (go_at_call 23; refine HR1.out.mono ?_)
    first | rintro e wc rfl hb7 | rintro e wc ⟨rfl, hb7⟩
    have Hwc : Hid (Below V.heap.size V wc) := below_next Hwb.out hb7
    clear hb7 HR1
    have HR2 := Lib.hid (pright_is ps sl N cs true (by rw [HVS.out]; exact HOK.out) wc HN.out (HOX.out.at.1.below Hwc.out (Nat.le_refl _)) (HOX.out.any HVS.out HU.out) (by omega))
    go_wp2_with (go_at_call 23; refine HR2.out.mono ?_)
    first | rintro e wd rfl hb7 | rintro e wd ⟨rfl, hb7⟩
    have hbz : Below w.heap.size w wd := below_next (below_next HBWV.out Hwc.out) hb7
    clear hb7
    go_wp2_with fail
    go_ret
    exact ⟨rfl, hbz⟩
end Go.Proofs.Ytpnpgjjbincigaa
