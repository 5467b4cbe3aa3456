/- gaugerlaw35.ends returns true. (Printed by gen_end.py.) -/
import Derived.Test.YtpnpgjjbincigaaTel
import Derived.Deep.RegionHeld3
namespace Go.Proofs.Ytpnpgjjbincigaa
open Go.RowKit
set_option linter.unusedVariables false

theorem OwnTs.spo {B B' : Nat} {v : Value} {ts L : List Can.T} {w w' : World} (h : OwnTs B v ts w) (hne : ∀ t ∈ ts, ∀ u ∈ L, ∀ g, u.p = some ⟨g, 0, none⟩ → t.p ≠ some ⟨g, 0, none⟩) (hs : Po.Spo B' L w w') : OwnTs B v ts w' := by
  obtain ⟨⟨h1, h2⟩, h3⟩ := h
  refine ⟨⟨h1, ?_⟩, fun t ht => OwnT.spo (B := B) (h3 t ht) (hne t ht) hs⟩
  rcases h2 with h2 | ⟨g, cap, cur, hv, hb, hh, r⟩
  · exact .inl h2
  · exact .inr ⟨g, cap, cur, hv, hb, hs.keep g cur _ (0, 0) hh (.inl (by decide)), r⟩
/-- a row of targets, seen at its place -/
theorem OwnR.tgAtE {B n c : Nat} {p : Option Addr} {l : List Can.T} {w : World} (h : OwnR tgR B (.slice p n c) l w) (hL : ∀ t ∈ l, Lab.At t.p t.ls w) : Po.TgAt p l w := by
  rcases h.open tgOk with ⟨_, h2⟩ | ⟨g, c', e, h1, h2, h3, h4, hA⟩
  · exact .inl h2
  · simp only [Value.slice.injEq] at e
    obtain ⟨rfl, _⟩ := e
    by_cases h0 : l = []
    · exact .inl h0
    · have hl0 : 0 < l.length := List.length_pos_iff.2 h0
      have hb : g < w.heap.size := by
        have := hA 0 hl0 0 (by decide)
        exact World.block_lt_of_cell? _ _ this
      refine .inr ⟨g, 0, rfl, hb, fun i hi => ⟨?_, ?_, hL _ (List.getElem_mem _)⟩⟩
      · rw [Nat.zero_add]; exact hA i hi 0 (by decide)
      · rw [Nat.zero_add]; exact hA i hi 1 (by decide)
/-- 'append(v, x...)' of a row of targets -/
theorem Po.runs_sl (ss : List Sl) : ((ss.filter fun s => !s.en).map Sl.t).map Po.tv = Po.runs (ss.map Sl.view) := by
  unfold Po.runs
  rw [List.filter_map, List.map_map, List.map_map]
  rfl

set_option maxHeartbeats 12800000 in
set_option maxRecDepth 100000 in
theorem ends_is (p : Option Addr) (ss : List Sl) (t : Can.T) (n c : Nat) (w : World) (hn : ss.length = n) (hA : Po.At p ss w) (hB : Lab.At t.p t.ls w)
    (hF : ∀ s ∈ ss, Can.TAny s.t) (hG : Can.TAny t) (hF2 : ∀ s ∈ ss, s.t.n ≤ 4398046511104) :
    Calls Try.prog 14 #[.slice p n c, .agg #[.string t.job, .slice t.p t.n t.c]] w fun e w' => e = .returned (.bool true) ∧ Below w.heap.size w w' := by
  obtain ⟨tj, tp, tn, tc, tl⟩ := t
  have hb0 : Below w.heap.size w (w.alloc (.cells #[.string tj, .slice tp tn tc] 29)) := (Below.refl _ _).alloc (Nat.le_refl _) _
  have HB0 := Lib.hid hb0
  have HK0 := Lib.hid (alloc_new w (.cells #[.string tj, .slice tp tn tc] 29))
  by_cases hn40 : 40 < n
  · have q1 : (n : Int) > 40 := by omega
    clear hn hA hB hF hG hF2 hb0
    go_enter Try.func14, Try.ntmps14
    go_wp2_with fail
    go_ret
    exact ⟨rfl, HB0.out⟩
  have n40 : n ≤ 40 := by omega
  have q1 : ¬ (n : Int) > 40 := by omega
  obtain ⟨⟨er, S⟩, hen⟩ : ∃ x, Po.endS (ss.map Sl.view) (tj, tl) = x := ⟨_, rfl⟩
  obtain ⟨⟨ix, is⟩, hfi⟩ : ∃ x, Po.find (ss.map Sl.view) (tj, tl) = x := ⟨_, rfl⟩
  have HCP := Lib.hid (lcopied_is p ss n c _ hn (hA.below hb0 (Nat.le_refl _)) (fun s hs => ⟨(hF s hs).2.1, hF2 s hs, (hF s hs).2.2.2.1⟩) (by omega))
  have HN := Lib.hid hn
  have HA := Lib.hid hA
  have HB := Lib.hid hB
  have HF := Lib.hid hF
  have HF2 := Lib.hid hF2
  have HG := Lib.hid hG
  have HEN := Lib.hid hen
  have HFI := Lib.hid hfi
  have HSL : Hid (S.length ≤ n) := by
    show S.length ≤ n
    unfold Po.endS at hen
    split at hen
    · split at hen
      · split at hen
        · simp only [Prod.mk.injEq] at hen
          rw [← hen.2, ← hn]
          exact Nat.le_trans (List.length_eraseIdx_le _ _) (by rw [List.length_map]; exact Nat.le_refl _)
        · simp only [Prod.mk.injEq] at hen
          rw [← hen.2]; exact Nat.zero_le _
      · simp only [Prod.mk.injEq] at hen
        rw [← hen.2]; exact Nat.zero_le _
    · simp only [Prod.mk.injEq] at hen
      rw [← hen.2]; exact Nat.zero_le _
  have hS40 : S.length ≤ 40 := Nat.le_trans HSL.out n40
  clear hn hA hB hF hG hF2 hen hfi hn40 hb0
  go_enter Try.func14, Try.ntmps14
  go_wp2_with (go_at_call 24; refine HCP.out.mono ?_)
  first | rintro e w1 v rfl s2 hO hv hb1 | rintro e w1 v s2 rfl hO hv hb1 | rintro e w1 ⟨⟨v, s2, rfl, hO, hv⟩, hb1⟩
  have hl2 : s2.length = n := by have h1 := congrArg List.length hv; rw [List.length_map, List.length_map] at h1; have := HN.out; omega
  obtain ⟨po, co, rfl, _, _⟩ := hO.form
  rw [hl2] at hO ⊢
  have HO1 : Hid (Po.Own (w.heap.size + 1) (.slice po n co) s2 w1) := hO.lift (by simp)
  have HV2 := Lib.hid hv
  have HL2 := Lib.hid hl2
  have HX1 := Lib.hid (below_kept hb1 HK0.out (by simp))
  have HW1 : Hid (Below w.heap.size w w1) := HB0.out.trans (hb1.mono (by simp))
  have HTA2 := Lib.hid (Po.tany_of HV2.out HO1.out.2 HF.out)
  have H42 : Hid (∀ s ∈ s2, s.t.n ≤ 4398046511104) := by
    intro s hs
    obtain ⟨i, hi, rfl⟩ := List.getElem_of_mem hs
    have hi2 : i < ss.length := by rw [HN.out, ← hl2]; exact hi
    have e := view_get HV2.out i hi hi2
    simp only [Sl.view, Prod.mk.injEq] at e
    rw [← (HO1.out.2 s2[i] hs).n.1, e.2.1, (HF.out ss[i] (List.getElem_mem _)).2.1]
    exact HF2.out ss[i] (List.getElem_mem _)
  have HD1 : Hid (Below w1.heap.size w1 w1) := Below.refl _ _
  have hz1 : w.heap.size < w1.heap.size := lt_of_heap HX1.out
  clear hO hv hl2 hb1 HCP HK0
  have HXw1 := HX1
  have HWw1 := HW1
  have HDw1 := HD1
  have x0w1 : w1.cell? ⟨w.heap.size, 0, none⟩ = some (.string tj) := by rw [Lib.cell_of_heap HXw1.out]; rfl
  have x1w1 : w1.cell? ⟨w.heap.size, 1, none⟩ = some (.slice tp tn tc) := by rw [Lib.cell_of_heap HXw1.out]; rfl
  have xlw1 : w.heap.size < w1.heap.size := lt_of_heap HXw1.out
  have HE := Lib.hid (pend_is po s2 ⟨tj, tp, tn, tc, tl⟩ n co er S (by rw [HV2.out]; exact HEN.out) w1 HL2.out HO1.out.at.1 (HB.out.below HWw1.out (Nat.le_refl _)) HTA2.out HG.out (by omega))
  go_wp2_with (go_at_call 18; refine HE.out.mono ?_)
  first | rintro e w2 v3 v4 s3 rfl hR hs hb2 | rintro e w2 v3 rfl v4 s3 hR hs hb2 | rintro e w2 ⟨⟨v3, v4, s3, rfl, hR, hs⟩, hb2⟩
  obtain ⟨⟨p3, c3, rfl, _⟩, _⟩ := hR.form
  obtain ⟨n3, hn3⟩ : ∃ n3, s3.length = n3 := ⟨_, rfl⟩
  have hRs := hR.rs
  rw [hn3] at hRs ⊢
  have HR3 : Hid (OwnR slR w1.heap.size (.slice p3 n3 c3) s3 w2) := hRs
  have HT3 : Hid (∀ s ∈ s3, OwnT w1.heap.size s.t w2) := hR.ts
  have HS3 := Lib.hid hs
  have HN3 := Lib.hid hn3
  have HXw2 := Lib.hid (below_kept hb2 HXw1.out (lt_of_heap HXw1.out))
  have HWw2 : Hid (Below w.heap.size w w2) := below_next HWw1.out hb2
  have HDw2 : Hid (Below w1.heap.size w1 w2) := below_next HDw1.out hb2
  have HB22 : Hid (Below w2.heap.size w2 w2) := Below.refl _ _
  clear hR hRs hs hn3 hb2 HE
  clear x0w1 x1w1
  have x0w2 : w2.cell? ⟨w.heap.size, 0, none⟩ = some (.string tj) := by rw [Lib.cell_of_heap HXw2.out]; rfl
  have x1w2 : w2.cell? ⟨w.heap.size, 1, none⟩ = some (.slice tp tn tc) := by rw [Lib.cell_of_heap HXw2.out]; rfl
  have xlw2 : w.heap.size < w2.heap.size := lt_of_heap HXw2.out
  have HTH := Lib.hid (fun W h => theirs_is p ss n c W HN.out h (by omega))
  go_wp2_with fail
  have HCw2 : Hid (∀ w', Below w2.heap.size w2 w' → Below w2.heap.size w2 w' ∧ w'.cell? ⟨w.heap.size, 0, none⟩ = some (.string tj) ∧ w'.cell? ⟨w.heap.size, 1, none⟩ = some (.slice tp tn tc)) := fun w' hb => ⟨hb, (hb.cell (p := ⟨w.heap.size, 0, none⟩) (by exact lt_of_heap HXw2.out)).trans x0w2, (hb.cell (p := ⟨w.heap.size, 1, none⟩) (by exact lt_of_heap HXw2.out)).trans x1w2⟩
  refine wp_region_held_drew (S := (fun w' => Below w2.heap.size w2 w' ∧ w'.cell? ⟨w.heap.size, 0, none⟩ = some (.string tj) ∧ w'.cell? ⟨w.heap.size, 1, none⟩ = some (.slice tp tn tc))) (by kernel_rfl) (HCw2.out _ ((Below.refl _ w2).drew)) (fun hHeld => ?_)
  refine Rnd.take (i := 0) (v := ?_) rfl (by kernel_rfl) (by kernel_rfl) (by kernel_rfl) (fun _ _ _ h => h) (.inl ⟨by rfl, ?_⟩) (by assumption) ?_
  rotate_left
  · (intro w9 hS9; (try dsimp only at hS9); go_simp; try with_reducible rfl)
  try simp only [Act.put, List.setIfInBounds_toArray, List.set_cons_zero, List.set_cons_succ]
  refine Rnd.take (i := 2) (v := ?_) rfl (by kernel_rfl) (by kernel_rfl) (by kernel_rfl) (fun _ _ _ h => h) (.inl ⟨by rfl, ?_⟩) (by assumption) ?_
  rotate_left
  · (intro w9 hS9; (try dsimp only at hS9); go_simp; try with_reducible rfl)
  try simp only [Act.put, List.setIfInBounds_toArray, List.set_cons_zero, List.set_cons_succ]
  refine wpAnyH_ready (rs := [1]) (by kernel_rfl) (by simp) ?_
  refine AllReadyH.cons rfl (fun K hK => ?_) AllReadyH.nil
  go_simp
  have hd0 : Below w2.heap.size w2 w2.drew := (Below.refl _ w2).drew
  refine (HTH.out _ (HA.out.below (below_next HWw2.out hd0) (Nat.le_refl _)).1).mono ?_
  rintro e wA ⟨⟨v, rfl, hv4⟩, hbA⟩
  obtain ⟨pq, cq, rfl, hcq, hcq2, _⟩ := hv4.shape
  rw [HN.out] at hv4 hcq ⊢
  have hd1 : Below w2.heap.size w2 wA := below_next hd0 hbA
  refine hK.out _ _ (HCw2.out _ hd1) (fun hHeld => ?_)
  clear hK K
  try simp only [Act.put, List.setIfInBounds_toArray, List.set_cons_zero, List.set_cons_succ]
  refine wpAnyH_ready (rs := [3]) (by kernel_rfl) (by simp) ?_
  refine AllReadyH.cons rfl (fun K hK => ?_) AllReadyH.nil
  go_simp
  refine (rend_is pq ss ⟨tj, tp, tn, tc, tl⟩ n cq er S HEN.out wA HN.out ⟨hv4.lies rsOk, fun s hs => (HA.out.2 s hs).below (below_next HWw2.out hd1) (Nat.le_refl _)⟩ (HB.out.below (below_next HWw2.out hd1) (Nat.le_refl _)) HF.out HG.out (by omega) hcq (by unfold maxLen at hcq2; omega)).mono ?_
  rintro e wB ⟨⟨v, s4, rfl, hr4, hs4, hi4⟩, hbB⟩
  have hd2 : Below w2.heap.size w2 wB := below_next hd1 hbB
  refine hK.out _ _ (HCw2.out _ hd2) (fun hHeld => ?_)
  clear hK K
  try simp only [Act.put, List.setIfInBounds_toArray, List.set_cons_zero, List.set_cons_succ]
  refine Rnd.take (i := 4) (v := ?_) rfl (by kernel_rfl) (by kernel_rfl) (by kernel_rfl) (fun _ _ _ h => h) (.inl ⟨by rfl, ?_⟩) (by assumption) ?_
  rotate_left
  · (intro w9 hS9; (try dsimp only at hS9); go_simp; try with_reducible rfl)
  try simp only [Act.put, List.setIfInBounds_toArray, List.set_cons_zero, List.set_cons_succ]
  refine Rnd.take (i := 5) (v := ?_) rfl (by kernel_rfl) (by kernel_rfl) (by kernel_rfl) (fun _ _ _ h => h) (.inl ⟨by rfl, ?_⟩) (by assumption) ?_
  rotate_left
  · (intro w9 hS9; (try dsimp only at hS9); go_simp; try with_reducible rfl)
  try simp only [Act.put, List.setIfInBounds_toArray, List.set_cons_zero, List.set_cons_succ]
  refine Rnd.take (i := 6) (v := ?_) rfl (by kernel_rfl) (by kernel_rfl) (by kernel_rfl) (fun _ _ _ h => h) (.inl ⟨by rfl, ?_⟩) (by assumption) ?_
  rotate_left
  · (intro w9 hS9; (try dsimp only at hS9); go_simp; try with_reducible rfl)
  try simp only [Act.put, List.setIfInBounds_toArray, List.set_cons_zero, List.set_cons_succ]
  refine Rnd.take (i := 7) (v := ?_) rfl (by kernel_rfl) (by kernel_rfl) (by kernel_rfl) (fun _ _ _ h => h) (.inl ⟨by rfl, ?_⟩) (by assumption) ?_
  rotate_left
  · (intro w9 hS9; (try dsimp only at hS9); go_simp; try with_reducible rfl)
  try simp only [Act.put, List.setIfInBounds_toArray, List.set_cons_zero, List.set_cons_succ]
  refine Rnd.take (i := 8) (v := ?_) rfl (by kernel_rfl) (by kernel_rfl) (by kernel_rfl) (fun _ _ _ h => h) (.inl ⟨by rfl, ?_⟩) (by assumption) ?_
  rotate_left
  · (intro w9 hS9; (try dsimp only at hS9); go_simp; try with_reducible rfl)
  try simp only [Act.put, List.setIfInBounds_toArray, List.set_cons_zero, List.set_cons_succ]
  refine wpAnyH_done (by kernel_rfl) ?_ _
  obtain ⟨p4, c4, rfl, _⟩ := hr4.shape
  obtain ⟨n4, hn4⟩ : ∃ n4, s4.length = n4 := ⟨_, rfl⟩
  rw [hn4] at hr4 ⊢
  have HXwB := Lib.hid (below_kept hd2 HXw2.out (lt_of_heap HXw2.out))
  have HWwB : Hid (Below w.heap.size w wB) := below_next HWw2.out hd2
  have HDwB : Hid (Below w1.heap.size w1 wB) := below_next HDw2.out hd2
  have HBwB : Hid (Below w2.heap.size w2 wB) := hd2
  have HR4 := Lib.hid hr4
  have HS4 := Lib.hid hs4
  have HI4 := Lib.hid hi4
  have HN4 := Lib.hid hn4
  clear hr4 hs4 hi4 hn4 hd0 hd1 hd2 hbA hbB hv4 hcq hcq2 HCw2
  have HEwB : Hid (Below wB.heap.size wB wB) := Below.refl _ _
  clear x0w2 x1w2
  have x0wB : wB.cell? ⟨w.heap.size, 0, none⟩ = some (.string tj) := by rw [Lib.cell_of_heap HXwB.out]; rfl
  have x1wB : wB.cell? ⟨w.heap.size, 1, none⟩ = some (.slice tp tn tc) := by rw [Lib.cell_of_heap HXwB.out]; rfl
  have xlwB : w.heap.size < wB.heap.size := lt_of_heap HXwB.out
  have HFN := Lib.hid (find_is po s2 ⟨tj, tp, tn, tc, tl⟩ n co ix is (by rw [HV2.out]; exact HFI.out) wB HL2.out (HO1.out.below HDwB.out (Nat.le_refl _)).at.1 (HB.out.below HWwB.out (Nat.le_refl _)) (fun s hs => (HO1.out.2 s hs).n) HG.out.2.1 HG.out.2.2.2.2 (by omega))
  go_wp2_with (go_at_call 45; refine HFN.out.mono ?_)
  first | rintro e wC rfl hbC | rintro e wC ⟨rfl, hbC⟩
  have HXwC := Lib.hid (below_kept hbC HXwB.out (lt_of_heap HXwB.out))
  have HWwC : Hid (Below w.heap.size w wC) := below_next HWwB.out hbC
  have HDwC : Hid (Below w1.heap.size w1 wC) := below_next HDwB.out hbC
  have HBwC : Hid (Below w2.heap.size w2 wC) := below_next HBwB.out hbC
  have HEwC : Hid (Below wB.heap.size wB wC) := below_next HEwB.out hbC
  clear hbC HFN
  clear x0wB x1wB
  have x0wC : wC.cell? ⟨w.heap.size, 0, none⟩ = some (.string tj) := by rw [Lib.cell_of_heap HXwC.out]; rfl
  have x1wC : wC.cell? ⟨w.heap.size, 1, none⟩ = some (.slice tp tn tc) := by rw [Lib.cell_of_heap HXwC.out]; rfl
  have xlwC : w.heap.size < wC.heap.size := lt_of_heap HXwC.out
  go_wp2_with fail
  have HCwC : Hid (∀ w', Below wC.heap.size wC w' → Below wC.heap.size wC w' ∧ w'.cell? ⟨w.heap.size, 0, none⟩ = some (.string tj) ∧ w'.cell? ⟨w.heap.size, 1, none⟩ = some (.slice tp tn tc)) := fun w' hb => ⟨hb, (hb.cell (p := ⟨w.heap.size, 0, none⟩) (by exact lt_of_heap HXwC.out)).trans x0wC, (hb.cell (p := ⟨w.heap.size, 1, none⟩) (by exact lt_of_heap HXwC.out)).trans x1wC⟩
  refine wp_region_held_drew (S := (fun w' => Below wC.heap.size wC w' ∧ w'.cell? ⟨w.heap.size, 0, none⟩ = some (.string tj) ∧ w'.cell? ⟨w.heap.size, 1, none⟩ = some (.slice tp tn tc))) (by kernel_rfl) (HCwC.out _ ((Below.refl _ wC).drew)) (fun hHeld => ?_)
  refine Rnd.take (i := 0) (v := ?_) rfl (by kernel_rfl) (by kernel_rfl) (by kernel_rfl) (fun _ _ _ h => h) (.inl ⟨by rfl, ?_⟩) (by assumption) ?_
  rotate_left
  · (intro w9 hS9; (try dsimp only at hS9); go_simp; try with_reducible rfl)
  try simp only [Act.put, List.setIfInBounds_toArray, List.set_cons_zero, List.set_cons_succ]
  refine Rnd.take (i := 2) (v := ?_) rfl (by kernel_rfl) (by kernel_rfl) (by kernel_rfl) (fun _ _ _ h => h) (.inl ⟨by rfl, ?_⟩) (by assumption) ?_
  rotate_left
  · (intro w9 hS9; (try dsimp only at hS9); go_simp; try with_reducible rfl)
  try simp only [Act.put, List.setIfInBounds_toArray, List.set_cons_zero, List.set_cons_succ]
  refine wpAnyH_ready (rs := [1]) (by kernel_rfl) (by simp) ?_
  refine AllReadyH.cons rfl (fun K hK => ?_) AllReadyH.nil
  go_simp
  have hd0 : Below wC.heap.size wC wC.drew := (Below.refl _ wC).drew
  refine (HTH.out _ (HA.out.below (below_next HWwC.out hd0) (Nat.le_refl _)).1).mono ?_
  rintro e wD ⟨⟨v, rfl, hv4⟩, hbA⟩
  obtain ⟨pq, cq, rfl, hcq, hcq2, _⟩ := hv4.shape
  rw [HN.out] at hv4 hcq ⊢
  have hd1 : Below wC.heap.size wC wD := below_next hd0 hbA
  refine hK.out _ _ (HCwC.out _ hd1) (fun hHeld => ?_)
  clear hK K
  try simp only [Act.put, List.setIfInBounds_toArray, List.set_cons_zero, List.set_cons_succ]
  refine wpAnyH_ready (rs := [3]) (by kernel_rfl) (by simp) ?_
  refine AllReadyH.cons rfl (fun K hK => ?_) AllReadyH.nil
  go_simp
  refine (rfind_is pq ss ⟨tj, tp, tn, tc, tl⟩ n cq ix is HFI.out wD HN.out ⟨hv4.lies rsOk, fun s hs => (HA.out.2 s hs).below (below_next HWwC.out hd1) (Nat.le_refl _)⟩ (HB.out.below (below_next HWwC.out hd1) (Nat.le_refl _)) HF.out HG.out (by omega)).mono ?_
  rintro e wE ⟨rfl, hbE⟩
  have hd2 : Below wC.heap.size wC wE := below_next hd1 hbE
  refine hK.out _ _ (HCwC.out _ hd2) (fun hHeld => ?_)
  clear hK K
  try simp only [Act.put, List.setIfInBounds_toArray, List.set_cons_zero, List.set_cons_succ]
  refine Rnd.take (i := 4) (v := ?_) rfl (by kernel_rfl) (by kernel_rfl) (by kernel_rfl) (fun _ _ _ h => h) (.inl ⟨by rfl, ?_⟩) (by assumption) ?_
  rotate_left
  · (intro w9 hS9; (try dsimp only at hS9); go_simp; try with_reducible rfl)
  try simp only [Act.put, List.setIfInBounds_toArray, List.set_cons_zero, List.set_cons_succ]
  refine Rnd.take (i := 5) (v := ?_) rfl (by kernel_rfl) (by kernel_rfl) (by kernel_rfl) (fun _ _ _ h => h) (.inl ⟨by rfl, ?_⟩) (by assumption) ?_
  rotate_left
  · (intro w9 hS9; (try dsimp only at hS9); go_simp; try with_reducible rfl)
  try simp only [Act.put, List.setIfInBounds_toArray, List.set_cons_zero, List.set_cons_succ]
  refine Rnd.take (i := 6) (v := ?_) rfl (by kernel_rfl) (by kernel_rfl) (by kernel_rfl) (fun _ _ _ h => h) (.inl ⟨by rfl, ?_⟩) (by assumption) ?_
  rotate_left
  · (intro w9 hS9; (try dsimp only at hS9); go_simp; try with_reducible rfl)
  try simp only [Act.put, List.setIfInBounds_toArray, List.set_cons_zero, List.set_cons_succ]
  refine Rnd.take (i := 7) (v := ?_) rfl (by kernel_rfl) (by kernel_rfl) (by kernel_rfl) (fun _ _ _ h => h) (.inl ⟨by rfl, ?_⟩) (by assumption) ?_
  rotate_left
  · (intro w9 hS9; (try dsimp only at hS9); go_simp; try with_reducible rfl)
  try simp only [Act.put, List.setIfInBounds_toArray, List.set_cons_zero, List.set_cons_succ]
  refine Rnd.take (i := 8) (v := ?_) rfl (by kernel_rfl) (by kernel_rfl) (by kernel_rfl) (fun _ _ _ h => h) (.inl ⟨by rfl, ?_⟩) (by assumption) ?_
  rotate_left
  · (intro w9 hS9; (try dsimp only at hS9); go_simp; try with_reducible rfl)
  try simp only [Act.put, List.setIfInBounds_toArray, List.set_cons_zero, List.set_cons_succ]
  refine wpAnyH_done (by kernel_rfl) ?_ _
  have HXwE := Lib.hid (below_kept hd2 HXwC.out (lt_of_heap HXwC.out))
  have HWwE : Hid (Below w.heap.size w wE) := below_next HWwC.out hd2
  have HDwE : Hid (Below w1.heap.size w1 wE) := below_next HDwC.out hd2
  have HBwE : Hid (Below w2.heap.size w2 wE) := below_next HBwC.out hd2
  have HEwE : Hid (Below wB.heap.size wB wE) := below_next HEwC.out hd2
  clear hd0 hd1 hd2 hbA hbE hv4 hcq hcq2 HCwC
  clear x0wC x1wC
  have HRU := Lib.hid (running_is po s2 n co wE HL2.out (HO1.out.below HDwE.out (Nat.le_refl _)).at.1 (fun s hs => ⟨((HO1.out.2 s hs).n).1, H42.out s hs⟩) (by omega))
  go_wp2_with (go_at_call 21; refine HRU.out.mono ?_)
  first | rintro e wF v tr rfl hot hvt hbF | rintro e wF v rfl tr hot hvt hbF | rintro e wF ⟨⟨v, tr, rfl, hot, hvt⟩, hbF⟩
  obtain ⟨pr, cr, rfl⟩ := hot.form
  obtain ⟨n5, hn5⟩ : ∃ n5, tr.length = n5 := ⟨_, rfl⟩
  rw [hn5] at hot ⊢
  have hn5s : n5 ≤ n := by have h1 := congrArg List.length hvt; rw [List.length_map] at h1; unfold Po.runs at h1; rw [List.length_map] at h1; have h2 := List.length_filter_le (fun s : Po.V => !s.2.2.2.2) (s2.map Sl.view); rw [List.length_map, HL2.out] at h2; omega
  have HXwF := Lib.hid (below_kept hbF HXwE.out (lt_of_heap HXwE.out))
  have HWwF : Hid (Below w.heap.size w wF) := below_next HWwE.out hbF
  have HDwF : Hid (Below w1.heap.size w1 wF) := below_next HDwE.out hbF
  have HBwF : Hid (Below w2.heap.size w2 wF) := below_next HBwE.out hbF
  have HEwF : Hid (Below wB.heap.size wB wF) := below_next HEwE.out hbF
  have HOT : Hid (OwnTs wE.heap.size (.slice pr n5 cr) tr wF) := hot
  have HVT : Hid (tr.map Po.tv = Po.runs (ss.map Sl.view)) := by rw [← HV2.out]; exact hvt
  have HN5 := Lib.hid hn5
  have HF0 : Hid (Below wF.heap.size wF wF) := Below.refl _ _
  have HZwF := HF0
  clear hot hvt hn5 hbF HRU
  have hn4s : n4 ≤ 40 := by have h1 := congrArg List.length HS4.out; rw [List.length_map] at h1; have := HN4.out; omega
  have hn3s : n3 ≤ 40 := by have h1 := congrArg List.length HS3.out; rw [List.length_map] at h1; have := HN3.out; omega
  have HTU := Lib.hid (turned_is p4 s4 n4 c4 wF HN4.out ((HR4.out.below HEwF.out (Nat.le_refl _)).lies rsOk) (by omega))
  go_wp2_with (go_at_call 41; refine HTU.out.mono ?_)
  first | rintro e w6 v rfl hv6 hb6 | rintro e w6 ⟨⟨v, rfl, hv6⟩, hb6⟩
  obtain ⟨p6, c6, rfl, _⟩ := hv6.shape
  rw [HN4.out] at hv6 ⊢
  have HXw6 := Lib.hid (below_kept hb6 HXwF.out (lt_of_heap HXwF.out))
  have HWw6 : Hid (Below w.heap.size w w6) := below_next HWwF.out hb6
  have HDw6 : Hid (Below w1.heap.size w1 w6) := below_next HDwF.out hb6
  have HBw6 : Hid (Below w2.heap.size w2 w6) := below_next HBwF.out hb6
  have HEw6 : Hid (Below wB.heap.size wB w6) := below_next HEwF.out hb6
  have HZw6 : Hid (Below wF.heap.size wF w6) := below_next HZwF.out hb6
  have HS1 := Lib.hid (same35_is p3 p6 s3 s4 n3 n4 c3 c6 (HS3.out.trans HS4.out.symm) w6 HN3.out HN4.out ⟨(HR3.out.below HBw6.out (Nat.le_refl _)).lies slOk, fun s hs => ((HT3.out s hs).below HBw6.out (Nat.le_refl _)).at⟩ ⟨hv6.lies slOk, fun s hs => (HA.out.2 s (HI4.out s hs)).below HWw6.out (Nat.le_refl _)⟩ (fun s hs => (HT3.out s hs).n) (fun s hs => (HF.out s (HI4.out s hs)).2.1) (by omega))
  clear hv6 hb6 HTU
  have qr : (er != er) = false := by simp
  have qi : (ix != ix) = false := by simp
  have qq : (is != is) = false := by simp
  go_wp2_with (go_at_call 22; refine HS1.out.mono ?_)
  first | rintro e w7 rfl hb7 | rintro e w7 ⟨rfl, hb7⟩
  have HXw7 := Lib.hid (below_kept hb7 HXw6.out (lt_of_heap HXw6.out))
  have HWw7 : Hid (Below w.heap.size w w7) := below_next HWw6.out hb7
  have HDw7 : Hid (Below w1.heap.size w1 w7) := below_next HDw6.out hb7
  have HBw7 : Hid (Below w2.heap.size w2 w7) := below_next HBw6.out hb7
  have HEw7 : Hid (Below wB.heap.size wB w7) := below_next HEw6.out hb7
  have HZw7 : Hid (Below wF.heap.size wF w7) := below_next HZw6.out hb7
  clear hb7 HS1
  go_wp2_with (go_at_call 40; refine (HTH.out _ (HA.out.below HWw7.out (Nat.le_refl _)).1).mono ?_)
  first | rintro e wa v rfl hv4 hba | rintro e wa ⟨⟨v, rfl, hv4⟩, hba⟩
  obtain ⟨pa, ca, rfl, _⟩ := hv4.shape
  rw [HN.out] at hv4 ⊢
  have HXwa := Lib.hid (below_kept hba HXw7.out (lt_of_heap HXw7.out))
  have HWwa : Hid (Below w.heap.size w wa) := below_next HWw7.out hba
  have HDwa : Hid (Below w1.heap.size w1 wa) := below_next HDw7.out hba
  have HBwa : Hid (Below w2.heap.size w2 wa) := below_next HBw7.out hba
  have HEwa : Hid (Below wB.heap.size wB wa) := below_next HEw7.out hba
  have HZwa : Hid (Below wF.heap.size wF wa) := below_next HZw7.out hba
  have HRR := Lib.hid (rrunning_is pa ss n ca wa HN.out ⟨hv4.lies rsOk, fun s hs => (HA.out.2 s hs).below HWwa.out (Nat.le_refl _)⟩ (by omega))
  clear hv4 hba
  go_wp2_with (go_at_call 47; refine HRR.out.mono ?_)
  first | rintro e wb v rfl hrr hbb | rintro e wb ⟨⟨v, rfl, hrr⟩, hbb⟩
  obtain ⟨pb, cb, rfl, _⟩ := hrr.shape
  have hj := HVT.out.trans (Po.runs_sl ss).symm
  have hlb : ((ss.filter fun s => !s.en).map Sl.t).length = n5 := by have h1 := congrArg List.length hj; rw [List.length_map, List.length_map] at h1; have := HN5.out; omega
  rw [hlb] at hrr ⊢
  have HXwb := Lib.hid (below_kept hbb HXwa.out (lt_of_heap HXwa.out))
  have HWwb : Hid (Below w.heap.size w wb) := below_next HWwa.out hbb
  have HDwb : Hid (Below w1.heap.size w1 wb) := below_next HDwa.out hbb
  have HBwb : Hid (Below w2.heap.size w2 wb) := below_next HBwa.out hbb
  have HEwb : Hid (Below wB.heap.size wB wb) := below_next HEwa.out hbb
  have HZwb : Hid (Below wF.heap.size wF wb) := below_next HZwa.out hbb
  have hsub : ∀ t ∈ (ss.filter fun s => !s.en).map Sl.t, ∃ s ∈ ss, s.t = t := fun t ht => by obtain ⟨s, hs, rfl⟩ := List.mem_map.1 ht; exact ⟨s, (List.mem_filter.1 hs).1, rfl⟩
  have HE2 := Lib.hid (sametargets_gen pr pb tr ((ss.filter fun s => !s.en).map Sl.t) n5 cr cb wb HN5.out hlb (HOT.out.below HZwb.out (Nat.le_refl _)).pos.1 (OwnR.tgAtE hrr fun t ht => by obtain ⟨s, hs, rfl⟩ := hsub t ht; exact (HA.out.2 s hs).below HWwb.out (Nat.le_refl _)).pos (by exact hj) (fun t ht => by have h9 : OwnT wE.heap.size t wF := HOT.out.2 t ht; have h8 := h9.n; exact ⟨h8.1, by omega⟩) (fun t ht => by obtain ⟨s, hs, rfl⟩ := hsub t ht; exact (HF.out s hs).2.1) (by omega))
  clear hrr hbb HRR hj hlb hsub
  go_wp2_with (go_at_call 20; refine HE2.out.mono ?_)
  first | rintro e wg rfl hbg | rintro e wg ⟨rfl, hbg⟩
  have HXwg := Lib.hid (below_kept hbg HXwb.out (lt_of_heap HXwb.out))
  have HWwg : Hid (Below w.heap.size w wg) := below_next HWwb.out hbg
  have HDwg : Hid (Below w1.heap.size w1 wg) := below_next HDwb.out hbg
  have HBwg : Hid (Below w2.heap.size w2 wg) := below_next HBwb.out hbg
  have HEwg : Hid (Below wB.heap.size wB wg) := below_next HEwb.out hbg
  have HZwg : Hid (Below wF.heap.size wF wg) := below_next HZwb.out hbg
  clear hbg HE2
  have HR3b : Hid (OwnR slR w1.heap.size (.slice p3 n3 c3) s3 wg) := HR3.out.below HBwg.out (Nat.le_refl _)
  have HSP := Lib.hid (spoil35_is w1.heap.size w1.heap.size p3 s3 n3 c3 wg HN3.out HR3b.out (fun s hs => ⟨((HT3.out s hs).below HBwg.out (Nat.le_refl _)).wr, ((HT3.out s hs).below HBwg.out (Nat.le_refl _)).base⟩) HDwg.out.size (by omega) (fun s hs => (HT3.out s hs).n.2))
  go_wp2_with (go_at_call 43; refine HSP.out.mono ?_)
  first | rintro e wc rfl hsc | rintro e wc ⟨rfl, hsc⟩
  have HDwc : Hid (Below w1.heap.size w1 wc) := HDwg.out.trans hsc.below
  have hle : w2.heap.size ≤ wE.heap.size := HBwE.out.size
  have HTc : Hid (OwnTs wE.heap.size (.slice pr n5 cr) tr wc) := (HOT.out.below HZwg.out (Nat.le_refl _)).spo (fun t ht u hu g hg e => by
    obtain ⟨s, hs, rfl⟩ := List.mem_map.1 hu
    have h8 : OwnT wE.heap.size t wF := HOT.out.2 t ht
    have h7 := h8.base g e
    rcases (HT3.out s hs).block with h6 | ⟨g2, h6, h5⟩
    · rw [h6] at hg; cases hg
    · rw [h6] at hg
      simp only [Option.some.injEq, Addr.mk.injEq, and_true] at hg
      omega) hsc
  clear hsc HSP
  have hle2 : w1.heap.size ≤ wE.heap.size := HDwE.out.size
  have HST := Lib.hid (spoil_is w1.heap.size (.slice pr n5 cr) tr wc (HTc.out.lift hle2) HDwc.out.size (by have := HN5.out; omega))
  go_wp2_with (go_at_call 48; refine HST.out.mono ?_)
  first | rintro e wd rfl hbd | rintro e wd ⟨rfl, hbd⟩
  have HDwd : Hid (Below w1.heap.size w1 wd) := HDwc.out.trans hbd
  have HWwd : Hid (Below w.heap.size w wd) := HW1.out.trans (HDwd.out.mono HW1.out.size)
  clear hbd HST
  have HE1 := Lib.hid (same35_is po p s2 ss n n co c HV2.out wd HL2.out HN.out (HO1.out.below HDwd.out (Nat.le_refl _)).at.1 (HA.out.below HWwd.out (Nat.le_refl _)) (fun s hs => (HO1.out.2 s hs).n) (fun s hs => (HF.out s hs).2.1) (by omega))
  go_wp2_with (go_at_call 22; refine HE1.out.mono ?_)
  first | rintro e wf rfl hbf | rintro e wf ⟨rfl, hbf⟩
  have hbz : Below w.heap.size w wf := below_next HWwd.out hbf
  clear hbf HE1
  go_wp2_with fail
  go_ret
  exact ⟨rfl, hbz⟩
end Go.Proofs.Ytpnpgjjbincigaa
