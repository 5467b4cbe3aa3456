/- Contract of gaugerlaw35.copied; stores to a row of slots. -/
import Derived.Test.YtpnpgjjbincigaaPRun
import Derived.Test.YtpnpgjjbincigaaSpoilT
namespace Go.Proofs.Ytpnpgjjbincigaa
open Go.RowKit
set_option linter.unusedVariables false

theorem OwnR.setB {α : Type} {R : Rec α} {B g i : Nat} {v u : Value} {l : List α} {w : World} (h : OwnR R B v l w) (hne : v.ownBlock ≠ some g) : OwnR R B v l (w.setCell ⟨g, i, none⟩ u) := by
  obtain ⟨h1, h2⟩ := h
  refine ⟨h1, ?_⟩
  rcases h2 with h2 | ⟨g', cap, cur, hv, hg, hh, r⟩
  · exact .inl h2
  · refine .inr ⟨g', cap, cur, hv, hg, (heap_setCell_other w ⟨g, i, none⟩ g' u ?_).trans hh, r⟩
    intro e
    subst hv
    exact hne (by rw [e]; rfl)
set_option maxHeartbeats 3200000 in
set_option maxRecDepth 100000 in
theorem lcopied_is (p : Option Addr) (ss : List Sl) (n c : Nat) (w : World) (hn : ss.length = n) (hA : Po.At p ss w) (hF : ∀ s ∈ ss, s.t.ls.length = s.t.n ∧ s.t.n ≤ 4398046511104 ∧ (s.t.p = none → s.t.c = 0)) (hl : n ≤ 1000000) :
    Calls Try.prog 24 #[.slice p n c] w fun e w' => (∃ v s2, e = .returned v ∧ Po.Own w.heap.size v s2 w' ∧ s2.map Sl.view = ss.map Sl.view) ∧ Below w.heap.size w w' := by
  have HN := Lib.hid hn
  have HA := Lib.hid hA
  have HF := Lib.hid hF
  clear hn hA hF
  go_enter Try.func24, Try.ntmps24
  go_wp2_with fail
  go_loopw [3, 8] (fun v i wr => ∃ (k : Nat) (s2 : List Sl), k ≤ n ∧ i = .int .i64 (k : Int) ∧ Hid (Po.Own w.heap.size v s2 wr) ∧ Hid (s2.map Sl.view = (ss.take k).map Sl.view) ∧ Hid (s2.length = k) ∧ Hid (Below w.heap.size w wr)) (fun _ i _ => n - (intOf i).toNat)
  case atStart => exact ⟨0, [], Nat.zero_le _, rfl, Po.Own.nil _ _, rfl, rfl, Below.refl _ _⟩
  case round =>
    obtain ⟨wj, rfl⟩ : ∃ wo : World, wo = wr := ⟨_, rfl⟩
    obtain ⟨k, s2, hk, rfl, HO, HV, HL, HB⟩ := hrel
    have hsz := HB.out.size
    obtain ⟨pv, cv, rfl, hcv1, hcv2⟩ := HO.out.form
    by_cases hlt : k < n
    · have hkl : k < ss.length := by rw [HN.out]; exact hlt
      obtain ⟨b, o, rfl, hc⟩ := (HA.out).cells (by omega)
      obtain ⟨d0, d1, d2, d3, d4⟩ := hc k hkl
      have hb : b < w.heap.size := World.block_lt_of_cell? _ _ d0
      have hbj : b < wj.heap.size := by omega
      replace d0 := (HB.out.cell (p := ⟨b, o + k * 5, none⟩) hb).trans d0
      replace d1 := (HB.out.cell (p := ⟨b, o + k * 5 + 1, none⟩) hb).trans d1
      replace d2 := (HB.out.cell (p := ⟨b, o + k * 5 + 2, none⟩) hb).trans d2
      replace d3 := (HB.out.cell (p := ⟨b, o + k * 5 + 3, none⟩) hb).trans d3
      replace d4 := (HB.out.cell (p := ⟨b, o + k * 5 + 4, none⟩) hb).trans d4
      have hls := (HA.out.2 ss[k] (List.getElem_mem _)).below HB.out (Nat.le_refl _)
      obtain ⟨f1, f2, f3⟩ := HF.out ss[k] (List.getElem_mem _)
      have hst : (ss.take (k + 1)).map Sl.view = s2.map Sl.view ++ [Sl.view ss[k]] := by
        rw [List.take_add_one, List.getElem?_eq_getElem hkl, List.map_append, HV.out]; rfl
      obtain ⟨s, hs⟩ : ∃ s, ss[k] = s := ⟨_, rfl⟩
      rw [hs] at d0 d1 d2 d3 d4 hls f1 f2 f3 hst
      have HST := Lib.hid hst
      obtain ⟨⟨sj, sp, sn, sc, sl⟩, ev, ti, en⟩ := s
      dsimp only at d0 d1 d2 d3 d4 hls f1 f2 f3
      have n1 : (0 : Int) ≤ (k : Int) := by omega
      have n2 : (k : Int) < (n : Int) := by omega
      have hls2 := hls.alloc (.cells #[.string sj, .slice sp sn sc, .int .i64 ev, .int .i64 ti, .bool en] 33)
      have HCL := Lib.hid (copylabels_is sp sl sn sc _ f1 hls2 f3 f2)
      have kx := alloc_new wj (.cells #[.string sj, .slice sp sn sc, .int .i64 ev, .int .i64 ti, .bool en] 33)
      have KX := Lib.hid kx
      have HBA : Hid (Below wj.heap.size wj (wj.alloc (.cells #[.string sj, .slice sp sn sc, .int .i64 ev, .int .i64 ti, .bool en] 33))) := (Below.refl _ _).alloc (Nat.le_refl _) _
      have HF1 := Lib.hid f1
      clear hs hc hst hls hls2 kx HV f1 f3
      go_wp2_with (go_at_call 55; refine HCL.out.mono ?_)
      first | rintro e w7 v rfl hv hb7 | rintro e w7 ⟨⟨v, rfl, hv⟩, hb7⟩
      obtain ⟨q, d, rfl, _⟩ := OwnLabels.open hv
      rw [HF1.out] at hv ⊢
      have k7 := below_kept hb7 KX.out (by simp)
      have x0 : w7.cell? ⟨wj.heap.size, 0, none⟩ = some (.string sj) := by rw [Lib.cell_of_heap k7]; rfl
      have x1 : w7.cell? ⟨wj.heap.size, 1, none⟩ = some (.slice sp sn sc) := by rw [Lib.cell_of_heap k7]; rfl
      have x2 : w7.cell? ⟨wj.heap.size, 2, none⟩ = some (.int .i64 ev) := by rw [Lib.cell_of_heap k7]; rfl
      have x3 : w7.cell? ⟨wj.heap.size, 3, none⟩ = some (.int .i64 ti) := by rw [Lib.cell_of_heap k7]; rfl
      have x4 : w7.cell? ⟨wj.heap.size, 4, none⟩ = some (.bool en) := by rw [Lib.cell_of_heap k7]; rfl
      have xf := Lib.frozen_of_heap k7 1
      have hlt7 : wj.heap.size < w7.heap.size := lt_of_heap k7
      have hbx : Below wj.heap.size wj w7 := HBA.out.trans (hb7.mono (by simp))
      have HO7 : Hid (Po.Own w.heap.size (.slice pv s2.length cv) s2 w7) := HO.out.below hbx (Nat.le_refl _)
      have hT : OwnT w.heap.size ⟨sj, q, sn, d, sl⟩ w7 := ⟨HF1.out, row_lift hv (by simp; omega)⟩
      obtain ⟨W, hW⟩ : ∃ W, W = w7.setCell ⟨wj.heap.size, 1, none⟩ (.slice q sn d) := ⟨_, rfl⟩
      have hkW := heap_setCell_same w7 wj.heap.size 1 _ _ (.slice q sn d) k7
      have y0 : W.cell? ⟨wj.heap.size, 0, none⟩ = some (.string sj) := by rw [hW, Lib.cell_of_heap hkW]; rfl
      have y1 : W.cell? ⟨wj.heap.size, 1, none⟩ = some (.slice q sn d) := by rw [hW, Lib.cell_of_heap hkW]; rfl
      have y2 : W.cell? ⟨wj.heap.size, 2, none⟩ = some (.int .i64 ev) := by rw [hW, Lib.cell_of_heap hkW]; rfl
      have y3 : W.cell? ⟨wj.heap.size, 3, none⟩ = some (.int .i64 ti) := by rw [hW, Lib.cell_of_heap hkW]; rfl
      have y4 : W.cell? ⟨wj.heap.size, 4, none⟩ = some (.bool en) := by rw [hW, Lib.cell_of_heap hkW]; rfl
      have HTW : Hid (OwnT w.heap.size ⟨sj, q, sn, d, sl⟩ W) := by rw [hW]; exact hT.setT k7 (by decide)
      have hown : ∀ g, (Value.slice pv s2.length cv).ownBlock = some g → g < wj.heap.size := fun g hg => (HO.out.1.own_lt g hg).2
      have HOW : Hid (Po.Own w.heap.size (.slice pv s2.length cv) s2 W) := by
        rw [hW]
        exact ⟨HO7.out.1.setB fun e => by have := hown _ e; omega, fun s hs => (HO7.out.2 s hs).setT k7 (by decide)⟩
      have HBW : Hid (Below w.heap.size w W) := by
        rw [hW]
        exact (HB.out.trans (hbx.mono hsz)).setCell (p := ⟨wj.heap.size, 1, none⟩) hsz _
      have hsW := HBW.out.size
      have HWE := Lib.hid hW
      clear hv hb7 k7 hbx hT hown hW hkW HBA KX HCL HO7
      go_wp2_with (first | (rw [← HWE.out]) | (at_builtin; refine wpList_pushRec slOk 22 Try.underlying22 rfl _ _ rfl w.heap.size _ s2 W rfl (by exact HOW.out.1) ⟨⟨sj, q, sn, d, sl⟩, ev, ti, en⟩ _ _ rfl _ rfl rfl ?_ ?_ ?_))
      · have := HL.out; omega
      · exact hsW
      intro v8 w8 hro8 hg8
      have HO8 : Hid (Po.Own w.heap.size v8 (s2 ++ [(⟨⟨sj, q, sn, d, sl⟩, ev, ti, en⟩ : Sl)]) w8) := Po.Own.push HOW.out ((Below.refl _ _).alloc (Nat.le_refl _) _) ⟨⟨sj, q, sn, d, sl⟩, ev, ti, en⟩ (HTW.out.below ((Below.refl _ _).alloc (Nat.le_refl _) _) (Nat.le_refl _)) hro8 hg8
      have hb8 : Below w.heap.size w w8 := (HBW.out.alloc hsW _).grown hg8 (by simp; omega) (fun j hj => (World.ownsRow.lt HOW.out.1 j hj).1)
      go_wp2_with fail
      go_roundw
      case rel => exact ⟨k + 1, s2 ++ [(⟨⟨sj, q, sn, d, sl⟩, ev, ti, en⟩ : Sl)], by omega, by go_num, HO8.out, (by show _ = _; rw [HST.out, List.map_append]; rfl), (by show _ = _; rw [List.length_append, HL.out]; rfl), hb8⟩
      case measure => simp [intOf]; omega
    · have n2 : (n : Int) ≤ (k : Int) := by omega
      have hV := HV.out
      rw [List.take_of_length_le (by rw [HN.out]; omega)] at hV
      go_wp2_with fail
      go_ret
      exact ⟨⟨_, s2, rfl, HO.out, hV⟩, HB.out⟩
end Go.Proofs.Ytpnpgjjbincigaa
