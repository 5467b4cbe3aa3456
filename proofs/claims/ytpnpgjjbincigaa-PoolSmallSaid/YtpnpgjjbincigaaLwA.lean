/- Contracts of gaugerlaw35: Theirs, Turned, spoil. (Printed by gen_lwa.py.) -/
import Derived.Test.YtpnpgjjbincigaaRfC
import Derived.Test.YtpnpgjjbincigaaCpd
namespace Go.Proofs.Ytpnpgjjbincigaa
open Go.RowKit
set_option linter.unusedVariables false

set_option maxHeartbeats 1600000 in
set_option maxRecDepth 100000 in
theorem theirs_is (p : Option Addr) (ss : List Sl) (n c : Nat) (w : World) (hn : ss.length = n) (hA : slR.Lies p ss w) (hl : n ≤ 1000000) :
    Calls Try.prog 40 #[.slice p n c] w fun e w' => (∃ v, e = .returned v ∧ OwnR rsR w.heap.size v ss w') ∧ Below w.heap.size w w' := by
  have HN := Lib.hid hn
  have HA := Lib.hid hA
  clear hn hA
  go_enter Try.func40, Try.ntmps40
  go_wp2_with fail
  go_loopw [3, 8] (fun v i wr => ∃ k : Nat, k ≤ n ∧ i = .int .i64 (k : Int) ∧ Hid (OwnR rsR w.heap.size v (ss.take k) wr) ∧ Hid (Below w.heap.size w wr)) (fun _ i _ => n - (intOf i).toNat)
  case atStart => exact ⟨0, Nat.zero_le _, rfl, OwnR.nil _ _ _, Below.refl _ _⟩
  case round =>
    obtain ⟨wj, rfl⟩ : ∃ wo : World, wo = wr := ⟨_, rfl⟩
    obtain ⟨k, hk, rfl, HO, HB⟩ := hrel
    have hsz := HB.out.size
    by_cases hlt : k < n
    · have hk1 : k < ss.length := by rw [HN.out]; exact hlt
      have m1 : (0 : Int) ≤ (k : Int) := by omega
      have m2 : (k : Int) < (n : Int) := by omega
      have hL : slR.Lies p ss wj := HA.out.below slOk HB.out (Nat.le_refl _)
      rcases hL with h0 | ⟨b0, o0, rfl, hcl⟩
      · rw [h0] at hk1; cases hk1
      have d0 : wj.cell? ⟨b0, o0 + k * 5, none⟩ = _ := hcl k hk1 0 (by decide)
      have d1 : wj.cell? ⟨b0, o0 + k * 5 + 1, none⟩ = _ := hcl k hk1 1 (by decide)
      have d2 : wj.cell? ⟨b0, o0 + k * 5 + 2, none⟩ = _ := hcl k hk1 2 (by decide)
      have d3 : wj.cell? ⟨b0, o0 + k * 5 + 3, none⟩ = _ := hcl k hk1 3 (by decide)
      have d4 : wj.cell? ⟨b0, o0 + k * 5 + 4, none⟩ = _ := hcl k hk1 4 (by decide)
      have htk : ss.take (k + 1) = ss.take k ++ [ss[k]] := by rw [List.take_add_one, List.getElem?_eq_getElem hk1]; rfl
      have hlen : (ss.take k).length + 1 ≤ 1000000000 := by rw [List.length_take]; omega
      obtain ⟨s, hs⟩ : ∃ s, ss[k] = s := ⟨_, rfl⟩
      rw [hs] at d0 d1 d2 d3 d4 htk
      obtain ⟨⟨sj, sp, sn, sc, sl⟩, ev, ti, en⟩ := s
      replace d0 : wj.cell? ⟨b0, o0 + k * 5, none⟩ = some (.string sj) := d0
      replace d1 : wj.cell? ⟨b0, o0 + k * 5 + 1, none⟩ = some (.slice sp sn sc) := d1
      replace d2 : wj.cell? ⟨b0, o0 + k * 5 + 2, none⟩ = some (.int .i64 ev) := d2
      replace d3 : wj.cell? ⟨b0, o0 + k * 5 + 3, none⟩ = some (.int .i64 ti) := d3
      replace d4 : wj.cell? ⟨b0, o0 + k * 5 + 4, none⟩ = some (.bool en) := d4
      have HX := Lib.hid htk
      obtain ⟨U, hU⟩ : ∃ U, U = wj.alloc (.cells #[.string sj, .slice sp sn sc, .int .i64 ev, .int .i64 ti, .bool en] 33) := ⟨_, rfl⟩
      have hbU : Below wj.heap.size wj U := by rw [hU]; exact (Below.refl _ _).alloc (Nat.le_refl _) _
      have HOU : Hid (OwnR rsR w.heap.size _ (ss.take k) U) := HO.out.below hbU (Nat.le_refl _)
      have HBU : Hid (Below w.heap.size w U) := below_next HB.out hbU
      have hsU := HBU.out.size
      have HUU := Lib.hid hU
      have hkU : U.heap[wj.heap.size]? = some (.cells #[.string sj, .slice sp sn sc, .int .i64 ev, .int .i64 ti, .bool en] 33) := by rw [hU]; exact alloc_new _ _
      have y0 : U.cell? ⟨wj.heap.size, 0, none⟩ = some (.string sj) := by rw [Lib.cell_of_heap hkU]; rfl
      have y1 : U.cell? ⟨wj.heap.size, 1, none⟩ = some (.slice sp sn sc) := by rw [Lib.cell_of_heap hkU]; rfl
      have y2 : U.cell? ⟨wj.heap.size, 2, none⟩ = some (.int .i64 ev) := by rw [Lib.cell_of_heap hkU]; rfl
      have y3 : U.cell? ⟨wj.heap.size, 3, none⟩ = some (.int .i64 ti) := by rw [Lib.cell_of_heap hkU]; rfl
      have y4 : U.cell? ⟨wj.heap.size, 4, none⟩ = some (.bool en) := by rw [Lib.cell_of_heap hkU]; rfl
      have yl : wj.heap.size < U.heap.size := lt_of_heap hkU
      clear hkU
      clear hs hcl htk hU hbU
      go_wp2_with (first | (rw [← HUU.out]) | (at_builtin; refine wpList_pushRec rsOk 71 Try.underlying71 rfl _ _ rfl w.heap.size _ (ss.take k) U rfl (by exact HOU.out) ⟨⟨sj, sp, sn, sc, sl⟩, ev, ti, en⟩ _ _ rfl _ rfl (by first | rfl | (rw [HUU.out]; simp)) hlen hsU ?_))
      intro v8 w8 hro8 hg8
      have hb8 : Below w.heap.size w w8 := (HBU.out.alloc hsU _).grown hg8 (by simp; omega) (fun j hj => (World.ownsRow.lt HOU.out j hj).1)
      go_wp2_with fail
      go_roundw
      case rel => exact ⟨k + 1, by omega, by go_num, (by show OwnR _ _ _ _ _; rw [HX.out]; exact hro8), hb8⟩
      case measure => simp [intOf]; omega
    · have n2 : (n : Int) ≤ (k : Int) := by omega
      have hv := HO.out
      rw [List.take_of_length_le (by rw [HN.out]; omega)] at hv
      have HV := Lib.hid hv
      clear hv
      go_wp2_with fail
      go_ret
      exact ⟨⟨_, rfl, HV.out⟩, HB.out⟩

set_option maxHeartbeats 1600000 in
set_option maxRecDepth 100000 in
theorem turned_is (p : Option Addr) (ss : List Sl) (n c : Nat) (w : World) (hn : ss.length = n) (hA : slR.Lies p ss w) (hl : n ≤ 1000000) :
    Calls Try.prog 41 #[.slice p n c] w fun e w' => (∃ v, e = .returned v ∧ OwnR slR w.heap.size v ss w') ∧ Below w.heap.size w w' := by
  have HN := Lib.hid hn
  have HA := Lib.hid hA
  clear hn hA
  go_enter Try.func41, Try.ntmps41
  go_wp2_with fail
  go_loopw [3, 8] (fun v i wr => ∃ k : Nat, k ≤ n ∧ i = .int .i64 (k : Int) ∧ Hid (OwnR slR w.heap.size v (ss.take k) wr) ∧ Hid (Below w.heap.size w wr)) (fun _ i _ => n - (intOf i).toNat)
  case atStart => exact ⟨0, Nat.zero_le _, rfl, OwnR.nil _ _ _, Below.refl _ _⟩
  case round =>
    obtain ⟨wj, rfl⟩ : ∃ wo : World, wo = wr := ⟨_, rfl⟩
    obtain ⟨k, hk, rfl, HO, HB⟩ := hrel
    have hsz := HB.out.size
    by_cases hlt : k < n
    · have hk1 : k < ss.length := by rw [HN.out]; exact hlt
      have m1 : (0 : Int) ≤ (k : Int) := by omega
      have m2 : (k : Int) < (n : Int) := by omega
      have hL : slR.Lies p ss wj := HA.out.below slOk HB.out (Nat.le_refl _)
      rcases hL with h0 | ⟨b0, o0, rfl, hcl⟩
      · rw [h0] at hk1; cases hk1
      have d0 : wj.cell? ⟨b0, o0 + k * 5, none⟩ = _ := hcl k hk1 0 (by decide)
      have d1 : wj.cell? ⟨b0, o0 + k * 5 + 1, none⟩ = _ := hcl k hk1 1 (by decide)
      have d2 : wj.cell? ⟨b0, o0 + k * 5 + 2, none⟩ = _ := hcl k hk1 2 (by decide)
      have d3 : wj.cell? ⟨b0, o0 + k * 5 + 3, none⟩ = _ := hcl k hk1 3 (by decide)
      have d4 : wj.cell? ⟨b0, o0 + k * 5 + 4, none⟩ = _ := hcl k hk1 4 (by decide)
      have htk : ss.take (k + 1) = ss.take k ++ [ss[k]] := by rw [List.take_add_one, List.getElem?_eq_getElem hk1]; rfl
      have hlen : (ss.take k).length + 1 ≤ 1000000000 := by rw [List.length_take]; omega
      obtain ⟨s, hs⟩ : ∃ s, ss[k] = s := ⟨_, rfl⟩
      rw [hs] at d0 d1 d2 d3 d4 htk
      obtain ⟨⟨sj, sp, sn, sc, sl⟩, ev, ti, en⟩ := s
      replace d0 : wj.cell? ⟨b0, o0 + k * 5, none⟩ = some (.string sj) := d0
      replace d1 : wj.cell? ⟨b0, o0 + k * 5 + 1, none⟩ = some (.slice sp sn sc) := d1
      replace d2 : wj.cell? ⟨b0, o0 + k * 5 + 2, none⟩ = some (.int .i64 ev) := d2
      replace d3 : wj.cell? ⟨b0, o0 + k * 5 + 3, none⟩ = some (.int .i64 ti) := d3
      replace d4 : wj.cell? ⟨b0, o0 + k * 5 + 4, none⟩ = some (.bool en) := d4
      have HX := Lib.hid htk
      obtain ⟨U, hU⟩ : ∃ U, U = wj.alloc (.cells #[.string sj, .slice sp sn sc, .int .i64 ev, .int .i64 ti, .bool en] 128) := ⟨_, rfl⟩
      have hbU : Below wj.heap.size wj U := by rw [hU]; exact (Below.refl _ _).alloc (Nat.le_refl _) _
      have HOU : Hid (OwnR slR w.heap.size _ (ss.take k) U) := HO.out.below hbU (Nat.le_refl _)
      have HBU : Hid (Below w.heap.size w U) := below_next HB.out hbU
      have hsU := HBU.out.size
      have HUU := Lib.hid hU
      have hkU : U.heap[wj.heap.size]? = some (.cells #[.string sj, .slice sp sn sc, .int .i64 ev, .int .i64 ti, .bool en] 128) := by rw [hU]; exact alloc_new _ _
      have y0 : U.cell? ⟨wj.heap.size, 0, none⟩ = some (.string sj) := by rw [Lib.cell_of_heap hkU]; rfl
      have y1 : U.cell? ⟨wj.heap.size, 1, none⟩ = some (.slice sp sn sc) := by rw [Lib.cell_of_heap hkU]; rfl
      have y2 : U.cell? ⟨wj.heap.size, 2, none⟩ = some (.int .i64 ev) := by rw [Lib.cell_of_heap hkU]; rfl
      have y3 : U.cell? ⟨wj.heap.size, 3, none⟩ = some (.int .i64 ti) := by rw [Lib.cell_of_heap hkU]; rfl
      have y4 : U.cell? ⟨wj.heap.size, 4, none⟩ = some (.bool en) := by rw [Lib.cell_of_heap hkU]; rfl
      have yl : wj.heap.size < U.heap.size := lt_of_heap hkU
      clear hkU
      clear hs hcl htk hU hbU
      go_wp2_with (first | (rw [← HUU.out]) | (at_builtin; refine wpList_pushRec slOk 22 Try.underlying22 rfl _ _ rfl w.heap.size _ (ss.take k) U rfl (by exact HOU.out) ⟨⟨sj, sp, sn, sc, sl⟩, ev, ti, en⟩ _ _ rfl _ rfl (by first | rfl | (rw [HUU.out]; simp)) hlen hsU ?_))
      intro v8 w8 hro8 hg8
      have hb8 : Below w.heap.size w w8 := (HBU.out.alloc hsU _).grown hg8 (by simp; omega) (fun j hj => (World.ownsRow.lt HOU.out j hj).1)
      go_wp2_with fail
      go_roundw
      case rel => exact ⟨k + 1, by omega, by go_num, (by show OwnR _ _ _ _ _; rw [HX.out]; exact hro8), hb8⟩
      case measure => simp [intOf]; omega
    · have n2 : (n : Int) ≤ (k : Int) := by omega
      have hv := HO.out
      rw [List.take_of_length_le (by rw [HN.out]; omega)] at hv
      have HV := Lib.hid hv
      clear hv
      go_wp2_with fail
      go_ret
      exact ⟨⟨_, rfl, HV.out⟩, HB.out⟩

/-- labels that can be written over -/
def Po.Wr (t : Can.T) (w : World) : Prop := t.n = 0 ∨ ∃ g cur, t.p = some ⟨g, 0, none⟩ ∧ w.heap[g]? = some (.cells cur 37) ∧ t.n * 2 ≤ cur.size
theorem OwnT.wr {B : Nat} {t : Can.T} {w : World} (h : OwnT B t w) : Po.Wr t w := by
  obtain ⟨h0, h1, h2⟩ := h
  rcases h2 with ⟨_, h2⟩ | ⟨g, cap, cur, hv, _, hh, hn, _, hcs, _⟩
  · exact .inl (by omega)
  · simp only [Value.slice.injEq] at hv
    exact .inr ⟨g, cur, hv.1, hh, by have := Nat.mul_le_mul_right 2 hn; omega⟩
theorem OwnT.base {B : Nat} {t : Can.T} {w : World} (h : OwnT B t w) : ∀ g, t.p = some ⟨g, 0, none⟩ → B ≤ g := fun g hg => by
  obtain ⟨_, _, h2⟩ := h
  rcases h2 with ⟨h2, _⟩ | ⟨g', cap, cur, hv, hb, _⟩
  · simp only [Value.slice.injEq] at h2
    rw [h2.1] at hg; cases hg
  · simp only [Value.slice.injEq] at hv
    rw [hv.1] at hg
    simp only [Option.some.injEq, Addr.mk.injEq, and_true] at hg
    omega
/-- only labels of some targets are written over -/
structure Po.Spo (B : Nat) (L : List Can.T) (w w' : World) : Prop where
  below : Below B w w'
  keep : ∀ k cur T fz, w.heap[k]? = some (.cells cur T fz) → (T ≠ 37 ∨ ∀ t ∈ L, ∀ g, t.p = some ⟨g, 0, none⟩ → g ≠ k) → w'.heap[k]? = some (.cells cur T fz)
  wr : ∀ t, Po.Wr t w → Po.Wr t w'
theorem Po.Spo.refl (B : Nat) (L : List Can.T) (w : World) : Po.Spo B L w w := ⟨Below.refl _ _, fun _ _ _ _ h _ => h, fun _ h => h⟩
theorem Po.Wr.below {t : Can.T} {w w' : World} (h : Po.Wr t w) (hb : Below w.heap.size w w') : Po.Wr t w' := by
  rcases h with h | ⟨g, cur, h1, h2, h3⟩
  · exact .inl h
  · exact .inr ⟨g, cur, h1, (hb.block g (lt_of_heap h2)).trans h2, h3⟩
theorem Po.Spo.next {B : Nat} {L : List Can.T} {w a b : World} (h : Po.Spo B L w a) (hB : B ≤ a.heap.size) (hb : Below a.heap.size a b) : Po.Spo B L w b :=
  ⟨h.below.trans (hb.mono hB), fun k cur T fz hk hT => by
    have h1 := h.keep k cur T fz hk hT
    exact (hb.block k (lt_of_heap h1)).trans h1, fun t ht => (h.wr t ht).below hb⟩
theorem Po.Spo.set {B g i : Nat} {L : List Can.T} {w a : World} {cur : Array Value} {t : Can.T} (h : Po.Spo B L w a) (ht : t ∈ L) (hp : t.p = some ⟨g, 0, none⟩) (hg : B ≤ g) (hh : a.heap[g]? = some (.cells cur 37)) (v : Value) : Po.Spo B L w (a.setCell ⟨g, i, none⟩ v) := by
  refine ⟨h.below.setCell (p := ⟨g, i, none⟩) hg _, fun k cu T fz hk hT => ?_, fun u hu => ?_⟩
  · have h1 := h.keep k cu T fz hk hT
    rw [heap_setCell_other a ⟨g, i, none⟩ k v (fun e => ?_)]
    · exact h1
    · have e2 : k = g := e
      subst e2
      rw [hh] at h1
      rcases hT with hT | hT
      · simp at h1
        exact hT h1.2.1.symm
      · exact hT t ht k hp rfl
  · rcases h.wr u hu with h2 | ⟨g2, cu, h3, h4, h5⟩
    · exact .inl h2
    · refine .inr ?_
      by_cases e : g2 = g
      · subst e
        rw [hh] at h4
        simp at h4
        subst h4
        exact ⟨g2, _, h3, heap_setCell_same a g2 i _ _ v hh, by simpa using h5⟩
      · exact ⟨g2, cu, h3, by rw [heap_setCell_other a ⟨g, i, none⟩ g2 v e]; exact h4, h5⟩
theorem OwnR.spo {α : Type} {R : Rec α} {B B0 : Nat} {v : Value} {l : List α} {L : List Can.T} {w w' : World} (h : OwnR R B0 v l w) (hT : R.T ≠ 37) (hs : Po.Spo B L w w') : OwnR R B0 v l w' := by
  obtain ⟨h1, h2⟩ := h
  refine ⟨h1, ?_⟩
  rcases h2 with h2 | ⟨g, cap, cur, hv, hb, hh, r⟩
  · exact .inl h2
  · exact .inr ⟨g, cap, cur, hv, hb, hs.keep g cur R.T (0, 0) hh (.inl hT), r⟩

set_option maxHeartbeats 3200000 in
set_option maxRecDepth 100000 in
theorem spoil35_is (B B0 : Nat) (p : Option Addr) (ss : List Sl) (n c : Nat) (w : World) (hn : ss.length = n) (hA : OwnR slR B0 (.slice p n c) ss w) (hW : ∀ s ∈ ss, Po.Wr s.t w ∧ ∀ g, s.t.p = some ⟨g, 0, none⟩ → B ≤ g) (hB : B ≤ w.heap.size) (hl : n ≤ 1000000) (hl2 : ∀ s ∈ ss, s.t.n ≤ maxLen) :
    Calls Try.prog 43 #[.slice p n c] w fun e w' => e = .returned (.tuple #[]) ∧ Po.Spo B (ss.map Sl.t) w w' := by
  have HN := Lib.hid hn
  have HA := Lib.hid hA
  have HW := Lib.hid hW
  have HL2 := Lib.hid hl2
  clear hn hA hW hl2
  go_enter Try.func43, Try.ntmps43
  go_wp2_with fail
  go_loopw [7] (fun i wr => ∃ k : Nat, k ≤ n ∧ i = .int .i64 (k : Int) ∧ Hid (Po.Spo B (ss.map Sl.t) w wr)) (fun i _ => n - (intOf i).toNat)
  case atStart => exact ⟨0, Nat.zero_le _, rfl, Po.Spo.refl _ _ _⟩
  case round =>
    obtain ⟨wj, rfl⟩ : ∃ wo : World, wo = wr := ⟨_, rfl⟩
    obtain ⟨k, hk, rfl, HS⟩ := hrel
    have hsz := HS.out.below.size
    have hBj : B ≤ wj.heap.size := Nat.le_trans hB hsz
    by_cases hlt : k < n
    · have hk1 : k < ss.length := by rw [HN.out]; exact hlt
      have m1 : (0 : Int) ≤ (k : Int) := by omega
      have m2 : (k : Int) < (n : Int) := by omega
      have hL : slR.Lies p ss wj := (HA.out.spo (by decide) HS.out).lies slOk
      rcases hL with h0 | ⟨b0, o0, rfl, hcl⟩
      · rw [h0] at hk1; cases hk1
      have d0 : wj.cell? ⟨b0, o0 + k * 5, none⟩ = _ := hcl k hk1 0 (by decide)
      have d1 : wj.cell? ⟨b0, o0 + k * 5 + 1, none⟩ = _ := hcl k hk1 1 (by decide)
      have d2 : wj.cell? ⟨b0, o0 + k * 5 + 2, none⟩ = _ := hcl k hk1 2 (by decide)
      have d3 : wj.cell? ⟨b0, o0 + k * 5 + 3, none⟩ = _ := hcl k hk1 3 (by decide)
      have d4 : wj.cell? ⟨b0, o0 + k * 5 + 4, none⟩ = _ := hcl k hk1 4 (by decide)
      obtain ⟨hw1, hw2⟩ := HW.out ss[k] (List.getElem_mem _)
      have hl3 := HL2.out ss[k] (List.getElem_mem _)
      unfold maxLen at hl3
      have hmem : ss[k].t ∈ ss.map Sl.t := List.mem_map_of_mem (List.getElem_mem _)
      have hwj := HS.out.wr _ hw1
      obtain ⟨s, hs⟩ : ∃ s, ss[k] = s := ⟨_, rfl⟩
      rw [hs] at d0 d1 d2 d3 d4 hw2 hl3 hmem hwj
      obtain ⟨⟨sj, sp, sn, sc, sl⟩, ev, ti, en⟩ := s
      replace d0 : wj.cell? ⟨b0, o0 + k * 5, none⟩ = some (.string sj) := d0
      replace d1 : wj.cell? ⟨b0, o0 + k * 5 + 1, none⟩ = some (.slice sp sn sc) := d1
      replace d2 : wj.cell? ⟨b0, o0 + k * 5 + 2, none⟩ = some (.int .i64 ev) := d2
      replace d3 : wj.cell? ⟨b0, o0 + k * 5 + 3, none⟩ = some (.int .i64 ti) := d3
      replace d4 : wj.cell? ⟨b0, o0 + k * 5 + 4, none⟩ = some (.bool en) := d4
      dsimp only at hw2 hl3 hmem hwj
      have HKX := Lib.hid (alloc_new wj (.cells #[.string sj, .slice sp sn sc, .int .i64 ev, .int .i64 ti, .bool en] 33))
      have hbX : Below wj.heap.size wj (wj.alloc (.cells #[.string sj, .slice sp sn sc, .int .i64 ev, .int .i64 ti, .bool en] 33)) := (Below.refl _ _).alloc (Nat.le_refl _) _
      have HSX := Lib.hid (HS.out.next hBj hbX)
      have HWX := Lib.hid (hwj.below hbX)
      have HW2 := Lib.hid hw2
      have HMEM := Lib.hid hmem
      clear hs hcl hbX hw1 hw2 hwj hmem
      go_wp2_with fail
      go_loopw [15] (fun i wr => ∃ j : Nat, j ≤ sn ∧ i = .int .i64 (j : Int) ∧ Hid (Po.Spo B (ss.map Sl.t) w wr) ∧ Hid (Po.Spo B (ss.map Sl.t) (wj.alloc (.cells #[.string sj, .slice sp sn sc, .int .i64 ev, .int .i64 ti, .bool en] 33)) wr)) (fun i _ => sn - (intOf i).toNat)
      case atStart => exact ⟨0, Nat.zero_le _, rfl, HSX.out, Po.Spo.refl _ _ _⟩
      case round =>
        obtain ⟨wi, rfl⟩ : ∃ wo : World, wo = wr := ⟨_, rfl⟩
        obtain ⟨j, hj, rfl, HS1, HS2⟩ := hrel
        by_cases hlt2 : j < sn
        · have hkx := HS2.out.keep _ _ _ _ HKX.out (.inl (by decide))
          have y1 : wi.cell? ⟨wj.heap.size, 1, none⟩ = some (.slice sp sn sc) := by rw [Lib.cell_of_heap hkx]; rfl
          have yl : wj.heap.size < wi.heap.size := lt_of_heap hkx
          have hwi := HS2.out.wr _ HWX.out
          rcases hwi with h0 | ⟨g, cur, hp, hh, hcs⟩
          · have h0' : sn = 0 := h0
            omega
          have hp' : sp = some ⟨g, 0, none⟩ := hp
          have hcs' : sn * 2 ≤ cur.size := hcs
          subst hp'
          have n1 : (0 : Int) ≤ (j : Int) := by omega
          have n2 : (j : Int) < (sn : Int) := by omega
          have hgb := HW2.out g rfl
          have c0 : wi.cell? ⟨g, j * 2, none⟩ = some (cur[j * 2]'(by omega)) := by rw [Lib.cell_of_heap hh]; exact Array.getElem?_eq_getElem (by omega)
          have c1 : wi.cell? ⟨g, j * 2 + 1, none⟩ = some (cur[j * 2 + 1]'(by omega)) := by rw [Lib.cell_of_heap hh]; exact Array.getElem?_eq_getElem (by omega)
          obtain ⟨u0, hu0⟩ : ∃ u, cur[j * 2]'(by omega) = u := ⟨_, rfl⟩
          obtain ⟨u1, hu1⟩ : ∃ u, cur[j * 2 + 1]'(by omega) = u := ⟨_, rfl⟩
          rw [hu0] at c0
          rw [hu1] at c1
          have z0 := Lib.frozen_of_heap hh (j * 2)
          have z1 := Lib.frozen_of_heap hh (j * 2 + 1)
          have hgl : g < wi.heap.size := lt_of_heap hh
          have HG1 : Hid (Po.Spo B (ss.map Sl.t) w ((wi.setCell ⟨g, j * 2, none⟩ (.string ⟨#[63]⟩)).setCell ⟨g, j * 2 + 1, none⟩ (.string ⟨#[63]⟩))) :=
            (HS1.out.set HMEM.out rfl hgb hh _).set HMEM.out rfl hgb (heap_setCell_same wi g (j * 2) _ _ _ hh) _
          have HG2 : Hid (Po.Spo B (ss.map Sl.t) (wj.alloc (.cells #[.string sj, .slice (some ⟨g, 0, none⟩) sn sc, .int .i64 ev, .int .i64 ti, .bool en] 33)) ((wi.setCell ⟨g, j * 2, none⟩ (.string ⟨#[63]⟩)).setCell ⟨g, j * 2 + 1, none⟩ (.string ⟨#[63]⟩))) :=
            (HS2.out.set HMEM.out rfl hgb hh _).set HMEM.out rfl hgb (heap_setCell_same wi g (j * 2) _ _ _ hh) _
          clear hh hu0 hu1 hkx hp hcs hcs'
          go_wp2_with fail
          go_roundw
          case rel => exact ⟨j + 1, by omega, by go_num, HG1.out, HG2.out⟩
          case measure => simp [intOf]; omega
        · have n2 : (sn : Int) ≤ (j : Int) := by omega
          go_wp2_with fail
          go_roundw
          case rel => exact ⟨k + 1, by omega, by go_num, HS1.out⟩
          case measure => simp [intOf]; omega
    · have n2 : (n : Int) ≤ (k : Int) := by omega
      go_wp2_with fail
      go_end0
      exact ⟨rfl, HS.out⟩
end Go.Proofs.Ytpnpgjjbincigaa
