/- Contract of slices.DeleteFunc at labels (of empty values). -/
import Derived.Test.YthnaninhbofeoaaDoorOfA
namespace Go.Proofs.YthnaninhbofeoaaDoor
open Go.RowKit Go.Sort Go.Shelf

theorem Lab.cells_set (M : List Lab.L) (i : Nat) (x : Lab.L) : ((Lab.cells M).set (i * 2) (.string x.n)).set (i * 2 + 1) (.string x.v) = Lab.cells (M.set i x) := by
  induction M generalizing i with
  | nil => simp [Lab.cells]
  | cons y r ih =>
    have e : ∀ (z : Lab.L) (l : List Lab.L), Lab.cells (z :: l) = .string z.n :: .string z.v :: Lab.cells l := fun z l => by simp [Lab.cells]
    cases i with
    | zero => rw [e]; simp [e]
    | succ i =>
      rw [e, show (i + 1) * 2 = i * 2 + 1 + 1 by omega]
      simp only [List.set_cons_succ]
      rw [e, ih i]
theorem OwnLabels.stored {B g cap n : Nat} {M : List Lab.L} {w : World} (h : OwnLabels B (.slice (some ⟨g, 0, none⟩) n cap) M w) (hn : M.length = n) (i : Nat) (x : Lab.L) :
    OwnLabels B (.slice (some ⟨g, 0, none⟩) n cap) (M.set i x) ((w.setCell ⟨g, i * 2, none⟩ (.string x.n)).setCell ⟨g, i * 2 + 1, none⟩ (.string x.v)) := by
  subst hn
  have h1 := (World.ownsRow.stored h (i * 2) (.string x.n)).1
  have h2 := (World.ownsRow.stored h1 (i * 2 + 1) (.string x.v)).1
  unfold OwnLabels
  rw [← Lab.cells_set, List.length_set]
  exact h2
theorem Lab.zeroCells2 (z : Value) (n : Nat) : (Builtin.zeroCells (#[z, z] : Array Value) n).toList = List.replicate (n * 2) z := by
  apply List.ext_getElem
  · simp [Builtin.zeroCells]
  · intro i h1 h2
    rcases Nat.mod_two_eq_zero_or_one i with h | h <;> simp [Builtin.zeroCells, h]
theorem run_clear_labels (w : World) (ty : TypeId) (b o n c : Nat) (hn : 0 < n)
    (hc : ∀ j, j < n * 2 → (w.cell? ⟨b, o + j, none⟩).isSome = true) (hf : ∀ j, j < n * 2 → w.frozen? ⟨b, o + j, none⟩ = false) :
    (Builtin.clear_ #[22] ty #[.slice (some ⟨b, o, none⟩) n c]).run Tryd.prog w = .ok (.tuple #[]) (w.setCells b o (List.replicate (n * 2) (.string ⟨#[]⟩))) := by
  have hst := Go.run_storeCells_cells (P := Tryd.prog) b o (List.replicate (n * 2) (.string ⟨#[]⟩)) 0 w (by simpa using hc) (by simpa using hf) (by intro v hv; rw [List.eq_of_mem_replicate hv]; rfl)
  simp only [Nat.add_zero] at hst
  have hzc := Lab.zeroCells2
  obtain ⟨m, rfl⟩ : ∃ m, n = m + 1 := ⟨n - 1, by omega⟩
  have hu := run_underlying Tryd.underlying22 (w := w)
  have hv := Tryd.zeroValue62 w
  simp [Builtin.clear_, hu, hv, Value.cells, hzc, hst]

theorem Lab.full_snoc (l : List Lab.L) (k : Nat) (h : k < l.length) : Lab.full (l.take (k + 1)) = if (Lab.bs l[k].v).isEmpty = true then Lab.full (l.take k) else Lab.full (l.take k) ++ [l[k]] := by
  rw [List.take_add_one, List.getElem?_eq_getElem h]
  unfold Lab.full
  rw [Option.toList_some, List.filter_append]
  by_cases he : (Lab.bs l[k].v).isEmpty = true
  · rw [if_pos he, List.filter_cons_of_neg (by rw [he]; decide), List.filter_nil, List.append_nil]
  · rw [if_neg he, List.filter_cons_of_pos (by rw [Bool.eq_false_iff.2 he]; rfl), List.filter_nil]

set_option maxHeartbeats 3200000 in
set_option maxRecDepth 100000 in
theorem dele_is (B : Nat) (v : Value) (l : List Lab.L) (n : Nat) (w : World) (hn : l.length = n) (h : OwnLabels B v l w) (hB : B ≤ w.heap.size) (hl : n ≤ 100000) :
    Calls Tryd.prog 67 #[v, .func (.func 68) #[] #[]] w fun e w' => (∃ u, e = .returned u ∧ OwnLabels B u (Lab.full l) w') ∧ Below B w w' := by
  have hsp := Lab.firstEmpty_spec l l.length 0 (by omega) (Nat.zero_le _)
  simp only [List.drop_zero, Nat.sub_zero] at hsp
  obtain ⟨p, c, hv, hAt, hlc, hcm⟩ := h.open
  rw [hn] at hv
  have HN := Lib.hid hn
  rcases hsp with ⟨s1, s2⟩ | ⟨j0, _, t1, t2, t3, t4⟩
  · have HI := Lib.hid (idx_is p l n c (-1) s1 w hn hAt hl)
    subst hv
    have HO := Lib.hid h
    rw [s2]
    clear hn hAt h s1 s2
    go_enter Tryd.func67, Tryd.ntmps67
    go_wp2_with (go_at_call 93; refine HI.out.mono ?_)
    first | rintro e w1 rfl hb1 | rintro e w1 ⟨rfl, hb1⟩
    go_wp2_with fail
    go_ret
    exact ⟨⟨_, rfl, row_below HO.out hb1 (Nat.le_refl _)⟩, hb1.mono hB⟩
  · have HI := Lib.hid (idx_is p l n c (j0 : Int) t2 w hn hAt hl)
    have hj0 : j0 < n := by omega
    obtain ⟨g, cap, hv2, hg1, hg2, hg3, hg4⟩ := h.form (by omega)
    rw [hn, hv] at hv2
    simp only [Value.slice.injEq, true_and] at hv2
    obtain ⟨rfl, rfl⟩ := hv2
    subst hv
    have hf0 : Lab.full (l.take (j0 + 1)) = l.take j0 := by
      rw [Lab.full_snoc l j0 t1, if_pos (t4 t1), t3]
    have HF0 := Lib.hid hf0
    have HO := Lib.hid h
    have q1 : ((j0 : Int) == -1) = false := beq_eq_false_iff_ne.2 (by omega)
    have HFS := Lib.hid (fun k h => Lab.full_snoc l k h)
    have hcap : n ≤ c := by omega
    clear hAt h t2 t3 t4 hn hf0
    go_enter Tryd.func67, Tryd.ntmps67
    go_wp2_with (go_at_call 93; refine HI.out.mono ?_)
    first | rintro e w1 rfl hb1 | rintro e w1 ⟨rfl, hb1⟩
    have hO1 := row_below HO.out hb1 (Nat.le_refl _)
    have hB1 := hb1.mono hB
    have hs1 := hb1.size
    clear hb1
    go_wp2_with fail
    go_loopw [5, 6] (fun iv jv wr => ∃ (i j : Nat) (M : List Lab.L), i < j ∧ j ≤ n ∧ iv = .int .i64 i ∧ jv = .int .i64 j ∧ M.length = n ∧ OwnLabels B (.slice (some ⟨g, 0, none⟩) n c) M wr ∧ Hid (M.take i = Lab.full (l.take j)) ∧ Hid (M.drop j = l.drop j) ∧ Below B w wr ∧ B ≤ wr.heap.size) (fun _ j _ => n - (intOf j).toNat)
    case atStart => exact ⟨j0, j0 + 1, l, by omega, by omega, rfl, by go_num, HN.out, hO1, HF0.out.symm, rfl, hB1, by omega⟩
    case round =>
      obtain ⟨i, j, M, hij, hjn, rfl, rfl, hM, hown, HT, HD, hb, hsz⟩ := hrel
      by_cases hlt : j < n
      · have hjl : j < l.length := by rw [HN.out]; exact hlt
        have hjM : j < M.length := by rw [hM]; exact hlt
        obtain ⟨p', c', he', hAt', _, _⟩ := OwnLabels.open hown
        rw [hM] at he'
        cases he'
        have cc := hAt'.cellsAt j hjM
        have hxx : M[j] = l[j] := by
          have h1 := List.drop_eq_getElem_cons hjM
          have h2 := List.drop_eq_getElem_cons hjl
          have h3 := HD.out
          rw [h1, h2] at h3
          exact (List.cons.inj h3).1
        have hD2 : M.drop (j + 1) = l.drop (j + 1) := by
          have h1 := List.drop_eq_getElem_cons hjM
          have h2 := List.drop_eq_getElem_cons hjl
          have h3 := HD.out
          rw [h1, h2] at h3
          exact (List.cons.inj h3).2
        have hfs := HFS.out j hjl
        rw [hxx] at cc
        obtain ⟨x, hx⟩ : ∃ x, l[j] = x := ⟨_, rfl⟩
        rw [hx] at cc hfs
        obtain ⟨c0, c1⟩ := cc
        obtain ⟨bv, hbv⟩ : ∃ bv, (Lab.bs x.v).isEmpty = bv := ⟨_, rfl⟩
        have HX := Lib.hid (fun w => del_is x bv hbv w)
        rw [hbv] at hfs
        have hgw := World.block_lt_of_cell? _ _ c0
        have HO2 := Lib.hid hown
        have HD2 := Lib.hid hD2
        clear hbv hx hxx hAt' hD2 hown
        cases bv
        · rw [if_neg (by simp)] at hfs
          have hi : i < n := by omega
          have HFS2 := Lib.hid hfs
          clear hfs
          go_wp2_with (go_at_call 68; refine (HX.out _).mono ?_)
          first | rintro e w2 rfl hb2 | rintro e w2 ⟨rfl, hb2⟩
          have k2 := below_kept hb2 (alloc_new wr _) (by simp)
          have hs2 := hb2.size
          simp only [World.size_alloc] at hs2
          have e0 : w2.cell? ⟨wr.heap.size, 0, none⟩ = some (.string x.n) := by rw [Lib.cell_of_heap k2]; rfl
          have e1 : w2.cell? ⟨wr.heap.size, 1, none⟩ = some (.string x.v) := by rw [Lib.cell_of_heap k2]; rfl
          have hO2 : OwnLabels B (.slice (some ⟨g, 0, none⟩) n c) M w2 := row_below (World.ownsRow.alloc HO2.out _) hb2 (by simp)
          have hB2 : Below B w w2 := (hb.alloc hsz _).trans (hb2.mono (by omega))
          obtain ⟨p3, c3, he3, hAt3, _, _⟩ := OwnLabels.open hO2
          rw [hM] at he3
          cases he3
          have hiM : i < M.length := by omega
          have mm := hAt3.cellsAt i hiM
          obtain ⟨y, hy⟩ : ∃ y, M[i] = y := ⟨_, rfl⟩
          rw [hy] at mm
          obtain ⟨m0, m1⟩ := mm
          have f0 := World.ownsRow.frozenAt (show w2.ownsRow B _ 2 (.slice (some ⟨g, 0, none⟩) M.length c) M.length _ by rw [hM]; have := hO2; unfold OwnLabels at this; rw [hM] at this; exact this) (i * 2)
          have f1 := World.ownsRow.frozenAt (show w2.ownsRow B _ 2 (.slice (some ⟨g, 0, none⟩) M.length c) M.length _ by rw [hM]; have := hO2; unfold OwnLabels at this; rw [hM] at this; exact this) (i * 2 + 1)
          have HO4 := Lib.hid (OwnLabels.stored hO2 hM i x)
          have i1 : (0 : Int) ≤ (i : Int) := by omega
          have i2 : (i : Int) < (n : Int) := by omega
          clear hAt3 hO2 hy
          go_wp2_with fail
          go_roundw
          case rel =>
            refine ⟨i + 1, j + 1, M.set i x, by omega, by omega, by go_num, by go_num, by rw [List.length_set]; exact hM, HO4.out, ?_, ?_, (hB2.setCell (p := ⟨g, i * 2, none⟩) hg1 _).setCell (p := ⟨g, i * 2 + 1, none⟩) hg1 _, by simp; omega⟩
            · show (M.set i x).take (i + 1) = _
              rw [HFS2.out, ← HT.out, List.take_add_one, List.getElem?_set_self hiM, List.take_set_of_le (Nat.le_refl _)]
              rfl
            · show (M.set i x).drop (j + 1) = _
              rw [List.drop_set_of_lt (by omega)]
              exact HD2.out
          case measure => simp [intOf]; omega
        · rw [if_pos rfl] at hfs
          have HFS2 := Lib.hid hfs
          clear hfs
          go_wp2_with (go_at_call 68; refine (HX.out _).mono ?_)
          first | rintro e w2 rfl hb2 | rintro e w2 ⟨rfl, hb2⟩
          have hs2 := hb2.size
          simp only [World.size_alloc] at hs2
          have hO2 : OwnLabels B (.slice (some ⟨g, 0, none⟩) n c) M w2 := row_below (World.ownsRow.alloc HO2.out _) hb2 (by simp)
          have hB2 : Below B w w2 := (hb.alloc hsz _).trans (hb2.mono (by omega))
          go_wp2_with fail
          go_roundw
          case rel => exact ⟨i, j + 1, M, by omega, by omega, rfl, by go_num, hM, hO2, HT.out.trans HFS2.out.symm, HD2.out, hB2, by omega⟩
          case measure => simp [intOf]; omega
      · obtain rfl : j = n := by omega
        have hi : i < j := hij
        have hrow : wr.ownsRow B 62 2 (.slice (some ⟨g, 0, none⟩) j c) j (Lab.cells M) := by
          have := hown
          unfold OwnLabels at this
          rw [hM] at this
          exact this
        have hcl : ∀ ty cc, (Builtin.clear_ #[22] ty #[.slice (some ⟨g, i * 2, none⟩) (j - i) cc]).run Tryd.prog wr = .ok (.tuple #[]) (wr.setCells g (i * 2) (List.replicate ((j - i) * 2) (.string ⟨#[]⟩))) :=
          fun ty cc => run_clear_labels wr ty g (i * 2) (j - i) cc (by omega)
            (fun t ht => by rw [World.ownsRow.cellAt hrow (i * 2 + t) (by omega), List.getElem?_eq_getElem (by rw [Lab.cells_length, hM]; omega)]; rfl)
            (fun t ht => World.ownsRow.frozenAt hrow _)
        obtain ⟨xs', r1, r2, r3⟩ := own_setCells (List.replicate ((j - i) * 2) (.string ⟨#[]⟩)) (i * 2) wr (Lab.cells M) hrow
        obtain ⟨W, hW⟩ : ∃ W, wr.setCells g (i * 2) (List.replicate ((j - i) * 2) (.string ⟨#[]⟩)) = W := ⟨_, rfl⟩
        rw [hW] at r1 r3 hcl
        have hbW : Below B w W := hb.grown r3 hsz (fun k hk => by cases hk; exact hg1)
        have hfl : Lab.full (l.take j) = Lab.full l := by rw [List.take_of_length_le (by rw [HN.out]; exact Nat.le_refl _)]
        have hTl := HT.out
        rw [hfl] at hTl
        have hlen : (Lab.full l).length = i := by rw [← hTl, List.length_take, hM]; omega
        have hres : OwnLabels B (.slice (some ⟨g, 0, none⟩) i c) (Lab.full l) W := by
          obtain ⟨r4, r5⟩ := r1
          rcases r5 with ⟨r5, _⟩ | ⟨g', cap', cur, hv5, hg5, hh5, h51, h52, h53, h54⟩
          · cases r5
          · cases hv5
            unfold OwnLabels
            rw [hlen]
            refine ⟨by rw [Lab.cells_length, hlen], .inr ⟨g, c, cur, rfl, hg5, hh5, by omega, h52, h53, ?_⟩⟩
            have e1 : cur.toList.take (i * 2) = xs'.take (i * 2) := by
              rw [← h54, List.take_take, Nat.min_eq_left (by omega)]
            have e2 : xs'.take (i * 2) = (Lab.cells M).take (i * 2) := by
              apply List.ext_getElem?
              intro t
              by_cases ht : t < i * 2
              · rw [List.getElem?_take_of_lt ht, List.getElem?_take_of_lt ht, r2 t ht]
              · rw [List.getElem?_take_eq_none (by omega), List.getElem?_take_eq_none (by omega)]
            have e3 : (Lab.cells M).take (i * 2) = Lab.cells (M.take i) := by
              conv => lhs; rw [← List.take_append_drop i M, Lab.cells_append]
              rw [List.take_left' (by rw [Lab.cells_length, List.length_take, hM]; omega)]
            rw [e1, e2, e3, hTl]
        have HR := Lib.hid hres
        have HBW := Lib.hid hbW
        have hcl2 := Lib.hid hcl
        have i1 : (0 : Int) ≤ (i : Int) := by omega
        have i2 : (i : Int) < (j : Int) := by omega
        have i3 : (i : Int) ≤ (c : Int) := by omega
        clear r1 r2 r3 hW hown hrow hres hbW hfl hTl hlen HT HD hcl
        have hcl := hcl2.out
        go_wp2_with fail
        go_ret
        exact ⟨⟨_, rfl, HR.out⟩, HBW.out⟩
end Go.Proofs.YthnaninhbofeoaaDoor
