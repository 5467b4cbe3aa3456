/- Rows of labels under the library's sort; rows of the call's own under stores. Contracts of the library at labels: slices.Clone, SortFunc (by names), IndexFunc and DeleteFunc (of empty values). Contract of slices.DeleteFunc at labels (of empty values). Contracts of label: bound, Of. -/
import Derived.Test.YtbilaghljlobpaaGreatCanO
import Derived.Sort.OwnSorted
import Derived.Shelf.SlSortCmp.WholeK
import Derived.Laws.OwnMore
import Derived.Test.YtbilaghljlobpaaGreatShelfL
import Derived.Test.YtbilaghljlobpaaGreatMadeD
import Derived.Test.YtbilaghljlobpaaGreatL4K
import Derived.Lib.SliceRun
import Derived.BigQuiet
namespace Go.Proofs.YtbilaghljlobpaaGreat
open Go.RowKit Go.Sort Go.Shelf

instance : Inhabited Lab.L := ⟨⟨⟨#[]⟩, ⟨#[]⟩⟩⟩
def Lab.enc (x : Lab.L) : List Value := [.string x.n, .string x.v]

theorem Lab.flat_is (ls : List Lab.L) : flatK Lab.enc 2 ls.toArray = (Lab.cells ls).toArray := by
  apply Array.ext
  · rw [size_flatK, List.size_toArray, List.size_toArray, Lab.cells_length]
  · intro t h1 h2
    have ht : t < ls.length * 2 := by rw [size_flatK, List.size_toArray] at h1; exact h1
    have hk : t / 2 < ls.length := by omega
    have hg := Lab.cells_get ls (t / 2) hk
    have hx : ls.toArray[t / 2]! = ls[t / 2] := by
      rw [getElem!_pos ls.toArray (t / 2) (by rw [List.size_toArray]; exact hk)]; simp
    have e1 : (flatK Lab.enc 2 ls.toArray)[t] = (Lab.enc ls[t / 2])[t % 2]! := by
      have := get_flatK Lab.enc 2 ls.toArray t (by rw [List.size_toArray]; exact ht)
      rw [getElem!_pos (flatK Lab.enc 2 ls.toArray) t h1, hx] at this
      exact this
    rw [e1]
    have e2 : (Lab.cells ls)[t]? = some ((Lab.cells ls).toArray[t]) := by
      rw [List.getElem_toArray]; exact List.getElem?_eq_getElem _
    rcases Nat.mod_two_eq_zero_or_one t with h | h
    · have e : t / 2 * 2 = t := by omega
      rw [e] at hg
      rw [hg.1] at e2
      rw [h]
      exact (Option.some.inj e2)
    · have e : t / 2 * 2 + 1 = t := by omega
      rw [e] at hg
      rw [hg.2] at e2
      rw [h]
      exact (Option.some.inj e2)

theorem heap_put {w : World} {g n : Nat} {os : Array Obj} {cur : Array Value} {e : TypeId} {fr : Nat × Nat} (F : Array Value) (hb : w.heap[g]? = some (.cells cur e fr)) :
    (grow (putRow id (Sort.ahead w n) g 0 F) os).heap[g]? = some (.cells (putCells id 0 F cur) e fr) := by
  have hg : g < w.heap.size := (Array.getElem?_eq_some_iff.1 hb).1
  rw [heap_grow_old _ _ (by simpa using hg)]
  simp [putRow, mapBlock, Sort.ahead, Array.getElem?_modify, hb, onCells]
theorem grownBy_put {w : World} {g n : Nat} {os : Array Obj} (F : Array Value) : w.grownBy (grow (putRow id (Sort.ahead w n) g 0 F) os) (some g) := by
  refine ⟨rfl, rfl, rfl, by simp, fun k hk hne => ?_⟩
  rw [heap_grow_old _ _ (by simpa using hk)]
  have : g ≠ k := fun e => hne (by rw [e])
  simp [putRow, mapBlock, Sort.ahead, Array.getElem?_modify, this]
theorem take_put (cur : Array Value) (xs : List Value) (h : xs.length ≤ cur.size) : (putCells id 0 xs.toArray cur).toList.take xs.length = xs := by
  apply List.ext_getElem?
  intro j
  by_cases hj : j < xs.length
  · rw [List.getElem?_take_of_lt hj, Array.getElem?_toList]
    simp [putCells, hj, show j < cur.size by omega]
  · rw [List.getElem?_take_eq_none (by omega), List.getElem?_eq_none (by omega)]

/-- the row that a sort asks for -/
theorem OwnLabels.holds {B g cap n : Nat} {l : List Lab.L} {w : World} (h : OwnLabels B (.slice (some ⟨g, 0, none⟩) n cap) l w) (hn : l.length = n) : HoldsK Lab.enc 2 w g 0 l.toArray := by
  unfold HoldsK
  rw [Lab.flat_is]
  intro j hj
  rw [List.size_toArray, Lab.cells_length] at hj
  subst hn
  refine ⟨?_, World.ownsRow.frozenAt h _⟩
  rw [Nat.zero_add, World.ownsRow.cellAt h j hj]
  rw [getElem!_pos (Lab.cells l).toArray j (by rw [List.size_toArray, Lab.cells_length]; exact hj), List.getElem_toArray]
  exact List.getElem?_eq_getElem _
/-- behind the sort the same slice holds the other labels -/
theorem OwnLabels.sorted {B g cap n q : Nat} {l l' : List Lab.L} {os : Array Obj} {w : World} (h : OwnLabels B (.slice (some ⟨g, 0, none⟩) n cap) l w) (hn : l.length = n) (hl : l'.length = n) :
    OwnLabels B (.slice (some ⟨g, 0, none⟩) n cap) l' (sortWorldK Lab.enc 2 w g 0 q l'.toArray os) := by
  subst hn
  obtain ⟨h1, h2⟩ := h
  rcases h2 with ⟨h2, _⟩ | ⟨g', cap', cur, hv, hg, hh, h3, h4, h5, h6⟩
  · cases h2
  · cases hv
    unfold OwnLabels sortWorldK putRowK
    rw [Lab.flat_is, hl]
    have hc : (Lab.cells l').length = l.length * 2 := by rw [Lab.cells_length, hl]
    refine ⟨hc, .inr ⟨g, cap, _, rfl, hg, heap_put _ hh, h3, h4, by simpa [putCells] using h5, ?_⟩⟩
    rw [← hc]
    exact take_put cur _ (by rw [hc, h5]; exact Nat.mul_le_mul_right _ h3)
theorem sorted_below {B g q : Nat} {w0 w : World} {os : Array Obj} (d : Array Lab.L) (hb : Below B w0 w) (hB : B ≤ w.heap.size) (hg : B ≤ g) : Below B w0 (sortWorldK Lab.enc 2 w g 0 q d os) := by
  unfold sortWorldK putRowK
  exact hb.grown (grownBy_put _) hB (fun k hk => by cases hk; exact hg)

/-- a row of the call's own under a run of stores -/
theorem own_setCells {B e sz g n cap : Nat} : ∀ (vs : List Value) (o : Nat) (w : World) (xs : List Value), w.ownsRow B e sz (.slice (some ⟨g, 0, none⟩) n cap) n xs →
    ∃ xs', (w.setCells g o vs).ownsRow B e sz (.slice (some ⟨g, 0, none⟩) n cap) n xs' ∧ (∀ j, j < o → xs'[j]? = xs[j]?) ∧ w.grownBy (w.setCells g o vs) (some g)
  | [], o, w, xs, h => ⟨xs, h, fun _ _ => rfl, ⟨rfl, rfl, rfl, Nat.le_refl _, fun _ _ _ => rfl⟩⟩
  | v :: r, o, w, xs, h => by
    have h1 := World.ownsRow.stored h o v
    obtain ⟨xs', h2, h3, h4⟩ := own_setCells r (o + 1) (w.setCell ⟨g, o, none⟩ v) (xs.set o v) h1.1
    refine ⟨xs', h2, fun j hj => ?_, ?_⟩
    · rw [h3 j (by omega), List.getElem?_set_ne (by omega)]
    · refine ⟨h4.os.trans h1.2.os, h4.tape.trans h1.2.tape, h4.output.trans h1.2.output, Nat.le_trans h1.2.size h4.size, fun k hk hne => ?_⟩
      exact (h4.block k (by simpa using hk) hne).trans (h1.2.block k hk hne)
end Go.Proofs.YtbilaghljlobpaaGreat
namespace Go.Proofs.YtbilaghljlobpaaGreat
open Go.RowKit Go.Sort Go.Shelf

set_option maxHeartbeats 1600000 in
set_option maxRecDepth 100000 in
theorem clone_is (p : Option Addr) (ls : List Lab.L) (n c : Nat) (w : World) (hn : ls.length = n) (hA : Lab.At p ls w) (hl : n ≤ 100000) :
    Calls Tryz.prog 53 #[.slice p n c] w fun e w' => (∃ v, e = .returned v ∧ OwnLabels w.heap.size v ls w') ∧ Below w.heap.size w w' := by
  obtain ⟨i0, hi, hz0, hz1, hz2⟩ := info_parts infoLab
  have HI := Lib.hid hi
  have HN := Lib.hid hn
  have q22 : ∀ (w : World) (a : Option Addr) (n c n' c' : Nat), (binOp .eql 24 (.slice a n c) (.slice none n' c')).run Tryz.prog w = .ok (.bool a.isNone) w := fun w a n c n' c' => Lib.run_eql_slice_nil w _ _ a n c n' c' Tryz.underlying24
  rcases hA.cases with ⟨rfl, hls⟩ | ⟨ad, rfl, hnews0⟩
  · obtain rfl : n = 0 := by rw [← hn, hls]; rfl
    clear hi hn hA
    go_enter Tryz.func53, Tryz.ntmps53
    go_wp2_with fail
    go_ret
    exact ⟨⟨_, rfl, by rw [hls]; exact OwnLabels.nil _ _⟩, Below.refl _ _⟩
  · clear hi hn hA
    go_enter Tryz.func53, Tryz.ntmps53
    go_wp2_with (at_builtin; refine wpList_append_own _ rfl _ _ 24 rfl w.heap.size 31 i0 _ 2 32 Tryz.underlying24 HI.out hz0 hz1 hz2 rfl (by decide) _ 0 _ rfl (World.ownsRow_made w #[] 0 (Nat.le_refl _) (Nat.zero_le _) (by simp)) ad n c (Lab.cells ls) rfl ?b1 ?b2 (Lab.cells_one _) ?b4 ?b5 ?b6 ?_)
    case b1 => rw [Lab.cells_length, HN.out]
    case b2 =>
      intro j u hj
      exact Lib.cell?_alloc_some _ (hnews0 j u hj)
    case b4 => unfold maxLen; omega
    case b5 => omega
    case b6 => simp
    intro v' w1 hown hgrow _
    go_wp2_with fail
    go_ret
    refine ⟨⟨v', rfl, ?_⟩, ((Below.refl _ w).alloc (Nat.le_refl _) _).grown hgrow (by simp) (by intro k hk; simp [Value.ownBlock] at hk; omega)⟩
    unfold OwnLabels
    rw [HN.out]
    simpa using hown

/-- how names are compared -/
def Lab.cf (x y : Lab.L) : Int := Lib.compareBytes (Lab.bs x.n) (Lab.bs y.n)
theorem Lab.cf_lt (x y : Lab.L) : ltOf Lab.cf x y = decide (Lab.bs x.n < Lab.bs y.n) := by
  unfold ltOf Lab.cf
  rw [Can.cmp_law]
  by_cases h1 : Lab.bs x.n < Lab.bs y.n
  · rw [if_pos h1, decide_eq_true h1]; rfl
  · rw [if_neg h1, decide_eq_false h1]
    by_cases h2 : Lab.bs x.n = Lab.bs y.n
    · rw [if_pos h2]; rfl
    · rw [if_neg h2]; rfl
theorem Lab.swo : SWO (ltOf Lab.cf) where
  irrefl x := by rw [Lab.cf_lt]; exact decide_eq_false (List.lt_irrefl _)
  trans x y z h1 h2 := by
    rw [Lab.cf_lt, decide_eq_true_eq] at *
    exact List.lt_trans h1 h2
  ntrans x y z h1 h2 := by
    rw [Lab.cf_lt, decide_eq_false_iff_not, List.not_lt] at *
    exact List.le_trans h2 h1

set_option maxHeartbeats 800000 in
theorem byName_lays (x y : Lab.L) (W : World) : Calls Tryz.prog 55 #[.agg #[.string x.n, .string x.v], .agg #[.string y.n, .string y.v]] W fun e w' => e = .returned (.int .i64 (Lab.cf x y)) ∧ ∃ q os', w' = grow (W.drewN q) os' := by
  have HS := Lib.hid (fun w => Tryz.strings_Compare x.n y.n w)
  have HR : Hid (Lib.compareBytes x.n.data.toList y.n.data.toList = Lab.cf x y) := rfl
  rw [HR.out] at HS
  obtain ⟨r, hr⟩ : ∃ r, Lab.cf x y = r := ⟨_, rfl⟩
  rw [hr] at HS ⊢
  clear hr HR
  go_enter Tryz.func55, Tryz.ntmps55
  go_wp2_with (go_at_call 84; refine (HS.out _).mono ?_)
  first | rintro e w1 rfl rfl | rintro e w1 ⟨rfl, rfl⟩
  go_wp2_with fail
  go_ret
  exact ⟨rfl, 0, _, by rw [alloc_eq_grow, alloc_eq_grow, grow_grow]; rfl⟩

set_option maxHeartbeats 1600000 in
set_option maxRecDepth 100000 in
theorem sortL_is (B : Nat) (v : Value) (ls : List Lab.L) (n : Nat) (w : World) (hn : ls.length = n) (h : OwnLabels B v ls w) (hB : B ≤ w.heap.size) (hl : n ≤ 100000) :
    Calls Tryz.prog 54 #[v, .func (.func 55) #[] #[]] w fun e w' => e = .returned (.tuple #[]) ∧ ∃ d, (d.Perm ls ∧ Lab.Asc d) ∧ OwnLabels B v d w' ∧ Below B w w' := by
  rcases h.2 with ⟨rfl, h0⟩ | ⟨g, cap, cur, rfl, hg, hh, _⟩
  · have hcon := AnyF.slices_SortFunc_none Tryz.sortL none 0 (.func (.func 55) #[] #[]) w
    change Calls Tryz.prog 54 _ _ _ at hcon
    have hls : ls = [] := List.length_eq_zero_iff.1 h0
    refine hcon.mono fun e w' ⟨h1, h2⟩ => ⟨h1, [], ⟨by rw [hls], List.Pairwise.nil⟩, OwnLabels.nil _ _, by rw [h2]; exact Below.refl _ _⟩
  · have eg : ∀ args w, (callFunc 55 args).run Tryz.prog w = .ok (.enter 55 args) w := enters_of Tryz.func55 (by kernel_rfl) rfl
    have hlt := lt_of_heap hh
    have hsz : ls.toArray.size = ls.length := List.size_toArray
    have hcon := AnyQ.slices_SortFunc Tryz.sortL 2 Tryz.isAgg31 Tryz.sizeOf31 Lab.enc (fun _ => rfl) (fun x u hu => by simp [Lab.enc] at hu; rcases hu with rfl | rfl <;> rfl) Lab.cf Lab.swo 55 #[] g 0 cap ls.toArray w eg (fun _ _ _ _ x y => byName_lays x y _) (h.holds rfl) hlt (by rw [hsz]; omega)
    change Calls Tryz.prog 54 _ _ _ at hcon
    rw [hsz] at hcon
    refine hcon.mono fun e w' ⟨h1, d', q, os, hp, hs, hw⟩ => ?_
    obtain ⟨p1, _, p3⟩ := hp
    have hd : d'.size = ls.length := by rw [p1, hsz]
    have hdl : d'.toList.length = ls.length := by rw [Array.length_toList]; exact hd
    have e1 : (d'.extract 0 ls.length).toList = d'.toList := by rw [← hd, Array.extract_size]
    have e2 : (ls.toArray.extract 0 ls.length).toList = ls := by rw [← hsz, Array.extract_size]
    rw [e1, e2] at p3
    refine ⟨h1, d'.toList, ⟨p3, ?_⟩, ?_, ?_⟩
    · unfold Lab.Asc
      rw [List.pairwise_iff_getElem]
      intro i j hi hj hij
      have := hs i j (Nat.zero_le _) hij (by omega)
      rw [Lab.cf_lt, decide_eq_false_iff_not, List.not_lt] at this
      rw [getElem!_pos d' i (by omega), getElem!_pos d' j (by omega)] at this
      simpa using this
    · rw [hw]
      have := h.sorted (l' := d'.toList) (q := q) (os := os) rfl hdl
      rw [Array.toArray_toList] at this
      exact this
    · rw [hw]; exact sorted_below d' (Below.refl _ _) hB hg

set_option maxHeartbeats 800000 in
theorem del_is (x : Lab.L) (b : Bool) (h : (Lab.bs x.v).isEmpty = b) (w : World) :
    Calls Tryz.prog 58 #[.agg #[.string x.n, .string x.v]] w fun e w' => e = .returned (.bool b) ∧ Below w.heap.size w w' := by
  have h2 : x.v.toList.isEmpty = b := by rw [← h, ByteArray.toList_eq]; rfl
  clear h
  go_enter Tryz.func58, Tryz.ntmps58
  go_wp2_with fail
  go_ret
  exact ⟨rfl, (Below.refl _ _).alloc (Nat.le_refl _) _⟩

def Lab.firstEmpty : Nat → List Lab.L → Int
  | _, [] => -1
  | k, x :: r => if (Lab.bs x.v).isEmpty = true then (k : Int) else Lab.firstEmpty (k + 1) r
theorem Lab.firstEmpty_spec (l : List Lab.L) : ∀ (m k : Nat), m = l.length - k → k ≤ l.length → (Lab.firstEmpty k (l.drop k) = -1 ∧ Lab.full (l.drop k) = l.drop k) ∨ ∃ j, k ≤ j ∧ j < l.length ∧ Lab.firstEmpty k (l.drop k) = (j : Int) ∧ Lab.full ((l.drop k).take (j - k)) = (l.drop k).take (j - k) ∧ ∀ h : j < l.length, (Lab.bs l[j].v).isEmpty = true := by
  intro m
  induction m with
  | zero =>
    intro k hm hk
    have : l.drop k = [] := List.drop_eq_nil_iff.2 (by omega)
    rw [this]
    exact .inl ⟨rfl, rfl⟩
  | succ m ih =>
    intro k hm hk
    have hlt : k < l.length := by omega
    rw [List.drop_eq_getElem_cons hlt]
    by_cases he : (Lab.bs l[k].v).isEmpty = true
    · refine .inr ⟨k, Nat.le_refl _, hlt, if_pos he, ?_, fun _ => he⟩
      rw [Nat.sub_self]; rfl
    · have h1 : Lab.firstEmpty k (l[k] :: l.drop (k + 1)) = Lab.firstEmpty (k + 1) (l.drop (k + 1)) := if_neg he
      have he2 : (Lab.bs l[k].v).isEmpty = false := Bool.eq_false_iff.2 he
      have hf : ∀ r, Lab.full (l[k] :: r) = l[k] :: Lab.full r := fun r => by
        unfold Lab.full
        rw [List.filter_cons_of_pos (by rw [he2]; rfl)]
      rw [h1]
      rcases ih (k + 1) (by omega) (by omega) with ⟨a1, a2⟩ | ⟨j, b1, b2, b3, b4, b5⟩
      · exact .inl ⟨a1, by rw [hf, a2]⟩
      · refine .inr ⟨j, by omega, b2, b3, ?_, b5⟩
        obtain ⟨t, ht⟩ : ∃ t, j - k = t + 1 := ⟨j - k - 1, by omega⟩
        have ht2 : j - (k + 1) = t := by omega
        rw [ht2] at b4
        rw [ht, List.take_succ_cons, hf, b4]

set_option maxHeartbeats 1600000 in
set_option maxRecDepth 100000 in
theorem idx_is (p : Option Addr) (ls : List Lab.L) (n c : Nat) (r : Int) (h : Lab.firstEmpty 0 ls = r) (w : World) (hn : ls.length = n) (hA : Lab.At p ls w) (hl : n ≤ 100000) :
    Calls Tryz.prog 87 #[.slice p n c, .func (.func 58) #[] #[]] w fun e w' => e = .returned (.int .i64 r) ∧ Below w.heap.size w w' := by
  have H0 : Hid (Lab.firstEmpty 0 (ls.drop 0) = r) := h
  have HN := Lib.hid hn
  clear h hn
  go_enter Tryz.func87, Tryz.ntmps87
  go_wp2_with fail
  go_loopw [8] (fun i wr => ∃ k : Nat, k ≤ n ∧ i = .int .i64 k ∧ Hid (Lab.firstEmpty k (ls.drop k) = r) ∧ Below w.heap.size w wr) (fun i _ => n - (intOf i).toNat)
  case atStart => exact ⟨0, Nat.zero_le _, rfl, H0, Below.refl _ _⟩
  case round =>
    obtain ⟨k, hk, rfl, HK, hb⟩ := hrel
    have hsz := hb.size
    by_cases hlt : k < n
    · have hkl : k < ls.length := by rw [HN.out]; exact hlt
      have hA2 := hA.below hb (Nat.le_refl _)
      obtain ⟨b, o, rfl, hc⟩ := hA2.open k hkl
      have hst := HK.out
      rw [List.drop_eq_getElem_cons hkl] at hst
      obtain ⟨x, hx⟩ : ∃ x, ls[k] = x := ⟨_, rfl⟩
      have c0 := (hc k hkl).1
      have c1 := (hc k hkl).2
      rw [hx] at c0 c1 hst
      have hbx : b < wr.heap.size := World.block_lt_of_cell? _ _ c0
      obtain ⟨bv, hbv⟩ : ∃ bv, (Lab.bs x.v).isEmpty = bv := ⟨_, rfl⟩
      have HD := Lib.hid (fun w => del_is x bv hbv w)
      have hst2 : (if bv = true then (k : Int) else Lab.firstEmpty (k + 1) (ls.drop (k + 1))) = r := by rw [← hbv]; exact hst
      clear hst hx hc hbv HK
      cases bv
      · have HG : Hid (Lab.firstEmpty (k + 1) (ls.drop (k + 1)) = r) := hst2
        clear hst2
        go_wp2_with (go_at_call 58; refine (HD.out _).mono ?_)
        first | rintro e w1 rfl hb1 | rintro e w1 ⟨rfl, hb1⟩
        go_wp2_with fail
        go_roundw
        case rel => exact ⟨k + 1, by omega, by go_num, HG, below_next hb hb1⟩
        case measure => simp [intOf]; omega
      · have HG : Hid ((k : Int) = r) := hst2
        clear hst2
        go_wp2_with (go_at_call 58; refine (HD.out _).mono ?_)
        first | rintro e w1 rfl hb1 | rintro e w1 ⟨rfl, hb1⟩
        go_wp2_with fail
        go_ret
        exact ⟨by rw [← HG.out]; rfl, below_next hb hb1⟩
    · have HG : Hid (r = -1) := by
        show r = -1
        rw [← HK.out, List.drop_eq_nil_iff.2 (by rw [HN.out]; omega)]; rfl
      clear HK
      go_wp2_with fail
      go_ret
      exact ⟨by rw [HG.out]; rfl, hb⟩
end Go.Proofs.YtbilaghljlobpaaGreat
namespace Go.Proofs.YtbilaghljlobpaaGreat
open Go.RowKit Go.Sort Go.Shelf

theorem Lab.cells_set (M : List Lab.L) (i : Nat) (x : Lab.L) : ((Lab.cells M).set (i * 2) (.string x.n)).set (i * 2 + 1) (.string x.v) = Lab.cells (M.set i x) := by
  induction M generalizing i with
  | nil => simp [Lab.cells]
  | cons y r ih =>
    have e : ∀ (z : Lab.L) (l : List Lab.L), Lab.cells (z :: l) = .string z.n :: .string z.v :: Lab.cells l := fun z l => by simp [Lab.cells]
    cases i with
    | zero => rw [e]; simp [e]
    | succ i =>
      rw [e, show (i + 1) * 2 = i * 2 + 1 + 1 by omega]
      simp only [List.set_cons_succ]
      rw [e, ih i]
theorem OwnLabels.stored {B g cap n : Nat} {M : List Lab.L} {w : World} (h : OwnLabels B (.slice (some ⟨g, 0, none⟩) n cap) M w) (hn : M.length = n) (i : Nat) (x : Lab.L) :
    OwnLabels B (.slice (some ⟨g, 0, none⟩) n cap) (M.set i x) ((w.setCell ⟨g, i * 2, none⟩ (.string x.n)).setCell ⟨g, i * 2 + 1, none⟩ (.string x.v)) := by
  subst hn
  have h1 := (World.ownsRow.stored h (i * 2) (.string x.n)).1
  have h2 := (World.ownsRow.stored h1 (i * 2 + 1) (.string x.v)).1
  unfold OwnLabels
  rw [← Lab.cells_set, List.length_set]
  exact h2
theorem Lab.zeroCells2 (z : Value) (n : Nat) : (Builtin.zeroCells (#[z, z] : Array Value) n).toList = List.replicate (n * 2) z := by
  apply List.ext_getElem
  · simp [Builtin.zeroCells]
  · intro i h1 h2
    rcases Nat.mod_two_eq_zero_or_one i with h | h <;> simp [Builtin.zeroCells, h]
theorem run_clear_labels (w : World) (ty : TypeId) (b o n c : Nat) (hn : 0 < n)
    (hc : ∀ j, j < n * 2 → (w.cell? ⟨b, o + j, none⟩).isSome = true) (hf : ∀ j, j < n * 2 → w.frozen? ⟨b, o + j, none⟩ = false) :
    (Builtin.clear_ #[24] ty #[.slice (some ⟨b, o, none⟩) n c]).run Tryz.prog w = .ok (.tuple #[]) (w.setCells b o (List.replicate (n * 2) (.string ⟨#[]⟩))) := by
  have hst := Go.run_storeCells_cells (P := Tryz.prog) b o (List.replicate (n * 2) (.string ⟨#[]⟩)) 0 w (by simpa using hc) (by simpa using hf) (by intro v hv; rw [List.eq_of_mem_replicate hv]; rfl)
  simp only [Nat.add_zero] at hst
  have hzc := Lab.zeroCells2
  obtain ⟨m, rfl⟩ : ∃ m, n = m + 1 := ⟨n - 1, by omega⟩
  have hu := run_underlying Tryz.underlying24 (w := w)
  have hv := Tryz.zeroValue31 w
  simp [Builtin.clear_, hu, hv, Value.cells, hzc, hst]

theorem Lab.full_snoc (l : List Lab.L) (k : Nat) (h : k < l.length) : Lab.full (l.take (k + 1)) = if (Lab.bs l[k].v).isEmpty = true then Lab.full (l.take k) else Lab.full (l.take k) ++ [l[k]] := by
  rw [List.take_add_one, List.getElem?_eq_getElem h]
  unfold Lab.full
  rw [Option.toList_some, List.filter_append]
  by_cases he : (Lab.bs l[k].v).isEmpty = true
  · rw [if_pos he, List.filter_cons_of_neg (by rw [he]; decide), List.filter_nil, List.append_nil]
  · rw [if_neg he, List.filter_cons_of_pos (by rw [Bool.eq_false_iff.2 he]; rfl), List.filter_nil]

set_option maxHeartbeats 3200000 in
set_option maxRecDepth 100000 in
theorem dele_is (B : Nat) (v : Value) (l : List Lab.L) (n : Nat) (w : World) (hn : l.length = n) (h : OwnLabels B v l w) (hB : B ≤ w.heap.size) (hl : n ≤ 100000) :
    Calls Tryz.prog 57 #[v, .func (.func 58) #[] #[]] w fun e w' => (∃ u, e = .returned u ∧ OwnLabels B u (Lab.full l) w') ∧ Below B w w' := by
  have hsp := Lab.firstEmpty_spec l l.length 0 (by omega) (Nat.zero_le _)
  simp only [List.drop_zero, Nat.sub_zero] at hsp
  obtain ⟨p, c, hv, hAt, hlc, hcm⟩ := h.open
  rw [hn] at hv
  have HN := Lib.hid hn
  rcases hsp with ⟨s1, s2⟩ | ⟨j0, _, t1, t2, t3, t4⟩
  · have HI := Lib.hid (idx_is p l n c (-1) s1 w hn hAt hl)
    subst hv
    have HO := Lib.hid h
    rw [s2]
    clear hn hAt h s1 s2
    go_enter Tryz.func57, Tryz.ntmps57
    go_wp2_with (go_at_call 87; refine HI.out.mono ?_)
    first | rintro e w1 rfl hb1 | rintro e w1 ⟨rfl, hb1⟩
    go_wp2_with fail
    go_ret
    exact ⟨⟨_, rfl, row_below HO.out hb1 (Nat.le_refl _)⟩, hb1.mono hB⟩
  · have HI := Lib.hid (idx_is p l n c (j0 : Int) t2 w hn hAt hl)
    have hj0 : j0 < n := by omega
    obtain ⟨g, cap, hv2, hg1, hg2, hg3, hg4⟩ := h.form (by omega)
    rw [hn, hv] at hv2
    simp only [Value.slice.injEq, true_and] at hv2
    obtain ⟨rfl, rfl⟩ := hv2
    subst hv
    have hf0 : Lab.full (l.take (j0 + 1)) = l.take j0 := by
      rw [Lab.full_snoc l j0 t1, if_pos (t4 t1), t3]
    have HF0 := Lib.hid hf0
    have HO := Lib.hid h
    have q1 : ((j0 : Int) == -1) = false := beq_eq_false_iff_ne.2 (by omega)
    have HFS := Lib.hid (fun k h => Lab.full_snoc l k h)
    have hcap : n ≤ c := by omega
    clear hAt h t2 t3 t4 hn hf0
    go_enter Tryz.func57, Tryz.ntmps57
    go_wp2_with (go_at_call 87; refine HI.out.mono ?_)
    first | rintro e w1 rfl hb1 | rintro e w1 ⟨rfl, hb1⟩
    have hO1 := row_below HO.out hb1 (Nat.le_refl _)
    have hB1 := hb1.mono hB
    have hs1 := hb1.size
    clear hb1
    go_wp2_with fail
    go_loopw [5, 6] (fun iv jv wr => ∃ (i j : Nat) (M : List Lab.L), i < j ∧ j ≤ n ∧ iv = .int .i64 i ∧ jv = .int .i64 j ∧ M.length = n ∧ OwnLabels B (.slice (some ⟨g, 0, none⟩) n c) M wr ∧ Hid (M.take i = Lab.full (l.take j)) ∧ Hid (M.drop j = l.drop j) ∧ Below B w wr ∧ B ≤ wr.heap.size) (fun _ j _ => n - (intOf j).toNat)
    case atStart => exact ⟨j0, j0 + 1, l, by omega, by omega, rfl, by go_num, HN.out, hO1, HF0.out.symm, rfl, hB1, by omega⟩
    case round =>
      obtain ⟨i, j, M, hij, hjn, rfl, rfl, hM, hown, HT, HD, hb, hsz⟩ := hrel
      by_cases hlt : j < n
      · have hjl : j < l.length := by rw [HN.out]; exact hlt
        have hjM : j < M.length := by rw [hM]; exact hlt
        obtain ⟨p', c', he', hAt', _, _⟩ := OwnLabels.open hown
        rw [hM] at he'
        cases he'
        have cc := hAt'.cellsAt j hjM
        have hxx : M[j] = l[j] := by
          have h1 := List.drop_eq_getElem_cons hjM
          have h2 := List.drop_eq_getElem_cons hjl
          have h3 := HD.out
          rw [h1, h2] at h3
          exact (List.cons.inj h3).1
        have hD2 : M.drop (j + 1) = l.drop (j + 1) := by
          have h1 := List.drop_eq_getElem_cons hjM
          have h2 := List.drop_eq_getElem_cons hjl
          have h3 := HD.out
          rw [h1, h2] at h3
          exact (List.cons.inj h3).2
        have hfs := HFS.out j hjl
        rw [hxx] at cc
        obtain ⟨x, hx⟩ : ∃ x, l[j] = x := ⟨_, rfl⟩
        rw [hx] at cc hfs
        obtain ⟨c0, c1⟩ := cc
        obtain ⟨bv, hbv⟩ : ∃ bv, (Lab.bs x.v).isEmpty = bv := ⟨_, rfl⟩
        have HX := Lib.hid (fun w => del_is x bv hbv w)
        rw [hbv] at hfs
        have hgw := World.block_lt_of_cell? _ _ c0
        have HO2 := Lib.hid hown
        have HD2 := Lib.hid hD2
        clear hbv hx hxx hAt' hD2 hown
        cases bv
        · rw [if_neg (by simp)] at hfs
          have hi : i < n := by omega
          have HFS2 := Lib.hid hfs
          clear hfs
          go_wp2_with (go_at_call 58; refine (HX.out _).mono ?_)
          first | rintro e w2 rfl hb2 | rintro e w2 ⟨rfl, hb2⟩
          have k2 := below_kept hb2 (alloc_new wr _) (by simp)
          have hs2 := hb2.size
          simp only [World.size_alloc] at hs2
          have e0 : w2.cell? ⟨wr.heap.size, 0, none⟩ = some (.string x.n) := by rw [Lib.cell_of_heap k2]; rfl
          have e1 : w2.cell? ⟨wr.heap.size, 1, none⟩ = some (.string x.v) := by rw [Lib.cell_of_heap k2]; rfl
          have hO2 : OwnLabels B (.slice (some ⟨g, 0, none⟩) n c) M w2 := row_below (World.ownsRow.alloc HO2.out _) hb2 (by simp)
          have hB2 : Below B w w2 := (hb.alloc hsz _).trans (hb2.mono (by omega))
          obtain ⟨p3, c3, he3, hAt3, _, _⟩ := OwnLabels.open hO2
          rw [hM] at he3
          cases he3
          have hiM : i < M.length := by omega
          have mm := hAt3.cellsAt i hiM
          obtain ⟨y, hy⟩ : ∃ y, M[i] = y := ⟨_, rfl⟩
          rw [hy] at mm
          obtain ⟨m0, m1⟩ := mm
          have f0 := World.ownsRow.frozenAt (show w2.ownsRow B _ 2 (.slice (some ⟨g, 0, none⟩) M.length c) M.length _ by rw [hM]; have := hO2; unfold OwnLabels at this; rw [hM] at this; exact this) (i * 2)
          have f1 := World.ownsRow.frozenAt (show w2.ownsRow B _ 2 (.slice (some ⟨g, 0, none⟩) M.length c) M.length _ by rw [hM]; have := hO2; unfold OwnLabels at this; rw [hM] at this; exact this) (i * 2 + 1)
          have HO4 := Lib.hid (OwnLabels.stored hO2 hM i x)
          have i1 : (0 : Int) ≤ (i : Int) := by omega
          have i2 : (i : Int) < (n : Int) := by omega
          clear hAt3 hO2 hy
          go_wp2_with fail
          go_roundw
          case rel =>
            refine ⟨i + 1, j + 1, M.set i x, by omega, by omega, by go_num, by go_num, by rw [List.length_set]; exact hM, HO4.out, ?_, ?_, (hB2.setCell (p := ⟨g, i * 2, none⟩) hg1 _).setCell (p := ⟨g, i * 2 + 1, none⟩) hg1 _, by simp; omega⟩
            · show (M.set i x).take (i + 1) = _
              rw [HFS2.out, ← HT.out, List.take_add_one, List.getElem?_set_self hiM, List.take_set_of_le (Nat.le_refl _)]
              rfl
            · show (M.set i x).drop (j + 1) = _
              rw [List.drop_set_of_lt (by omega)]
              exact HD2.out
          case measure => simp [intOf]; omega
        · rw [if_pos rfl] at hfs
          have HFS2 := Lib.hid hfs
          clear hfs
          go_wp2_with (go_at_call 58; refine (HX.out _).mono ?_)
          first | rintro e w2 rfl hb2 | rintro e w2 ⟨rfl, hb2⟩
          have hs2 := hb2.size
          simp only [World.size_alloc] at hs2
          have hO2 : OwnLabels B (.slice (some ⟨g, 0, none⟩) n c) M w2 := row_below (World.ownsRow.alloc HO2.out _) hb2 (by simp)
          have hB2 : Below B w w2 := (hb.alloc hsz _).trans (hb2.mono (by omega))
          go_wp2_with fail
          go_roundw
          case rel => exact ⟨i, j + 1, M, by omega, by omega, rfl, by go_num, hM, hO2, HT.out.trans HFS2.out.symm, HD2.out, hB2, by omega⟩
          case measure => simp [intOf]; omega
      · obtain rfl : j = n := by omega
        have hi : i < j := hij
        have hrow : wr.ownsRow B 31 2 (.slice (some ⟨g, 0, none⟩) j c) j (Lab.cells M) := by
          have := hown
          unfold OwnLabels at this
          rw [hM] at this
          exact this
        have hcl : ∀ ty cc, (Builtin.clear_ #[24] ty #[.slice (some ⟨g, i * 2, none⟩) (j - i) cc]).run Tryz.prog wr = .ok (.tuple #[]) (wr.setCells g (i * 2) (List.replicate ((j - i) * 2) (.string ⟨#[]⟩))) :=
          fun ty cc => run_clear_labels wr ty g (i * 2) (j - i) cc (by omega)
            (fun t ht => by rw [World.ownsRow.cellAt hrow (i * 2 + t) (by omega), List.getElem?_eq_getElem (by rw [Lab.cells_length, hM]; omega)]; rfl)
            (fun t ht => World.ownsRow.frozenAt hrow _)
        obtain ⟨xs', r1, r2, r3⟩ := own_setCells (List.replicate ((j - i) * 2) (.string ⟨#[]⟩)) (i * 2) wr (Lab.cells M) hrow
        obtain ⟨W, hW⟩ : ∃ W, wr.setCells g (i * 2) (List.replicate ((j - i) * 2) (.string ⟨#[]⟩)) = W := ⟨_, rfl⟩
        rw [hW] at r1 r3 hcl
        have hbW : Below B w W := hb.grown r3 hsz (fun k hk => by cases hk; exact hg1)
        have hfl : Lab.full (l.take j) = Lab.full l := by rw [List.take_of_length_le (by rw [HN.out]; exact Nat.le_refl _)]
        have hTl := HT.out
        rw [hfl] at hTl
        have hlen : (Lab.full l).length = i := by rw [← hTl, List.length_take, hM]; omega
        have hres : OwnLabels B (.slice (some ⟨g, 0, none⟩) i c) (Lab.full l) W := by
          obtain ⟨r4, r5⟩ := r1
          rcases r5 with ⟨r5, _⟩ | ⟨g', cap', cur, hv5, hg5, hh5, h51, h52, h53, h54⟩
          · cases r5
          · cases hv5
            unfold OwnLabels
            rw [hlen]
            refine ⟨by rw [Lab.cells_length, hlen], .inr ⟨g, c, cur, rfl, hg5, hh5, by omega, h52, h53, ?_⟩⟩
            have e1 : cur.toList.take (i * 2) = xs'.take (i * 2) := by
              rw [← h54, List.take_take, Nat.min_eq_left (by omega)]
            have e2 : xs'.take (i * 2) = (Lab.cells M).take (i * 2) := by
              apply List.ext_getElem?
              intro t
              by_cases ht : t < i * 2
              · rw [List.getElem?_take_of_lt ht, List.getElem?_take_of_lt ht, r2 t ht]
              · rw [List.getElem?_take_eq_none (by omega), List.getElem?_take_eq_none (by omega)]
            have e3 : (Lab.cells M).take (i * 2) = Lab.cells (M.take i) := by
              conv => lhs; rw [← List.take_append_drop i M, Lab.cells_append]
              rw [List.take_left' (by rw [Lab.cells_length, List.length_take, hM]; omega)]
            rw [e1, e2, e3, hTl]
        have HR := Lib.hid hres
        have HBW := Lib.hid hbW
        have hcl2 := Lib.hid hcl
        have i1 : (0 : Int) ≤ (i : Int) := by omega
        have i2 : (i : Int) < (j : Int) := by omega
        have i3 : (i : Int) ≤ (c : Int) := by omega
        clear r1 r2 r3 hW hown hrow hres hbW hfl hTl hlen HT HD hcl
        have hcl := hcl2.out
        go_wp2_with fail
        go_ret
        exact ⟨⟨_, rfl, HR.out⟩, HBW.out⟩
end Go.Proofs.YtbilaghljlobpaaGreat
namespace Go.Proofs.YtbilaghljlobpaaGreat
open Go.RowKit

set_option maxHeartbeats 400000 in
theorem bound_is (p : Option Addr) (n c : Nat) (w : World) (hl : n ≤ 100000) :
    Calls Tryz.prog 56 #[.slice p n c] w fun e w' => e = .returned (if 64 < n then .tuple #[.slice none 0 0, .int .i64 5] else .tuple #[.slice p n c, .int .i64 0]) ∧ w = w' := by
  by_cases h : 64 < n
  · rw [if_pos h]
    go_enter Tryz.func56, Tryz.ntmps56
    go_wp2_with fail
    go_ret2
    exact ⟨rfl, rfl⟩
  · rw [if_neg h]
    have h2 : n ≤ 64 := by omega
    clear h
    go_enter Tryz.func56, Tryz.ntmps56
    go_wp2_with fail
    go_ret2
    exact ⟨rfl, rfl⟩

theorem Lab.dup_of {d ls : List Lab.L} (hp : d.Perm ls) (j : Nat) (h1 : j + 1 < d.length) (he : Lab.bs d[j].n = Lab.bs d[j + 1].n) : ¬ (Lab.names ls).Nodup := by
  intro hn
  have hn2 : (Lab.names d).Nodup := ((Lab.names_perm hp).nodup_iff).2 hn
  unfold Lab.names List.Nodup at hn2
  rw [List.pairwise_map, List.pairwise_iff_getElem] at hn2
  exact hn2 j (j + 1) (by omega) h1 (by omega) he

set_option maxHeartbeats 3200000 in
set_option maxRecDepth 100000 in
theorem lof_is (p : Option Addr) (ls : List Lab.L) (n c : Nat) (r : List Lab.L) (er : Int) (h : Lab.of ls = (r, er)) (w : World) (hn : ls.length = n) (hA : Lab.At p ls w) (hF : Lab.Fit maxLen ls) (hl : n ≤ 100000) :
    Calls Tryz.prog 13 #[.slice p n c] w fun e w' => (∃ v, e = .returned (.tuple #[v, .int .i64 er]) ∧ OwnLabels w.heap.size v r w') ∧ Below w.heap.size w w' := by
  obtain ⟨e1, he1⟩ : ∃ e1, Lab.oneAll ls = e1 := ⟨_, rfl⟩
  have H0 : Hid (Lab.oneAll (ls.drop 0) = e1) := he1
  have HN := Lib.hid hn
  unfold Lab.of at h
  rw [he1] at h
  have HH := Lib.hid h
  have HC := Lib.hid (fun w hA => clone_is p ls n c w hn hA hl)
  clear he1 h hn
  go_enter Tryz.func13, Tryz.ntmps13
  go_wp2_with fail
  go_loopw [11] (fun i wr => ∃ k : Nat, k ≤ n ∧ i = .int .i64 k ∧ Hid (Lab.oneAll (ls.drop k) = e1) ∧ Below w.heap.size w wr) (fun i _ => n - (intOf i).toNat)
  case atStart => exact ⟨0, Nat.zero_le _, rfl, H0, Below.refl _ _⟩
  case round =>
    obtain ⟨k, hk, rfl, HK, hb⟩ := hrel
    have hsz := hb.size
    by_cases hlt : k < n
    · have hkl : k < ls.length := by rw [HN.out]; exact hlt
      have hA2 := hA.below hb (Nat.le_refl _)
      obtain ⟨b, o, rfl, hc⟩ := hA2.open k hkl
      have hst := HK.out
      rw [Lab.oneAll_drop ls k hkl] at hst
      obtain ⟨x, hx⟩ : ∃ x, ls[k] = x := ⟨_, rfl⟩
      have hfx := hF x (by rw [← hx]; exact List.getElem_mem _)
      have c0 := (hc k hkl).1
      have c1 := (hc k hkl).2
      rw [hx] at c0 c1 hst
      have hbx : b < wr.heap.size := World.block_lt_of_cell? _ _ c0
      obtain ⟨e0, he0⟩ : ∃ e0, Lab.one x = e0 := ⟨_, rfl⟩
      have HE := Lib.hid (fun w => one_is x e0 he0 w hfx.1 hfx.2)
      rw [he0] at hst
      clear hx hc he0 hfx HK
      by_cases h0 : e0 = 0
      · subst h0
        rw [if_pos rfl] at hst
        have HG := Lib.hid hst
        clear hst
        go_wp2_with (go_at_call 50; refine (HE.out _).mono ?_)
        first | rintro e w1 rfl hb1 | rintro e w1 ⟨rfl, hb1⟩
        have hb2 : Below w.heap.size w w1 := (hb.alloc hsz _).trans (hb1.mono (by simp; omega))
        go_wp2_with fail
        go_roundw
        case rel => exact ⟨k + 1, by omega, by go_num, HG, hb2⟩
        case measure => simp [intOf]; omega
      · rw [if_neg h0] at hst
        subst hst
        have hh := HH.out
        rw [if_neg h0] at hh
        simp only [Prod.mk.injEq] at hh
        obtain ⟨rfl, rfl⟩ := hh
        have q1 : (e0 != 0) = true := by simpa using h0
        clear h0 HH
        go_wp2_with (go_at_call 50; refine (HE.out _).mono ?_)
        first | rintro e w1 rfl hb1 | rintro e w1 ⟨rfl, hb1⟩
        have hb2 : Below w.heap.size w w1 := (hb.alloc hsz _).trans (hb1.mono (by simp; omega))
        go_wp2_with fail
        go_ret2
        exact ⟨⟨_, rfl, OwnLabels.nil _ _⟩, hb2⟩
    · have he : e1 = 0 := by
        rw [← HK.out, List.drop_eq_nil_iff.2 (by rw [HN.out]; omega)]; rfl
      subst he
      have hh := HH.out
      rw [if_pos rfl] at hh
      have HH2 := Lib.hid hh
      have hA2 := hA.below hb (Nat.le_refl _)
      clear hh HH HK
      go_wp2_with (go_at_call 53; refine (HC.out _ hA2).mono ?_)
      first | rintro e w1 v rfl hv hb1 | rintro e w1 ⟨⟨v, rfl, hv⟩, hb1⟩
      have hs1 := hb1.size
      have hB1 := below_next hb hb1
      have hv1 := row_lift hv hsz
      have HS := Lib.hid (sortL_is w.heap.size v ls n w1 HN.out hv1 (by omega) hl)
      clear hv
      go_wp2_with (go_at_call 54; refine HS.out.mono ?_)
      first | rintro e w2 ⟨rfl, d, ⟨hp, hasc⟩, hv2, hb2⟩ | rintro e w2 rfl d hp hasc hv2 hb2
      have hB2 := hB1.trans hb2
      have hs2 := hB2.size
      obtain ⟨pv, cv, rfl, hAd, _, _⟩ := OwnLabels.open hv2
      have hdl : d.length = n := hp.length_eq.trans HN.out
      rw [hdl]
      have HDL := Lib.hid hdl
      have HP := Lib.hid hp
      have HAs := Lib.hid hasc
      have HV2 := Lib.hid hv2
      clear hdl hp hasc hv2 hv1 HS
      go_wp2_with fail
      go_loopw [8] (fun i wx => ∃ t : Nat, 1 ≤ t ∧ t ≤ max 1 n ∧ i = .int .i64 t ∧ Hid (∀ j (h1 : j + 1 < d.length), j + 1 < t → Lab.bs d[j].n < Lab.bs d[j + 1].n) ∧ ∃ m, wx = w2.drewN m) (fun i _ => n - (intOf i).toNat)
      case atStart => exact ⟨1, Nat.le_refl _, by omega, rfl, fun j _ h => by omega, 0, rfl⟩
      case round =>
        obtain ⟨t, ht1, ht2, rfl, HK, m, rfl⟩ := hrel
        by_cases hltt : t < n
        · obtain ⟨j, rfl⟩ : ∃ j, t = j + 1 := ⟨t - 1, by omega⟩
          have hj1 : j + 1 < d.length := by rw [HDL.out]; exact hltt
          obtain ⟨b, o, rfl, hc⟩ := hAd.open j (by omega)
          have c0 := (hc (j + 1) hj1).1
          have c1 := (hc j (by omega)).1
          have hle := (List.pairwise_iff_getElem.1 HAs.out) j (j + 1) (by omega) hj1 (by omega)
          have HDup := Lib.hid (Lab.dup_of HP.out j hj1)
          obtain ⟨x, hx⟩ : ∃ x, d[j + 1] = x := ⟨_, rfl⟩
          obtain ⟨y, hy⟩ : ∃ y, d[j] = y := ⟨_, rfl⟩
          rw [hx] at c0 hle HDup
          rw [hy] at c1 hle HDup
          have HX := Lib.hid hx
          have HY := Lib.hid hy
          obtain ⟨bq, hbq⟩ : ∃ bq, (x.n.toList == y.n.toList) = bq := ⟨_, rfl⟩
          have hbq2 : decide (Lab.bs x.n = Lab.bs y.n) = bq := by
            rw [← hbq, ByteArray.toList_eq, ByteArray.toList_eq, Bool.eq_iff_iff]; simp [Lab.bs]
          have q0 : (0 : Int) ≤ (j : Int) := by omega
          have q1 : (j : Int) < (n : Int) := by omega
          have q2 : ((j : Int) + 1 - 1) = j := by omega
          have q3 : IntKind.i64.wrap (j : Int) = j := by rw [IntKind.wrap_i64]; omega
          have q4 : ((j : Int)).toNat = j := by omega
          have HL := Lib.hid hle
          have HB := Lib.hid hbq2
          clear hx hy hc hle hbq2
          cases bq
          · have HG : Hid (∀ i (h1 : i + 1 < d.length), i + 1 < j + 1 + 1 → Lab.bs d[i].n < Lab.bs d[i + 1].n) := by
              show ∀ i (h1 : i + 1 < d.length), i + 1 < j + 1 + 1 → Lab.bs d[i].n < Lab.bs d[i + 1].n
              intro i h1 h2
              rcases Nat.lt_or_ge (i + 1) (j + 1) with h3 | h3
              · exact HK.out i h1 h3
              · obtain rfl : i = j := by omega
                rw [HX.out, HY.out]
                exact Lab.lt_of_le_ne HL.out (fun e => (of_decide_eq_false HB.out) e.symm)
            go_wp2_with fail
            go_quiet (fail)
            go_wp2_with fail
            go_roundw
            case rel => exact ⟨j + 1 + 1, by omega, by omega, by go_num, HG, _, rfl⟩
            case measure => simp [intOf]; omega
          · have hh := HH2.out
            rw [if_neg (HDup.out (of_decide_eq_true HB.out).symm)] at hh
            simp only [Prod.mk.injEq] at hh
            obtain ⟨rfl, rfl⟩ := hh
            go_wp2_with fail
            go_quiet (fail)
            go_wp2_with fail
            go_ret2
            exact ⟨⟨_, rfl, OwnLabels.nil _ _⟩, below_drewN (below_drewN hB2 m) _⟩
        · have hst : Lab.Strict d := Lab.strict_of_steps d fun i h1 => HK.out i h1 (by have := HDL.out; omega)
          have hds := Lab.srt_uniq HP.out hst
          have hnd : (Lab.names ls).Nodup := ((Lab.names_perm HP.out).nodup_iff).1 (Lab.nodup_of_strict hst)
          have hh := HH2.out
          rw [if_pos hnd, ← hds] at hh
          have hB3 := below_drewN hB2 m
          have HD := Lib.hid (dele_is w.heap.size _ d n (w2.drewN m) HDL.out (show OwnLabels w.heap.size _ d (w2.drewN m) from HV2.out) hs2 hl)
          rw [HDL.out] at HD
          have hfl : (Lab.full d).length ≤ n := by rw [← HDL.out]; exact List.length_filter_le _ _
          obtain ⟨q, hq⟩ : ∃ q, Lab.full d = q := ⟨_, rfl⟩
          rw [hq] at hh HD hfl
          have hle1 : (n : Int) ≤ (t : Int) := by omega
          clear hst hds hnd hq HH2 HAs HP HK hAd HV2
          go_wp2_with (go_at_call 57; refine HD.out.mono ?_)
          first | rintro e w4 u rfl hu hb4 | rintro e w4 ⟨⟨u, rfl, hu⟩, hb4⟩
          obtain ⟨pu, cu, rfl, _, _, _⟩ := OwnLabels.open hu
          have HB := Lib.hid (fun w => bound_is pu q.length cu w (by omega))
          have HU := Lib.hid hu
          have hB4 := hB3.trans hb4
          obtain ⟨Q, hQ⟩ : ∃ Q, q.length = Q := ⟨_, rfl⟩
          rw [hQ] at HB hh ⊢
          by_cases h64 : 64 < Q
          · rw [if_pos h64] at hh
            have HB2 : Hid (∀ w, Calls Tryz.prog 56 #[.slice pu Q cu] w fun e w' => e = .returned (.tuple #[.slice none 0 0, .int .i64 5]) ∧ w = w') := by
              have := HB.out
              rw [if_pos h64] at this
              exact this
            simp only [Prod.mk.injEq] at hh
            obtain ⟨rfl, rfl⟩ := hh
            clear HB hu hQ
            go_wp2_with (go_at_call 56; refine (HB2.out _).mono ?_)
            try rintro e w5 ⟨rfl, rfl⟩
            go_wp2_with fail
            go_ret2
            exact ⟨⟨_, rfl, OwnLabels.nil _ _⟩, hB4⟩
          · rw [if_neg h64] at hh
            have HB2 : Hid (∀ w, Calls Tryz.prog 56 #[.slice pu Q cu] w fun e w' => e = .returned (.tuple #[.slice pu Q cu, .int .i64 0]) ∧ w = w') := by
              have := HB.out
              rw [if_neg h64] at this
              exact this
            simp only [Prod.mk.injEq] at hh
            obtain ⟨rfl, rfl⟩ := hh
            have HQ := Lib.hid hQ
            clear HB hu hQ
            go_wp2_with (go_at_call 56; refine (HB2.out _).mono ?_)
            try rintro e w5 ⟨rfl, rfl⟩
            go_wp2_with fail
            go_ret2
            exact ⟨⟨_, rfl, by rw [← HQ.out]; exact HU.out⟩, hB4⟩
end Go.Proofs.YtbilaghljlobpaaGreat
