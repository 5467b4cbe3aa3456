/- The sort of indexes by keys: slices.SortFunc at integers, under the closure of canon.Sort. -/
import Derived.Test.YthnaninhbofeoaaGreatDoorKeyC
import Derived.Test.YthnaninhbofeoaaGreatDoorShelfI
import Derived.Sort.OwnSorted
import Derived.Shelf.SlSortCmp.NoneTotal
import Derived.Laws.OwnMore
namespace Go.Proofs.YthnaninhbofeoaaGreatDoor
open Go.RowKit Go.Sort Go.Shelf

section
variable {α : Type} [Inhabited α] (enc : α → Value)
theorem Srt.heap {w : World} {g n : Nat} {os : Array Obj} {cur : Array Value} {e : TypeId} {fr : Nat × Nat} (d : Array α) (hb : w.heap[g]? = some (.cells cur e fr)) :
    (grow (putRow enc (Sort.ahead w n) g 0 d) os).heap[g]? = some (.cells (putCells enc 0 d cur) e fr) := by
  have hg : g < w.heap.size := (Array.getElem?_eq_some_iff.1 hb).1
  rw [heap_grow_old _ _ (by simpa using hg)]
  simp [putRow, mapBlock, Sort.ahead, Array.getElem?_modify, hb, onCells]
theorem Srt.grownBy {w : World} {g n : Nat} {os : Array Obj} (d : Array α) : w.grownBy (grow (putRow enc (Sort.ahead w n) g 0 d) os) (some g) := by
  refine ⟨rfl, rfl, rfl, by simp, fun k hk hne => ?_⟩
  rw [heap_grow_old _ _ (by simpa using hk)]
  have : g ≠ k := fun e => hne (by rw [e])
  simp [putRow, mapBlock, Sort.ahead, Array.getElem?_modify, this]
theorem Srt.take (cur : Array Value) (ts : List α) (h : ts.length ≤ cur.size) : (putCells enc 0 ts.toArray cur).toList.take ts.length = ts.map enc := by
  apply List.ext_getElem?
  intro j
  by_cases hj : j < ts.length
  · rw [List.getElem?_take_of_lt hj, Array.getElem?_toList]
    simp [putCells, hj, show j < cur.size by omega]
  · rw [List.getElem?_take_eq_none (by omega), List.getElem?_eq_none (by simp; omega)]
end

def Can.ienc {m : Nat} (i : Fin (m + 1)) : Value := .int .i64 ((i.val : Nat) : Int)
def Can.kat (ks : List ByteArray) (i : Nat) : List UInt8 := Lab.bs (ks.getD i ⟨#[]⟩)
def Can.icf (ks : List ByteArray) {m : Nat} (i k : Fin (m + 1)) : Int := Lib.compareBytes (Can.kat ks i.val) (Can.kat ks k.val)
theorem Can.icf_lt (ks : List ByteArray) {m : Nat} (x y : Fin (m + 1)) : ltOf (Can.icf ks) x y = decide (Can.kat ks x.val < Can.kat ks y.val) := by
  unfold ltOf Can.icf
  rw [Can.cmp_law]
  by_cases h1 : Can.kat ks x.val < Can.kat ks y.val
  · rw [if_pos h1, decide_eq_true h1]; rfl
  · rw [if_neg h1, decide_eq_false h1]
    by_cases h2 : Can.kat ks x.val = Can.kat ks y.val
    · rw [if_pos h2]; rfl
    · rw [if_neg h2]; rfl
theorem Can.iswo (ks : List ByteArray) (m : Nat) : SWO (ltOf (Can.icf ks (m := m))) where
  irrefl x := by rw [Can.icf_lt]; exact decide_eq_false (List.lt_irrefl _)
  trans x y z h1 h2 := by
    rw [Can.icf_lt, decide_eq_true_eq] at *
    exact List.lt_trans h1 h2
  ntrans x y z h1 h2 := by
    rw [Can.icf_lt, decide_eq_false_iff_not, List.not_lt] at *
    exact List.le_trans h2 h1

set_option maxHeartbeats 1600000 in
set_option maxRecDepth 100000 in
/-- the closure compares the keys of two indexes -/
theorem sortCmp_is (ks : List ByteArray) (n g cc pk i k : Nat) (w : World) (hn : ks.length = n) (hi : i < n) (hk : k < n) (hc : w.cell? ⟨pk, 0, none⟩ = some (.slice (some ⟨g, 0, none⟩) n cc)) (hks : ∀ j x, ks[j]? = some x → w.cell? ⟨g, j, none⟩ = some (.string x)) :
    Calls Tryz.prog 35 #[.int .i64 (i : Int), .int .i64 (k : Int), .pointer (some ⟨pk, 0, none⟩)] w fun e w' => e = .returned (.int .i64 (Lib.compareBytes (Can.kat ks i) (Can.kat ks k))) ∧ ∃ q, w' = w.drewN q := by
  obtain ⟨x, hx⟩ : ∃ x, ks[i]? = some x := ⟨_, List.getElem?_eq_getElem (by omega)⟩
  obtain ⟨y, hy⟩ : ∃ y, ks[k]? = some y := ⟨_, List.getElem?_eq_getElem (by omega)⟩
  have ex : Can.kat ks i = x.data.toList := by unfold Can.kat; simp [List.getD, hx, Lab.bs]
  have ey : Can.kat ks k = y.data.toList := by unfold Can.kat; simp [List.getD, hy, Lab.bs]
  rw [ex, ey]
  have d0 := hks i x hx
  have d1 := hks k y hy
  have HS := Lib.hid (fun n : Nat => show Calls Tryz.prog 36 #[.string x, .string y] (w.drewN n) (fun e w' => e = .returned (.int .i64 (Lib.compareBytes x.data.toList y.data.toList)) ∧ ∃ m, w' = (w.drewN n).drewN m) from (Tryz.strings_Compare x y (w.drewN n)).mono fun e w' ⟨h1, h2⟩ => ⟨h1, 0, h2⟩)
  have n1 : (0 : Int) ≤ (i : Int) := by omega
  have n2 : (i : Int) < (n : Int) := by omega
  have n3 : (0 : Int) ≤ (k : Int) := by omega
  have n4 : (k : Int) < (n : Int) := by omega
  obtain ⟨R, hR⟩ : ∃ R, Lib.compareBytes x.data.toList y.data.toList = R := ⟨_, rfl⟩
  rw [hR] at HS ⊢
  clear hx hy ex ey hks hR hn
  go_enter Tryz.func35, Tryz.ntmps35
  go_wp2_with fail
  go_quiet ((go_at_call 36; exact Calls.quiet_of (HS.out _)))
  go_wp2_with fail
  go_ret
  exact ⟨rfl, _, rfl⟩

set_option maxHeartbeats 1600000 in
set_option maxRecDepth 100000 in
/-- THE SORT: the indexes permuted, their keys ascending -/
theorem sortI_is (B : Nat) (v : Value) (ds : List Nat) (ks : List ByteArray) (n gk cc pk : Nat) (w : World) (hn : ks.length = n) (hn2 : n ≤ 1000) (hds : ∀ i ∈ ds, i < n) (h : OwnInts B v (ds.map fun i => ((i : Nat) : Int)) w) (hB : B ≤ w.heap.size)
    (hpk : pk < B) (hkk : 0 < n → gk < B ∧ w.cell? ⟨pk, 0, none⟩ = some (.slice (some ⟨gk, 0, none⟩) n cc) ∧ ∀ j x, ks[j]? = some x → w.cell? ⟨gk, j, none⟩ = some (.string x)) (hl : ds.length ≤ 100000) :
    Calls Tryz.prog 34 #[v, .func (.func 35) #[] #[.pointer (some ⟨pk, 0, none⟩)]] w fun e w' => e = .returned (.tuple #[]) ∧ ∃ d : List Nat, (d.Perm ds ∧ d.Pairwise fun a b => Can.kat ks a ≤ Can.kat ks b) ∧ OwnInts B v (d.map fun i => ((i : Nat) : Int)) w' ∧ Below B w w' := by
  rcases h.2 with ⟨rfl, h0⟩ | ⟨g, cap, cur, rfl, hg, hh, h1, h2, h3, h4⟩
  · have hcon := AnyF.slices_SortFunc_none { Tryz.sortI with } none 0 (.func (.func 35) #[] #[.pointer (some ⟨pk, 0, none⟩)]) w
    change Calls Tryz.prog 34 _ _ _ at hcon
    have hls : ds = [] := by simpa using h0
    refine hcon.mono fun e w' ⟨h1, h2⟩ => ⟨h1, [], ⟨by rw [hls], List.Pairwise.nil⟩, World.ownsRow_nil _ _ _ _, by rw [h2]; exact Below.refl _ _⟩
  · rw [List.length_map] at h1 h4 ⊢
    cases n with
    | zero =>
      have hls : ds = [] := by
        cases ds with
        | nil => rfl
        | cons a r => exact absurd (hds a List.mem_cons_self) (by omega)
      subst hls
      have hcon := AnyF.slices_SortFunc_none { Tryz.sortI with } (some ⟨g, 0, none⟩) cap (.func (.func 35) #[] #[.pointer (some ⟨pk, 0, none⟩)]) w
      change Calls Tryz.prog 34 _ _ _ at hcon
      exact hcon.mono fun e w' ⟨h1, h2⟩ => ⟨h1, [], ⟨List.Perm.refl _, List.Pairwise.nil⟩, by rw [h2]; exact h, by rw [h2]; exact Below.refl _ _⟩
    | succ m =>
      obtain ⟨hgk, hc, hks⟩ := hkk (Nat.succ_pos m)
      have hlt := lt_of_heap hh
      have eg : ∀ args w, (callFunc 35 args).run Tryz.prog w = .ok (.enter 35 args) w := enters_of Tryz.func35 (by kernel_rfl) rfl
      obtain ⟨fs, hfs⟩ : ∃ fs : List (Fin (m + 1)), fs = ds.map fun i => ⟨i % (m + 1), Nat.mod_lt _ (by omega)⟩ := ⟨_, rfl⟩
      have hfl : fs.length = ds.length := by rw [hfs]; exact List.length_map _
      have hfe : fs.map (fun x => x.val) = ds := by
        rw [hfs, List.map_map]
        conv => rhs; rw [← List.map_id ds]
        exact List.map_congr_left fun i hi => Nat.mod_eq_of_lt (hds i hi)
      have hfv : fs.map Can.ienc = ds.map fun i => Value.int .i64 ((i : Nat) : Int) := by
        have e0 : fs.map Can.ienc = (fs.map fun x => x.val).map fun i => Value.int .i64 ((i : Nat) : Int) := by
          rw [List.map_map]
          rfl
        rw [e0, hfe]
      have hsz : fs.toArray.size = ds.length := by rw [List.size_toArray]; exact hfl
      have h4' : cur.toList.take ds.length = fs.map Can.ienc := by
        rw [hfv, ← Nat.mul_one ds.length, h4, List.map_map]
        rfl
      have hH : Holds Can.ienc w g 0 fs.toArray := by
        intro j hj
        rw [hsz] at hj
        refine ⟨?_, Lib.frozen_of_heap hh _⟩
        rw [Nat.zero_add, Lib.cell_of_heap hh, ← Array.getElem?_toList]
        have e1 : (cur.toList.take ds.length)[j]? = (fs.map Can.ienc)[j]? := by rw [h4']
        rw [List.getElem?_take_of_lt hj] at e1
        rw [e1, List.getElem?_map, List.getElem?_eq_getElem (by omega)]
        simp [hfl, hj]
      have hcmp : CmpLays1 Tryz.prog 35 #[.pointer (some ⟨pk, 0, none⟩)] Can.ienc (Can.icf ks (m := m)) g 0 fs.toArray.size w := by
        intro q os dk _ x y
        have hgr : w.grownBy (sortWorld Can.ienc w g 0 q dk os) (some g) := Srt.grownBy Can.ienc dk
        have far : ∀ b o u, b < B → w.cell? ⟨b, o, none⟩ = some u → (sortWorld Can.ienc w g 0 q dk os).cell? ⟨b, o, none⟩ = some u := fun b o u hb hcell => by
          rw [hgr.cell_far _ (by show b < _; omega) (fun e => by simp at e; omega)]
          exact hcell
        refine (sortCmp_is ks (m + 1) gk cc pk x.val y.val (sortWorld Can.ienc w g 0 q dk os) hn x.isLt y.isLt (far _ _ _ hpk hc) (fun j u hj => far _ _ _ hgk (hks j u hj))).mono fun e w' ⟨h1, q', h2⟩ => ⟨h1, q', #[], by rw [h2, grow_empty]⟩
      have hcon := Any.slices_SortFunc Tryz.sortI Can.ienc (fun _ => rfl) (Can.icf ks (m := m)) (Can.iswo ks m) 35 #[.pointer (some ⟨pk, 0, none⟩)] g 0 cap fs.toArray w eg hcmp hH hlt (by rw [hsz]; omega)
      change Calls Tryz.prog 34 _ _ _ at hcon
      rw [hsz] at hcon
      refine hcon.mono fun e w' ⟨r1, d', q, os, hp, hs, hw⟩ => ?_
      obtain ⟨p1, _, p3⟩ := hp
      have hd : d'.size = ds.length := by rw [p1, hsz]
      have hdl : d'.toList.length = ds.length := by rw [Array.length_toList]; exact hd
      have e1 : (d'.extract 0 ds.length).toList = d'.toList := by rw [← hd, Array.extract_size]
      have e2 : (fs.toArray.extract 0 ds.length).toList = fs := by rw [← hsz, Array.extract_size]
      rw [e1, e2] at p3
      refine ⟨r1, d'.toList.map (fun x => x.val), ⟨by rw [← hfe]; exact p3.map _, ?_⟩, ?_, ?_⟩
      · rw [List.pairwise_map, List.pairwise_iff_getElem]
        intro i j hi hj hij
        have := hs i j (Nat.zero_le _) hij (by omega)
        rw [Can.icf_lt, decide_eq_false_iff_not, List.not_lt] at this
        rw [getElem!_pos d' i (by omega), getElem!_pos d' j (by omega)] at this
        simpa using this
      · rw [hw]
        unfold sortWorld OwnInts
        rw [List.length_map, List.length_map, hdl]
        refine ⟨by simp [hd], .inr ⟨g, cap, _, rfl, hg, Srt.heap Can.ienc _ hh, h1, h2, by simpa [putCells] using h3, ?_⟩⟩
        rw [Nat.mul_one]
        have := Srt.take Can.ienc cur d'.toList (by omega)
        rw [Array.toArray_toList, hdl] at this
        rw [this, List.map_map, List.map_map]
        rfl
      · rw [hw]
        exact (Below.refl _ _).grown (Srt.grownBy Can.ienc d') hB (fun k hk => by cases hk; exact hg)
end Go.Proofs.YthnaninhbofeoaaGreatDoor
