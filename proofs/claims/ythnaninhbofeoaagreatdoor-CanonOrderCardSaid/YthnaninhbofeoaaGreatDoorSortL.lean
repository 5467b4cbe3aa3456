/- Rows of labels under the library's sort; rows of the call's own under stores. -/
import Derived.Test.YthnaninhbofeoaaGreatDoorCanO
import Derived.Sort.OwnSorted
import Derived.Shelf.SlSortCmp.WholeK
import Derived.Laws.OwnMore
namespace Go.Proofs.YthnaninhbofeoaaGreatDoor
open Go.RowKit Go.Sort Go.Shelf

instance : Inhabited Lab.L := ⟨⟨⟨#[]⟩, ⟨#[]⟩⟩⟩
def Lab.enc (x : Lab.L) : List Value := [.string x.n, .string x.v]

theorem Lab.flat_is (ls : List Lab.L) : flatK Lab.enc 2 ls.toArray = (Lab.cells ls).toArray := by
  apply Array.ext
  · rw [size_flatK, List.size_toArray, List.size_toArray, Lab.cells_length]
  · intro t h1 h2
    have ht : t < ls.length * 2 := by rw [size_flatK, List.size_toArray] at h1; exact h1
    have hk : t / 2 < ls.length := by omega
    have hg := Lab.cells_get ls (t / 2) hk
    have hx : ls.toArray[t / 2]! = ls[t / 2] := by
      rw [getElem!_pos ls.toArray (t / 2) (by rw [List.size_toArray]; exact hk)]; simp
    have e1 : (flatK Lab.enc 2 ls.toArray)[t] = (Lab.enc ls[t / 2])[t % 2]! := by
      have := get_flatK Lab.enc 2 ls.toArray t (by rw [List.size_toArray]; exact ht)
      rw [getElem!_pos (flatK Lab.enc 2 ls.toArray) t h1, hx] at this
      exact this
    rw [e1]
    have e2 : (Lab.cells ls)[t]? = some ((Lab.cells ls).toArray[t]) := by
      rw [List.getElem_toArray]; exact List.getElem?_eq_getElem _
    rcases Nat.mod_two_eq_zero_or_one t with h | h
    · have e : t / 2 * 2 = t := by omega
      rw [e] at hg
      rw [hg.1] at e2
      rw [h]
      exact (Option.some.inj e2)
    · have e : t / 2 * 2 + 1 = t := by omega
      rw [e] at hg
      rw [hg.2] at e2
      rw [h]
      exact (Option.some.inj e2)

theorem heap_put {w : World} {g n : Nat} {os : Array Obj} {cur : Array Value} {e : TypeId} {fr : Nat × Nat} (F : Array Value) (hb : w.heap[g]? = some (.cells cur e fr)) :
    (grow (putRow id (Sort.ahead w n) g 0 F) os).heap[g]? = some (.cells (putCells id 0 F cur) e fr) := by
  have hg : g < w.heap.size := (Array.getElem?_eq_some_iff.1 hb).1
  rw [heap_grow_old _ _ (by simpa using hg)]
  simp [putRow, mapBlock, Sort.ahead, Array.getElem?_modify, hb, onCells]
theorem grownBy_put {w : World} {g n : Nat} {os : Array Obj} (F : Array Value) : w.grownBy (grow (putRow id (Sort.ahead w n) g 0 F) os) (some g) := by
  refine ⟨rfl, rfl, rfl, by simp, fun k hk hne => ?_⟩
  rw [heap_grow_old _ _ (by simpa using hk)]
  have : g ≠ k := fun e => hne (by rw [e])
  simp [putRow, mapBlock, Sort.ahead, Array.getElem?_modify, this]
theorem take_put (cur : Array Value) (xs : List Value) (h : xs.length ≤ cur.size) : (putCells id 0 xs.toArray cur).toList.take xs.length = xs := by
  apply List.ext_getElem?
  intro j
  by_cases hj : j < xs.length
  · rw [List.getElem?_take_of_lt hj, Array.getElem?_toList]
    simp [putCells, hj, show j < cur.size by omega]
  · rw [List.getElem?_take_eq_none (by omega), List.getElem?_eq_none (by omega)]

/-- the row that a sort asks for -/
theorem OwnLabels.holds {B g cap n : Nat} {l : List Lab.L} {w : World} (h : OwnLabels B (.slice (some ⟨g, 0, none⟩) n cap) l w) (hn : l.length = n) : HoldsK Lab.enc 2 w g 0 l.toArray := by
  unfold HoldsK
  rw [Lab.flat_is]
  intro j hj
  rw [List.size_toArray, Lab.cells_length] at hj
  subst hn
  refine ⟨?_, World.ownsRow.frozenAt h _⟩
  rw [Nat.zero_add, World.ownsRow.cellAt h j hj]
  rw [getElem!_pos (Lab.cells l).toArray j (by rw [List.size_toArray, Lab.cells_length]; exact hj), List.getElem_toArray]
  exact List.getElem?_eq_getElem _
/-- behind the sort the same slice holds the other labels -/
theorem OwnLabels.sorted {B g cap n q : Nat} {l l' : List Lab.L} {os : Array Obj} {w : World} (h : OwnLabels B (.slice (some ⟨g, 0, none⟩) n cap) l w) (hn : l.length = n) (hl : l'.length = n) :
    OwnLabels B (.slice (some ⟨g, 0, none⟩) n cap) l' (sortWorldK Lab.enc 2 w g 0 q l'.toArray os) := by
  subst hn
  obtain ⟨h1, h2⟩ := h
  rcases h2 with ⟨h2, _⟩ | ⟨g', cap', cur, hv, hg, hh, h3, h4, h5, h6⟩
  · cases h2
  · cases hv
    unfold OwnLabels sortWorldK putRowK
    rw [Lab.flat_is, hl]
    have hc : (Lab.cells l').length = l.length * 2 := by rw [Lab.cells_length, hl]
    refine ⟨hc, .inr ⟨g, cap, _, rfl, hg, heap_put _ hh, h3, h4, by simpa [putCells] using h5, ?_⟩⟩
    rw [← hc]
    exact take_put cur _ (by rw [hc, h5]; exact Nat.mul_le_mul_right _ h3)
theorem sorted_below {B g q : Nat} {w0 w : World} {os : Array Obj} (d : Array Lab.L) (hb : Below B w0 w) (hB : B ≤ w.heap.size) (hg : B ≤ g) : Below B w0 (sortWorldK Lab.enc 2 w g 0 q d os) := by
  unfold sortWorldK putRowK
  exact hb.grown (grownBy_put _) hB (fun k hk => by cases hk; exact hg)

/-- a row of the call's own under a run of stores -/
theorem own_setCells {B e sz g n cap : Nat} : ∀ (vs : List Value) (o : Nat) (w : World) (xs : List Value), w.ownsRow B e sz (.slice (some ⟨g, 0, none⟩) n cap) n xs →
    ∃ xs', (w.setCells g o vs).ownsRow B e sz (.slice (some ⟨g, 0, none⟩) n cap) n xs' ∧ (∀ j, j < o → xs'[j]? = xs[j]?) ∧ w.grownBy (w.setCells g o vs) (some g)
  | [], o, w, xs, h => ⟨xs, h, fun _ _ => rfl, ⟨rfl, rfl, rfl, Nat.le_refl _, fun _ _ _ => rfl⟩⟩
  | v :: r, o, w, xs, h => by
    have h1 := World.ownsRow.stored h o v
    obtain ⟨xs', h2, h3, h4⟩ := own_setCells r (o + 1) (w.setCell ⟨g, o, none⟩ v) (xs.set o v) h1.1
    refine ⟨xs', h2, fun j hj => ?_, ?_⟩
    · rw [h3 j (by omega), List.getElem?_set_ne (by omega)]
    · refine ⟨h4.os.trans h1.2.os, h4.tape.trans h1.2.tape, h4.output.trans h1.2.output, Nat.le_trans h1.2.size h4.size, fun k hk hne => ?_⟩
      exact (h4.block k (by simpa using hk) hne).trans (h1.2.block k hk hne)
end Go.Proofs.YthnaninhbofeoaaGreatDoor
