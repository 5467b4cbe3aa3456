/- Slices of strings, of labels and of integers that a call makes itself by append. -/
import Derived.Test.YtpnpgjjbincigaaLabM
import Derived.Test.YtpnpgjjbincigaaOwn
import Derived.Lib.AppendStr
namespace Go.Proofs.Ytpnpgjjbincigaa
open Go.RowKit

theorem infoStr : (Try.prog.info? 9).map (fun i => (i.zero, i.size, i.bytes)) = some (some (.string ByteArray.empty), 1, 16) := by kernel_rfl
theorem infoLab : (Try.prog.info? 37).map (fun i => (i.zero, i.size, i.bytes)) = some (some (.agg #[.string ByteArray.empty, .string ByteArray.empty]), 2, 32) := by kernel_rfl

/-- what was made stays while a callee leaves what there is alone -/
theorem row_below {B C e k n : Nat} {v : Value} {xs : List Value} {w w' : World} (h : w.ownsRow B e k v n xs) (hb : Below C w w') (hC : w.heap.size ≤ C) : w'.ownsRow B e k v n xs := by
  obtain ⟨h1, h2⟩ := h
  refine ⟨h1, ?_⟩
  rcases h2 with h2 | ⟨g, cap, cur, hv, hg, hh, r⟩
  · exact .inl h2
  · exact .inr ⟨g, cap, cur, hv, hg, (hb.block g (Nat.lt_of_lt_of_le (lt_of_heap hh) hC)).trans hh, r⟩
/-- a value that stands alone: what is in the blocks behind B is the call's own -/
theorem row_lift {B B' e k n : Nat} {v : Value} {xs : List Value} {w : World} (h : w.ownsRow B e k v n xs) (hB : B' ≤ B) : w.ownsRow B' e k v n xs := by
  obtain ⟨h1, h2⟩ := h
  refine ⟨h1, ?_⟩
  rcases h2 with h2 | ⟨g, cap, cur, hv, hg, r⟩
  · exact .inl h2
  · exact .inr ⟨g, cap, cur, hv, Nat.le_trans hB hg, r⟩

def Lab.cells (ls : List Lab.L) : List Value := ls.flatMap fun x => [.string x.n, .string x.v]
theorem Lab.cells_length (ls : List Lab.L) : (Lab.cells ls).length = ls.length * 2 := by
  unfold Lab.cells
  induction ls with
  | nil => rfl
  | cons x r ih => simp only [List.flatMap_cons, List.length_append, ih, List.length_cons, List.length_nil]; omega
theorem Lab.cells_append (a b : List Lab.L) : Lab.cells (a ++ b) = Lab.cells a ++ Lab.cells b := by simp [Lab.cells]
theorem Lab.cells_one (ls : List Lab.L) : ∀ u ∈ Lab.cells ls, u.oneCell' = true := by
  intro u hu
  simp only [Lab.cells, List.mem_flatMap] at hu
  obtain ⟨x, _, hx⟩ := hu
  simp at hx
  rcases hx with rfl | rfl <;> rfl
theorem Lab.cells_get (ls : List Lab.L) (i : Nat) (h : i < ls.length) : (Lab.cells ls)[i * 2]? = some (.string ls[i].n) ∧ (Lab.cells ls)[i * 2 + 1]? = some (.string ls[i].v) := by
  induction ls generalizing i with
  | nil => simp at h
  | cons x r ih =>
    cases i with
    | zero => simp [Lab.cells]
    | succ i =>
      have := ih i (by simpa using h)
      have e : Lab.cells (x :: r) = .string x.n :: .string x.v :: Lab.cells r := by simp [Lab.cells]
      rw [e, show (i + 1) * 2 = i * 2 + 1 + 1 by omega]
      simpa using this

/-- v is a slice of strings of the call's own (blocks from B on); it holds l -/
def OwnTexts (B : Nat) (v : Value) (l : List ByteArray) (w : World) : Prop := w.ownsRow B 9 1 v l.length (l.map Value.string)
/-- v is a slice of labels of the call's own -/
def OwnLabels (B : Nat) (v : Value) (l : List Lab.L) (w : World) : Prop := w.ownsRow B 37 2 v l.length (Lab.cells l)

theorem OwnTexts.nil (B : Nat) (w : World) : OwnTexts B (.slice none 0 0) [] w := World.ownsRow_nil _ _ _ _
theorem OwnLabels.nil (B : Nat) (w : World) : OwnLabels B (.slice none 0 0) [] w := World.ownsRow_nil _ _ _ _
theorem OwnTexts.alloc {B : Nat} {v : Value} {l : List ByteArray} {w : World} (h : OwnTexts B v l w) (o : Obj) : OwnTexts B v l (w.alloc o) := World.ownsRow.alloc h o
theorem OwnLabels.alloc {B : Nat} {v : Value} {l : List Lab.L} {w : World} (h : OwnLabels B v l w) (o : Obj) : OwnLabels B v l (w.alloc o) := World.ownsRow.alloc h o
theorem OwnTexts.below {B C : Nat} {v : Value} {l : List ByteArray} {w w' : World} (h : OwnTexts B v l w) (hb : Below C w w') (hC : w.heap.size ≤ C) : OwnTexts B v l w' := row_below h hb hC
theorem OwnLabels.below {B C : Nat} {v : Value} {l : List Lab.L} {w w' : World} (h : OwnLabels B v l w) (hb : Below C w w') (hC : w.heap.size ≤ C) : OwnLabels B v l w' := row_below h hb hC

/-- the labels as they lie in memory -/
theorem OwnLabels.open {B : Nat} {v : Value} {l : List Lab.L} {w : World} (h : OwnLabels B v l w) :
    ∃ p c, v = .slice p l.length c ∧ Lab.At p l w ∧ l.length ≤ c ∧ c ≤ maxLen := by
  obtain ⟨h1, h2⟩ := h
  rcases h2 with ⟨rfl, h0⟩ | ⟨g, cap, cur, rfl, hg, hh, hn, hc, hcs, ht⟩
  · obtain rfl : l = [] := List.length_eq_zero_iff.1 h0
    exact ⟨none, 0, rfl, .inl rfl, by simp, by unfold maxLen; omega⟩
  · refine ⟨_, cap, rfl, .inr ⟨g, 0, rfl, fun i hi => ?_⟩, hn, hc⟩
    have hcell : ∀ j u, (Lab.cells l)[j]? = some u → w.cell? ⟨g, j, none⟩ = some u := by
      intro j u hj
      rw [Lib.cell_of_heap hh, ← Array.getElem?_toList]
      rw [← ht] at hj
      rw [List.getElem?_take] at hj
      split at hj
      · exact hj
      · simp at hj
    have := Lab.cells_get l i hi
    exact ⟨by simpa using hcell _ _ this.1, by simpa using hcell _ _ this.2⟩
/-- the strings as they lie in memory -/
theorem OwnTexts.open {B : Nat} {v : Value} {l : List ByteArray} {w : World} (h : OwnTexts B v l w) :
    (v = .slice none 0 0 ∧ l = []) ∨ ∃ g c, v = .slice (some ⟨g, 0, none⟩) l.length c ∧ g < w.heap.size ∧ l.length ≤ c ∧ c ≤ maxLen ∧ ∀ (j : Nat) x, l[j]? = some x → w.cell? ⟨g, j, none⟩ = some (.string x) := by
  obtain ⟨h1, h2⟩ := h
  rcases h2 with ⟨rfl, h0⟩ | ⟨g, cap, cur, rfl, hg, hh, hn, hc, hcs, ht⟩
  · exact .inl ⟨rfl, List.length_eq_zero_iff.1 h0⟩
  · refine .inr ⟨g, cap, rfl, lt_of_heap hh, hn, hc, fun j x hj => ?_⟩
    rw [Lib.cell_of_heap hh, ← Array.getElem?_toList]
    have e : (l.map Value.string)[j]? = some (.string x) := by rw [List.getElem?_map, hj]; rfl
    rw [← ht, List.getElem?_take] at e
    split at e
    · exact e
    · simp at e

/-- 'append(v, x, ..)' of strings written out: they lie in a new block -/
theorem wpList_pushT {ops : Array Oper} {rest : List Oper} {o : Oper} {a : Act} {Q : Exit → Act → World → Prop} (hgd : o.guard = none) (s x : Operand)
    (ho : o.op = .call { callee := .builtin .append, args := #[s, x], argTypes := #[94, 94] })
    (B : Nat) (v : Value) (l : List ByteArray) (wr : World) (hs : a.eval s = v) (hown : OwnTexts B v l wr) (xs : List ByteArray) (C : Array Value) (c : Nat) (hC : C = (xs.map Value.string).toArray)
    (G : Nat) (hx : a.eval x = .slice (some ⟨G, 0, none⟩) xs.length c) (hG : G = wr.heap.size) (hlen : l.length + xs.length ≤ 4294967296) (hB : B ≤ wr.heap.size)
    (h : ∀ v' w', OwnTexts B v' (l ++ xs) w' → (wr.alloc (.cells C 9)).grownBy w' v.ownBlock → wpList Try.prog ops Q rest (a.put o.dst v') w') :
    wpList Try.prog ops Q (o :: rest) a (wr.alloc (.cells C 9)) := by
  obtain ⟨i0, hi, hz0, hz1, hz2⟩ := info_parts infoStr
  subst hC
  subst hG
  refine wpList_append_own _ hgd s x 94 ho B 9 i0 (.string ByteArray.empty) 1 16 Try.underlying94 hi hz0 hz1 hz2 rfl (by decide) v l.length (l.map Value.string) hs (hown.alloc _) ⟨wr.heap.size, 0, none⟩ xs.length c (xs.map Value.string) hx ?_ ?_ ?_ ?_ ?_ ?_ ?_
  · simp
  · intro j u hj
    have e : (wr.alloc (.cells (xs.map Value.string).toArray 9)).cell? ((⟨wr.heap.size, 0, none⟩ : Addr).add j) = (xs.map Value.string).toArray[j]? := by
      rw [addr0]; simp
    rw [e]; simpa using hj
  · intro u hu
    simp only [List.mem_map] at hu
    obtain ⟨x, _, rfl⟩ := hu
    rfl
  · unfold maxLen; omega
  · omega
  · simp; omega
  · intro v' w' h1 h2 _
    refine h v' w' ?_ h2
    unfold OwnTexts
    rw [List.map_append, List.length_append]
    exact h1

/-- 'append(v, x)' of a label written out -/
theorem wpList_pushL {ops : Array Oper} {rest : List Oper} {o : Oper} {a : Act} {Q : Exit → Act → World → Prop} (T : TypeId) (hT : Try.prog.underlying T = some (.slice 37)) (hgd : o.guard = none) (s x : Operand)
    (ho : o.op = .call { callee := .builtin .append, args := #[s, x], argTypes := #[T, T] })
    (B : Nat) (v : Value) (l : List Lab.L) (wr : World) (hs : a.eval s = v) (hown : OwnLabels B v l wr) (y : Lab.L) (C : Array Value) (c : Nat) (hC : C = #[.string y.n, .string y.v])
    (G : Nat) (hx : a.eval x = .slice (some ⟨G, 0, none⟩) 1 c) (hG : G = wr.heap.size) (hlen : l.length + 1 ≤ 4294967296) (hB : B ≤ wr.heap.size)
    (h : ∀ v' w', OwnLabels B v' (l ++ [y]) w' → (wr.alloc (.cells C 37)).grownBy w' v.ownBlock → wpList Try.prog ops Q rest (a.put o.dst v') w') :
    wpList Try.prog ops Q (o :: rest) a (wr.alloc (.cells C 37)) := by
  obtain ⟨i0, hi, hz0, hz1, hz2⟩ := info_parts infoLab
  subst hC
  subst hG
  refine wpList_append_own _ hgd s x T ho B 37 i0 _ 2 32 hT hi hz0 hz1 hz2 rfl (by decide) v l.length (Lab.cells l) hs (hown.alloc _) ⟨wr.heap.size, 0, none⟩ 1 c (Lab.cells [y]) hx rfl ?_ (Lab.cells_one _) ?_ ?_ ?_ ?_
  · intro j u hj
    have e : (wr.alloc (.cells #[.string y.n, .string y.v] 37)).cell? ((⟨wr.heap.size, 0, none⟩ : Addr).add j) = (#[.string y.n, .string y.v] : Array Value)[j]? := by
      rw [addr0]; simp
    rw [e]; simpa [Lab.cells] using hj
  · unfold maxLen; omega
  · omega
  · simp; omega
  · intro v' w' h1 h2 _
    refine h v' w' ?_ h2
    unfold OwnLabels
    rw [Lab.cells_append, List.length_append]
    exact h1
end Go.Proofs.Ytpnpgjjbincigaa
