/- Slices of strings, of labels and of integers that a call makes itself by append. -/
import Derived.Test.YtmmijebekipdeaaDoorOwn
import Derived.Lib.AppendStr
namespace Go.Proofs.YtmmijebekipdeaaDoor
open Go.RowKit

theorem infoStr : (Tryd.prog.info? 9).map (fun i => (i.zero, i.size, i.bytes)) = some (some (.string ByteArray.empty), 1, 16) := by kernel_rfl
theorem cell_later {B : Nat} {w w' : World} (h : Below B w w') {a : Addr} {v : Value} (hc : w.cell? a = some v) (hB : w.heap.size ≤ B) : w'.cell? a = some v := by
  rw [h.cell (Nat.lt_of_lt_of_le (World.block_lt_of_cell? w a hc) hB)]
  exact hc
/-- what was made stays while a callee leaves what there is alone -/
theorem row_below {B C e k n : Nat} {v : Value} {xs : List Value} {w w' : World} (h : w.ownsRow B e k v n xs) (hb : Below C w w') (hC : w.heap.size ≤ C) : w'.ownsRow B e k v n xs := by
  obtain ⟨h1, h2⟩ := h
  refine ⟨h1, ?_⟩
  rcases h2 with h2 | ⟨g, cap, cur, hv, hg, hh, r⟩
  · exact .inl h2
  · exact .inr ⟨g, cap, cur, hv, hg, (hb.block g (Nat.lt_of_lt_of_le (lt_of_heap hh) hC)).trans hh, r⟩
/-- a value that stands alone: what is in the blocks behind B is the call's own -/
theorem row_lift {B B' e k n : Nat} {v : Value} {xs : List Value} {w : World} (h : w.ownsRow B e k v n xs) (hB : B' ≤ B) : w.ownsRow B' e k v n xs := by
  obtain ⟨h1, h2⟩ := h
  refine ⟨h1, ?_⟩
  rcases h2 with h2 | ⟨g, cap, cur, hv, hg, r⟩
  · exact .inl h2
  · exact .inr ⟨g, cap, cur, hv, Nat.le_trans hB hg, r⟩

/-- v is a slice of strings of the call's own (blocks from B on); it holds l -/
def OwnTexts (B : Nat) (v : Value) (l : List ByteArray) (w : World) : Prop := w.ownsRow B 9 1 v l.length (l.map Value.string)
theorem OwnTexts.nil (B : Nat) (w : World) : OwnTexts B (.slice none 0 0) [] w := World.ownsRow_nil _ _ _ _
theorem OwnTexts.alloc {B : Nat} {v : Value} {l : List ByteArray} {w : World} (h : OwnTexts B v l w) (o : Obj) : OwnTexts B v l (w.alloc o) := World.ownsRow.alloc h o
theorem OwnTexts.below {B C : Nat} {v : Value} {l : List ByteArray} {w w' : World} (h : OwnTexts B v l w) (hb : Below C w w') (hC : w.heap.size ≤ C) : OwnTexts B v l w' := row_below h hb hC
/-- the strings as they lie in memory -/
theorem OwnTexts.open {B : Nat} {v : Value} {l : List ByteArray} {w : World} (h : OwnTexts B v l w) :
    (v = .slice none 0 0 ∧ l = []) ∨ ∃ g c, v = .slice (some ⟨g, 0, none⟩) l.length c ∧ g < w.heap.size ∧ l.length ≤ c ∧ c ≤ maxLen ∧ ∀ (j : Nat) x, l[j]? = some x → w.cell? ⟨g, j, none⟩ = some (.string x) := by
  obtain ⟨h1, h2⟩ := h
  rcases h2 with ⟨rfl, h0⟩ | ⟨g, cap, cur, rfl, hg, hh, hn, hc, hcs, ht⟩
  · exact .inl ⟨rfl, List.length_eq_zero_iff.1 h0⟩
  · refine .inr ⟨g, cap, rfl, lt_of_heap hh, hn, hc, fun j x hj => ?_⟩
    rw [Lib.cell_of_heap hh, ← Array.getElem?_toList]
    have e : (l.map Value.string)[j]? = some (.string x) := by rw [List.getElem?_map, hj]; rfl
    rw [← ht, List.getElem?_take] at e
    split at e
    · exact e
    · simp at e

/-- 'append(v, x, ..)' of strings written out: they lie in a new block -/
theorem wpList_pushT {ops : Array Oper} {rest : List Oper} {o : Oper} {a : Act} {Q : Exit → Act → World → Prop} (hgd : o.guard = none) (s x : Operand)
    (ho : o.op = .call { callee := .builtin .append, args := #[s, x], argTypes := #[24, 24] })
    (B : Nat) (v : Value) (l : List ByteArray) (wr : World) (hs : a.eval s = v) (hown : OwnTexts B v l wr) (xs : List ByteArray) (C : Array Value) (c : Nat) (hC : C = (xs.map Value.string).toArray)
    (G : Nat) (hx : a.eval x = .slice (some ⟨G, 0, none⟩) xs.length c) (hG : G = wr.heap.size) (hlen : l.length + xs.length ≤ 4294967296) (hB : B ≤ wr.heap.size)
    (h : ∀ v' w', OwnTexts B v' (l ++ xs) w' → (wr.alloc (.cells C 9)).grownBy w' v.ownBlock → wpList Tryd.prog ops Q rest (a.put o.dst v') w') :
    wpList Tryd.prog ops Q (o :: rest) a (wr.alloc (.cells C 9)) := by
  obtain ⟨i0, hi, hz0, hz1, hz2⟩ := info_parts infoStr
  subst hC
  subst hG
  refine wpList_append_own _ hgd s x 24 ho B 9 i0 (.string ByteArray.empty) 1 16 Tryd.underlying24 hi hz0 hz1 hz2 rfl (by decide) v l.length (l.map Value.string) hs (hown.alloc _) ⟨wr.heap.size, 0, none⟩ xs.length c (xs.map Value.string) hx ?_ ?_ ?_ ?_ ?_ ?_ ?_
  · simp
  · intro j u hj
    have e : (wr.alloc (.cells (xs.map Value.string).toArray 9)).cell? ((⟨wr.heap.size, 0, none⟩ : Addr).add j) = (xs.map Value.string).toArray[j]? := by
      rw [addr0]; simp
    rw [e]; simpa using hj
  · intro u hu
    simp only [List.mem_map] at hu
    obtain ⟨x, _, rfl⟩ := hu
    rfl
  · unfold maxLen; omega
  · omega
  · simp; omega
  · intro v' w' h1 h2 _
    refine h v' w' ?_ h2
    unfold OwnTexts
    rw [List.map_append, List.length_append]
    exact h1

end Go.Proofs.YtmmijebekipdeaaDoor
