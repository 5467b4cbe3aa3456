/- Slices of bytes that a call makes itself by append, and the strings that they become. -/
import Derived.Test.YthnaninhbofeoaaGreatDoorBld
import Derived.Laws.BytesArg
namespace Go.Proofs.YthnaninhbofeoaaGreatDoor
open Go.RowKit

/-- v is a slice of bytes of the call's own (blocks from B on); it holds l -/
def OwnBytes (B : Nat) (v : Value) (l : List UInt8) (w : World) : Prop := w.ownsRow B 5 1 v l.length (Lib.byteCells l)

theorem own_nil (B : Nat) (w : World) : OwnBytes B (.slice none 0 0) [] w := World.ownsRow_nil _ _ _ _
theorem own_alloc {B : Nat} {v : Value} {l : List UInt8} {w : World} (h : OwnBytes B v l w) (o : Obj) : OwnBytes B v l (w.alloc o) := World.ownsRow.alloc h o
theorem own_drewN {B : Nat} {v : Value} {l : List UInt8} {w : World} (h : OwnBytes B v l w) (n : Nat) : OwnBytes B v l (w.drewN n) := h

/-- what was made stays while a callee leaves what there is alone -/
theorem own_below {B C : Nat} {v : Value} {l : List UInt8} {w w' : World} (h : OwnBytes B v l w) (hb : Below C w w') (hC : w.heap.size ≤ C) : OwnBytes B v l w' := by
  obtain ⟨h1, h2⟩ := h
  refine ⟨h1, ?_⟩
  rcases h2 with h2 | ⟨g, cap, cur, hv, hg, hh, r⟩
  · exact .inl h2
  · exact .inr ⟨g, cap, cur, hv, hg, (hb.block g (Nat.lt_of_lt_of_le (lt_of_heap hh) hC)).trans hh, r⟩

theorem addr0 (g j : Nat) : (⟨g, 0, none⟩ : Addr).add j = ⟨g, j, none⟩ := by
  simp only [Addr.add]
  split <;> simp_all

theorem byteCells_one (l : List UInt8) : ∀ u ∈ Lib.byteCells l, u.oneCell' = true := by
  intro u hu
  simp only [Lib.byteCells, List.mem_map] at hu
  obtain ⟨c, _, rfl⟩ := hu
  rfl

/-- 'append(v, x, ..)' of bytes written out: they lie in a new block -/
theorem wpList_push {ops : Array Oper} {rest : List Oper} {o : Oper} {a : Act} {Q : Exit → Act → World → Prop} (hgd : o.guard = none) (s x : Operand)
    (ho : o.op = .call { callee := .builtin .append, args := #[s, x], argTypes := #[44, 44] })
    (B : Nat) (v : Value) (l : List UInt8) (wr : World) (hs : a.eval s = v) (hown : OwnBytes B v l wr) (xs : List UInt8) (C : Array Value) (c : Nat) (hC : C = (Lib.byteCells xs).toArray)
    (hx : a.eval x = .slice (some ⟨wr.heap.size, 0, none⟩) xs.length c) (hlen : l.length + xs.length ≤ 140737488355328) (hB : B ≤ wr.heap.size)
    (h : ∀ v' w', OwnBytes B v' (l ++ xs) w' → (wr.alloc (.cells C 5)).grownBy w' v.ownBlock → wpList Tryz.prog ops Q rest (a.put o.dst v') w') :
    wpList Tryz.prog ops Q (o :: rest) a (wr.alloc (.cells C 5)) := by
  obtain ⟨i0, hi, hz0, hz1, hz2⟩ := info_parts infoByte
  subst hC
  refine wpList_append_own _ hgd s x 44 ho B 5 i0 (.int .u8 0) 1 1 Tryz.underlying44 hi hz0 hz1 hz2 rfl (by decide) v l.length (Lib.byteCells l) hs (own_alloc hown _) ⟨wr.heap.size, 0, none⟩ xs.length c (Lib.byteCells xs) hx ?_ ?_ (byteCells_one _) ?_ ?_ ?_ ?_
  · rw [Lib.byteCells_length]; omega
  · intro j u hj
    have e : (wr.alloc (.cells (Lib.byteCells xs).toArray 5)).cell? ((⟨wr.heap.size, 0, none⟩ : Addr).add j) = (Lib.byteCells xs).toArray[j]? := by
      rw [addr0]; simp
    rw [e]; simpa using hj
  · unfold maxLen; omega
  · omega
  · simp; omega
  · intro v' w' h1 h2 _
    refine h v' w' ?_ h2
    unfold OwnBytes
    rw [Lib.byteCells_append, List.length_append]
    exact h1

/-- 'string(v)' -/
theorem conv_own {B : Nat} {v : Value} {l : List UInt8} {w : World} (h : OwnBytes B v l w) : (convert 44 9 v).run Tryz.prog w = .ok (.string ⟨l.toArray⟩) w := by
  obtain ⟨h1, h2⟩ := h
  rcases h2 with ⟨rfl, h0⟩ | ⟨g, cap, cur, rfl, hg, hh, hn, hc, hcs, ht⟩
  · obtain rfl : l = [] := List.length_eq_zero_iff.1 h0
    exact run_convert_bytes_nil (P := Tryz.prog) w 44 5 Tryz.underlying44 Tryz.underlying5 0 0 _ Tryz.underlying9
  · refine run_convert_bytes_back w 44 9 5 ⟨g, 0, none⟩ cap l Tryz.underlying44 Tryz.underlying5 Tryz.underlying9 ?_
    intro j hj
    have e : w.cell? ((⟨g, 0, none⟩ : Addr).add j) = cur[j]? := by
      rw [addr0]; exact Lib.cell_of_heap hh j
    rw [e]
    have e2 : (cur.toList.take (l.length * 1))[j]? = some (.int .u8 (l[j].toNat : Int)) := by
      rw [ht]; simp [Lib.byteCells, hj]
    rw [List.getElem?_take_of_lt (by omega)] at e2
    simpa using e2
end Go.Proofs.YthnaninhbofeoaaGreatDoor
