/- Labels in memory. -/
import Derived.Test.YthnaninhbofeoaaGreatDoorLabB
namespace Go.Proofs.YthnaninhbofeoaaGreatDoor
open Go.RowKit

theorem cell_later {B : Nat} {w w' : World} (h : Below B w w') {a : Addr} {v : Value} (hc : w.cell? a = some v) (hB : w.heap.size ≤ B) : w'.cell? a = some v := by
  rw [h.cell (Nat.lt_of_lt_of_le (World.block_lt_of_cell? w a hc) hB)]
  exact hc

/-- behind p lie labels, two cells each -/
def Lab.At (p : Option Addr) (ls : List Lab.L) (w : World) : Prop :=
  ls = [] ∨ ∃ b o, p = some ⟨b, o, none⟩ ∧ ∀ i (h : i < ls.length), w.cell? ⟨b, o + i * 2, none⟩ = some (.string ls[i].n) ∧ w.cell? ⟨b, o + i * 2 + 1, none⟩ = some (.string ls[i].v)
def Lab.Fit (m : Nat) (ls : List Lab.L) : Prop := ∀ x ∈ ls, x.n.size ≤ m ∧ x.v.size ≤ m

theorem Lab.At.below {p : Option Addr} {ls : List Lab.L} {w w' : World} {C : Nat} (h : Lab.At p ls w) (hb : Below C w w') (hC : w.heap.size ≤ C) : Lab.At p ls w' := by
  rcases h with h | ⟨b, o, hp, hc⟩
  · exact .inl h
  · exact .inr ⟨b, o, hp, fun i hi => ⟨cell_later hb (hc i hi).1 hC, cell_later hb (hc i hi).2 hC⟩⟩
theorem Lab.At.alloc {p : Option Addr} {ls : List Lab.L} {w : World} (h : Lab.At p ls w) (x : Obj) : Lab.At p ls (w.alloc x) :=
  h.below (C := w.heap.size) ((Below.refl _ _).alloc (Nat.le_refl _) _) (Nat.le_refl _)
theorem Lab.At.open {p : Option Addr} {ls : List Lab.L} {w : World} (h : Lab.At p ls w) (k : Nat) (hk : k < ls.length) :
    ∃ b o, p = some ⟨b, o, none⟩ ∧ ∀ i (h : i < ls.length), w.cell? ⟨b, o + i * 2, none⟩ = some (.string ls[i].n) ∧ w.cell? ⟨b, o + i * 2 + 1, none⟩ = some (.string ls[i].v) := by
  rcases h with rfl | h
  · simp at hk
  · exact h

/-- the label before the k-th one -/
def Lab.prev (ls : List Lab.L) : Nat → Option Lab.L
  | 0 => none
  | k + 1 => ls[k]?
theorem Lab.chk_end (ls : List Lab.L) (k : Nat) (q : Option Lab.L) (h : ls.length ≤ k) : Lab.chk k q (ls.drop k) = (-1, 0) := by
  rw [List.drop_eq_nil_iff.2 h]; rfl
theorem Lab.chk_ok (ls : List Lab.L) (k : Nat) (h : k < ls.length) (h0 : Lab.oneAt (Lab.prev ls k) ls[k] = 0) :
    Lab.chk k (Lab.prev ls k) (ls.drop k) = Lab.chk (k + 1) (Lab.prev ls (k + 1)) (ls.drop (k + 1)) := by
  have e : Lab.prev ls (k + 1) = some ls[k] := List.getElem?_eq_getElem h
  rw [List.drop_eq_getElem_cons h, e]
  exact if_pos h0
theorem Lab.chk_bad (ls : List Lab.L) (k : Nat) (h : k < ls.length) (c : Int) (hc : Lab.oneAt (Lab.prev ls k) ls[k] = c) (h0 : c ≠ 0) : Lab.chk k (Lab.prev ls k) (ls.drop k) = ((k : Int), c) := by
  subst hc
  rw [List.drop_eq_getElem_cons h]
  exact if_neg h0
theorem Lab.oneAt_bad (q : Option Lab.L) (x : Lab.L) (c : Int) (h : Lab.one x = c) (hc : c ≠ 0) : Lab.oneAt q x = c := by
  subst h
  unfold Lab.oneAt
  rw [if_neg hc]
theorem Lab.oneAt_empty (q : Option Lab.L) (x : Lab.L) (h : Lab.one x = 0) (hv : Lab.bs x.v = []) : Lab.oneAt q x = 42 := by
  unfold Lab.oneAt
  rw [if_pos h, if_pos hv]
theorem Lab.oneAt_first (x : Lab.L) (h : Lab.one x = 0) (hv : Lab.bs x.v ≠ []) : Lab.oneAt none x = 0 := by
  unfold Lab.oneAt
  rw [if_pos h, if_neg hv]
theorem Lab.oneAt_le (y x : Lab.L) (h : Lab.one x = 0) (hv : Lab.bs x.v ≠ []) (hn : Lab.bs x.n ≤ Lab.bs y.n) : Lab.oneAt (some y) x = 42 := by
  unfold Lab.oneAt
  rw [if_pos h, if_neg hv]
  exact if_pos hn
theorem Lab.oneAt_gt (y x : Lab.L) (h : Lab.one x = 0) (hv : Lab.bs x.v ≠ []) (hn : ¬ Lab.bs x.n ≤ Lab.bs y.n) : Lab.oneAt (some y) x = 0 := by
  unfold Lab.oneAt
  rw [if_pos h, if_neg hv]
  exact if_neg hn
theorem Lab.one_ge (x : Lab.L) : Lab.one x = 0 ∨ (40 ≤ Lab.one x ∧ Lab.one x ≤ 41) := by
  unfold Lab.one
  repeat' split
  all_goals omega
end Go.Proofs.YthnaninhbofeoaaGreatDoor
