/- Contracts in the form the laws' walks want: labels that come out lie at an address. Names in memory. -/
import Derived.Test.YtflmojjpdmbnaaaL4N
import Derived.Test.YtflmojjpdmbnaaaL4Y
namespace Go.Proofs.Ytflmojjpdmbnaaa
open Go.RowKit

theorem Lab.Good.fit {ls : List Lab.L} (h : Lab.Good ls) : Lab.Fit maxLen ls := fun x hx => by
  have := (Lab.right_fit ls h.r).1 x hx
  unfold maxLen
  omega
theorem Lab.fit_of_one {ls : List Lab.L} (h : ∀ x ∈ ls, Lab.one x = 0) : Lab.Fit maxLen ls := fun x hx => by
  have := Lab.one_fit x (h x hx)
  unfold maxLen
  omega
theorem OwnLabels.at {B n c : Nat} {p : Option Addr} {ls : List Lab.L} {w : World} (h : OwnLabels B (.slice p n c) ls w) : Lab.At p ls w := by
  obtain ⟨p', c', e, hA, _⟩ := OwnLabels.open h
  simp only [Value.slice.injEq] at e
  rw [e.1]
  exact hA
/-- what comes out, opened -/
theorem opened {f : FuncId} {args : Array Value} {w : World} {r : List Lab.L} {n B : Nat} {er : Value} (hn : r.length = n) (h : Calls Try.prog f args w fun e w' => (∃ v, e = .returned (.tuple #[v, er]) ∧ OwnLabels B v r w') ∧ Below w.heap.size w w') :
    Calls Try.prog f args w fun e w' => (∃ p c, e = .returned (.tuple #[.slice p n c, er]) ∧ Lab.At p r w') ∧ Below w.heap.size w w' :=
  h.mono fun e w' ⟨⟨v, he, hv⟩, hb⟩ => by
    obtain ⟨p, c, rfl, hA, _⟩ := OwnLabels.open hv
    rw [hn] at he
    exact ⟨⟨p, c, he, hA⟩, hb⟩
theorem opened1 {f : FuncId} {args : Array Value} {w : World} {r : List Lab.L} {n B : Nat} (hn : r.length = n) (h : Calls Try.prog f args w fun e w' => (∃ v, e = .returned v ∧ OwnLabels B v r w') ∧ Below w.heap.size w w') :
    Calls Try.prog f args w fun e w' => (∃ p c, e = .returned (.slice p n c) ∧ Lab.At p r w') ∧ Below w.heap.size w w' :=
  h.mono fun e w' ⟨⟨v, he, hv⟩, hb⟩ => by
    obtain ⟨p, c, rfl, hA, _⟩ := OwnLabels.open hv
    rw [hn] at he
    exact ⟨⟨p, c, he, hA⟩, hb⟩
/-- SameLabels of the same labels -/
theorem same_below (p1 p2 : Option Addr) (ls : List Lab.L) (n c1 c2 : Nat) (w : World) (hn : ls.length = n) (hA : Lab.At p1 ls w) (hB : Lab.At p2 ls w) (hl : n ≤ maxLen) :
    Calls Try.prog 17 #[.slice p1 n c1, .slice p2 n c2] w fun e w' => e = .returned (.bool true) ∧ Below w.heap.size w w' :=
  (same_true p1 p2 ls n c1 c2 w hn hA hB hl).mono fun e w' ⟨he, k, hk⟩ => ⟨he, by rw [hk]; exact below_drewN (Below.refl _ _) k⟩
def Lab.nameC : Array Value := (Lab.nameL.map Value.string).toArray
theorem names_below (w : World) :
    Calls Try.prog 18 #[] w fun e w' => (e = .returned (.slice (some ⟨w.heap.size, 0, none⟩) 16 16) ∧ w'.heap[w.heap.size]? = some (.cells Lab.nameC 9)) ∧ Below w.heap.size w w' :=
  (names_is w).mono fun e w' ⟨he, hw⟩ => ⟨⟨he, by rw [hw]; exact alloc_new _ _⟩, by rw [hw]; exact (Below.refl _ _).alloc (Nat.le_refl _) _⟩
theorem Lab.name_at {g : Nat} {w : World} (h : w.heap[g]? = some (.cells Lab.nameC 9)) (k : Nat) (hk : k < 16) : w.cell? ⟨g, k, none⟩ = some (.string (Lab.nameL[k]'hk)) := by
  rw [Lib.cell_of_heap h]
  unfold Lab.nameC
  rw [List.getElem?_toArray, List.getElem?_map, List.getElem?_eq_getElem (show k < Lab.nameL.length from hk)]
  rfl
theorem Lab.isEmpty_iff (b : ByteArray) : b.toList.isEmpty = (Lab.bs b).isEmpty := by rw [ByteArray.toList_eq]; rfl
end Go.Proofs.Ytflmojjpdmbnaaa
