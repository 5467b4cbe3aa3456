/- Contracts in the form the laws' walks want (second part): with the capacity; the beginning of labels. -/
import Derived.Test.YtflmojjpdmbnaaaL4Z
namespace Go.Proofs.Ytflmojjpdmbnaaa
open Go.RowKit

theorem openedC {f : FuncId} {args : Array Value} {w : World} {r : List Lab.L} {n B : Nat} {er : Value} (hn : r.length = n) (h : Calls Try.prog f args w fun e w' => (∃ v, e = .returned (.tuple #[v, er]) ∧ OwnLabels B v r w') ∧ Below w.heap.size w w') :
    Calls Try.prog f args w fun e w' => (∃ p c, e = .returned (.tuple #[.slice p n c, er]) ∧ Lab.At p r w' ∧ n ≤ c) ∧ Below w.heap.size w w' :=
  h.mono fun e w' ⟨⟨v, he, hv⟩, hb⟩ => by
    obtain ⟨p, c, rfl, hA, hl, _⟩ := OwnLabels.open hv
    rw [hn] at he hl
    exact ⟨⟨p, c, he, hA, hl⟩, hb⟩
theorem Lab.At.takeN {p : Option Addr} {ls : List Lab.L} {w : World} (h : Lab.At p ls w) (k : Nat) : Lab.At p (ls.take k) w := by
  rcases h with rfl | ⟨b, o, rfl, hc⟩
  · exact .inl (List.take_nil)
  · refine .inr ⟨b, o, rfl, fun i hi => ?_⟩
    have hl : i < ls.length := by rw [List.length_take] at hi; omega
    rw [List.getElem_take]
    exact hc i hl
theorem same_isB (p1 p2 : Option Addr) (a b : List Lab.L) (n m c1 c2 : Nat) (r : Bool) (h : r = true ↔ a = b) (w : World) (hn : a.length = n) (hm : b.length = m) (hA : Lab.At p1 a w) (hB : Lab.At p2 b w) (hl : n ≤ maxLen) (hl2 : m ≤ maxLen) :
    Calls Try.prog 17 #[.slice p1 n c1, .slice p2 m c2] w fun e w' => e = .returned (.bool r) ∧ Below w.heap.size w w' :=
  (same_is p1 p2 a b n m c1 c2 r h w hn hm hA hB hl hl2).mono fun e w' ⟨he, k, hk⟩ => ⟨he, by rw [hk]; exact below_drewN (Below.refl _ _) k⟩
/-- three comparisons -/
theorem Lab.cmp_facts (a b c : List Lab.L) (x y z : Int) (hx : Lab.cmpL a b = x) (hy : Lab.cmpL b c = y) (hz : Lab.cmpL a c = z) :
    (x = -1 ∧ decide (x = 0) = false ∨ x = 0 ∧ decide (x = 0) = true ∨ x = 1 ∧ decide (x = 0) = false) ∧ (y = -1 ∨ y = 0 ∨ y = 1) ∧ (x ≤ 0 → y ≤ 0 → decide (0 < z) = false) ∧ (0 ≤ x → 0 ≤ y → decide (z < 0) = false) ∧ Lab.cmpL b a = -x := by
  refine ⟨?_, ?_, fun h1 h2 => ?_, fun h1 h2 => ?_, by rw [← hx]; exact Lab.cmpL_neg a b⟩
  · rcases Lab.cmpL_range a b with h | h | h <;> rw [hx] at h
    · exact .inl ⟨h, decide_eq_false (by omega)⟩
    · exact .inr (.inl ⟨h, decide_eq_true h⟩)
    · exact .inr (.inr ⟨h, decide_eq_false (by omega)⟩)
  · rw [← hy]; exact Lab.cmpL_range b c
  · have := Lab.cmpL_trans a b c (by omega) (by omega)
    exact decide_eq_false (by omega)
  · have h3 := Lab.cmpL_trans c b a (by rw [Lab.cmpL_neg b c]; omega) (by rw [Lab.cmpL_neg a b]; omega)
    rw [Lab.cmpL_neg a c] at h3
    exact decide_eq_false (by omega)
end Go.Proofs.Ytflmojjpdmbnaaa
