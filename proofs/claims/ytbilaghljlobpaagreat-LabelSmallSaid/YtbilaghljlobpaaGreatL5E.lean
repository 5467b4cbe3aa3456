/- Arguments of the laws of chapter 04, as they lie in memory: labels, small numbers, texts. Worlds that differ in a few blocks alone; what lies elsewhere stays. Strings as an argument. -/
import Derived.Test.YtbilaghljlobpaaGreatRows
import Derived.Test.YtbilaghljlobpaaGreatL4R
import Derived.Test.YtbilaghljlobpaaGreatL4I
import Derived.WalkKit
import Derived.ProofKit
import Derived.OpenShut
import Derived.ShutString
import Derived.Carry
import Derived.ChangeSame
import Derived.Deep.DeepHandedRow
import Derived.Deep.SlicePairs
import Derived.Test.YtbilaghljlobpaaGreatL5M
import Derived.SliceStrings
namespace Go.Proofs.YtbilaghljlobpaaGreat
open Go.ChangeShapes Go.WideShapes Go.ChangeAt Go.RowKit
open Go.ChangeMaps (open_string shut_string)

theorem row.own : ownKnob Tryz.prog.godebug = none := by kernel_rfl
theorem row.laidOut : laidOutB Tryz.prog = true := by kernel_rfl
def row.strOf : Value → ByteArray
  | .string s => s
  | _ => ⟨#[]⟩
/-- labels that can be read, as they lie in memory -/
theorem row.open_labels {H : Type} {enc : TypeId × Value → H} {W : World} {t : TypeId} (ht : Tryz.prog.underlying t = some (.slice 31)) {fuel : Nat} {cs : List Value} {x : DataW H × List MemPlace} (h : DataW.trod enc Tryz.prog W 0 (fun _ => true) true fuel t cs = some x) :
    ∃ (a0 : Option Addr) (len cap : Nat) (ls : List Lab.L), cs = [.slice a0 len cap] ∧ ls.length = len ∧ Lab.At a0 ls W ∧ Lab.Fit maxLen ls ∧ (a0 = none → cap = 0) ∧ len ≤ maxLen := by
  rcases Go.Deep.open_slice_pairs ht Tryz.underlying31 (by kernel_rfl) rfl rfl (by kernel_rfl) (by kernel_rfl) h with ⟨rfl, _⟩ | ⟨a, len, cap, m, n, V0, V1, D0, D1, P0, P1, rfl, _, hl, hm, hmm, _, hall⟩
  · exact ⟨none, 0, 0, [], rfl, rfl, .inl rfl, fun x hx => by simp at hx, fun _ => rfl, by simp⟩
  · simp only [if_true] at hmm
    subst hmm
    have h0 : ∀ i, i < len → V0 i = .string (row.strOf (V0 i)) ∧ (row.strOf (V0 i)).size ≤ maxLen := by
      intro i hi
      obtain ⟨s, hs, _, hz⟩ := DataW.trod_string Tryz.underlying9 (hall i (by omega)).2.2.1
      simp only [List.cons.injEq, and_true] at hs
      rw [hs]
      exact ⟨rfl, hz⟩
    have h1 : ∀ i, i < len → V1 i = .string (row.strOf (V1 i)) ∧ (row.strOf (V1 i)).size ≤ maxLen := by
      intro i hi
      obtain ⟨s, hs, _, hz⟩ := DataW.trod_string Tryz.underlying9 (hall i (by omega)).2.2.2
      simp only [List.cons.injEq, and_true] at hs
      rw [hs]
      exact ⟨rfl, hz⟩
    refine ⟨_, len, _, (List.range len).map fun i => ⟨row.strOf (V0 i), row.strOf (V1 i)⟩, rfl, by simp, ?_, ?_, (fun h => by cases h), by omega⟩
    · rcases Nat.eq_zero_or_pos len with rfl | hpos
      · exact .inl rfl
      · obtain ⟨b, o, spot⟩ := a
        have hspot : spot = none := by simpa [Addr.add] using World.cell?_spot (hall 0 (by omega)).1
        subst hspot
        refine .inr ⟨b, o, rfl, fun i hi => ?_⟩
        have hi' : i < len := by simpa using hi
        have e1 : (⟨b, o, none⟩ : Addr).add (i * 2) = ⟨b, o + i * 2, none⟩ := by unfold Addr.add; split <;> simp_all
        have e2 : (⟨b, o, none⟩ : Addr).add (i * 2 + 1) = ⟨b, o + i * 2 + 1, none⟩ := by unfold Addr.add; split <;> simp_all [Nat.add_assoc]
        have c0 := (hall i (by omega)).1
        have c1 := (hall i (by omega)).2.1
        rw [e1, (h0 i hi').1] at c0
        rw [e2, (h1 i hi').1] at c1
        simp only [List.getElem_map, List.getElem_range]
        exact ⟨c0, c1⟩
    · intro x hx
      obtain ⟨i, hi, rfl⟩ := List.mem_map.1 hx
      rw [List.mem_range] at hi
      exact ⟨(h0 i hi).2, (h1 i hi).2⟩
end Go.Proofs.YtbilaghljlobpaaGreat
namespace Go.Proofs.YtbilaghljlobpaaGreat
open Go.RowKit

/-- what there was stays, but for the blocks S -/
def Ext (S : List Nat) (w w' : World) : Prop := w.heap.size ≤ w'.heap.size ∧ ∀ h, h < w.heap.size → h ∉ S → w'.heap[h]? = w.heap[h]?
theorem Ext.refl (S : List Nat) (w : World) : Ext S w w := ⟨Nat.le_refl _, fun _ _ _ => rfl⟩
theorem Ext.trans {S : List Nat} {a b c : World} (h : Ext S a b) (k : Ext S b c) : Ext S a c :=
  ⟨Nat.le_trans h.1 k.1, fun i hi hs => (k.2 i (Nat.lt_of_lt_of_le hi h.1) hs).trans (h.2 i hi hs)⟩
theorem Ext.below {S : List Nat} {w w' : World} (h : Below w.heap.size w w') : Ext S w w' := ⟨h.size, fun i hi _ => h.block i hi⟩
theorem Ext.set {S : List Nat} {w : World} {g i : Nat} {v : Value} (hg : g ∈ S) : Ext S w (w.setCell ⟨g, i, none⟩ v) :=
  ⟨by simp, fun h _ hs => heap_setCell_other w ⟨g, i, none⟩ h v (fun e => hs (e ▸ hg))⟩
theorem Ext.drop {S T : List Nat} {w w' : World} (h : Ext T w w') (hs : ∀ s ∈ T, s ∈ S ∨ w.heap.size ≤ s) : Ext S w w' :=
  ⟨h.1, fun i hi hi2 => h.2 i hi (fun hm => (hs i hm).elim hi2 (fun hx => absurd hi (by omega)))⟩
theorem Ext.block {S : List Nat} {w w' : World} (h : Ext S w w') {b : Nat} {o : Obj} (hb : w.heap[b]? = some o) (hS : b ∉ S) : w'.heap[b]? = some o := (h.2 b (lt_of_heap hb) hS).trans hb
theorem Ext.cell {S : List Nat} {w w' : World} (h : Ext S w w') {a : Addr} {v : Value} (hc : w.cell? a = some v) (hS : a.block ∉ S) : w'.cell? a = some v :=
  (World.cell?_of_block (w := w) (h.2 a.block (World.block_lt_of_cell? w a hc) hS)).trans hc
theorem Lab.At.ext {S : List Nat} {p : Option Addr} {ls : List Lab.L} {w w' : World} (h : Lab.At p ls w) (he : Ext S w w') (hS : ∀ b o, p = some ⟨b, o, none⟩ → b < w.heap.size → b ∉ S) : Lab.At p ls w' := by
  rcases h with h | ⟨b, o, hp, hc⟩
  · exact .inl h
  · refine .inr ⟨b, o, hp, fun i hi => ?_⟩
    have hb := hS b o hp (World.block_lt_of_cell? w _ (hc i hi).1)
    exact ⟨he.cell (hc i hi).1 hb, he.cell (hc i hi).2 hb⟩
theorem Txt.At.ext {S : List Nat} {p : Option Addr} {xs : List ByteArray} {w w' : World} (h : Txt.At p xs w) (he : Ext S w w') (hS : ∀ b o, p = some ⟨b, o, none⟩ → b < w.heap.size → b ∉ S) : Txt.At p xs w' := by
  rcases h with h | ⟨b, o, hp, hc⟩
  · exact .inl h
  · refine .inr ⟨b, o, hp, fun i hi => ?_⟩
    have hb := hS b o hp (World.block_lt_of_cell? w _ (hc i hi))
    exact he.cell (hc i hi) hb
theorem row_ext {S : List Nat} {B e k n : Nat} {v : Value} {xs : List Value} {w w' : World} (h : w.ownsRow B e k v n xs) (he : Ext S w w') (hS : ∀ g, B ≤ g → g < w.heap.size → g ∉ S) : w'.ownsRow B e k v n xs := by
  obtain ⟨h1, h2⟩ := h
  refine ⟨h1, ?_⟩
  rcases h2 with h2 | ⟨g, cap, cur, hv, hg, hh, r⟩
  · exact .inl h2
  · exact .inr ⟨g, cap, cur, hv, hg, he.block hh (hS g hg (lt_of_heap hh)), r⟩
theorem OwnLabels.ext {S : List Nat} {B : Nat} {v : Value} {l : List Lab.L} {w w' : World} (h : OwnLabels B v l w) (he : Ext S w w') (hS : ∀ g, B ≤ g → g < w.heap.size → g ∉ S) : OwnLabels B v l w' := row_ext h he hS
theorem OwnTexts.ext {S : List Nat} {B : Nat} {v : Value} {l : List ByteArray} {w w' : World} (h : OwnTexts B v l w) (he : Ext S w w') (hS : ∀ g, B ≤ g → g < w.heap.size → g ∉ S) : OwnTexts B v l w' := row_ext h he hS
theorem OwnTexts.take {B : Nat} {g n c : Nat} {a b : List ByteArray} {w : World} (h : OwnTexts B (.slice (some ⟨g, 0, none⟩) n c) (a ++ b) w) : Txt.At (some ⟨g, 0, none⟩) a w := by
  rcases h.open with ⟨he, _⟩ | ⟨g', c', he, _, _, _, hc⟩
  · cases he
  · simp only [Value.slice.injEq, Option.some.injEq, Addr.mk.injEq, and_true] at he
    obtain ⟨rfl, _⟩ := he
    refine .inr ⟨g, 0, rfl, fun i hi => ?_⟩
    rw [Nat.zero_add]
    refine hc i _ ?_
    rw [List.getElem?_append_left hi]
    exact List.getElem?_eq_getElem hi

/-- two results laid into the cells of two arrays -/
theorem two_set (S : List Nat) (u v : World) (O E j : Nat) (A B : Array Value) (TA TB : TypeId) (x y : Value) (hOE : O ≠ E) (hO : v.heap[O]? = some (.cells A TA)) (hE : v.heap[E]? = some (.cells B TB)) (h1 : O ∈ S) (h2 : E ∈ S) (W : World) (hW : W = (v.setCell ⟨O, j, none⟩ x).setCell ⟨E, j, none⟩ y)
    (hu : Below u.heap.size u v) (hu1 : u.heap.size ≤ O) (hu2 : u.heap.size ≤ E) :
    W.heap[O]? = some (.cells (A.setIfInBounds j x) TA) ∧ W.heap[E]? = some (.cells (B.setIfInBounds j y) TB) ∧ Ext S v W ∧ Below u.heap.size u W ∧ W.heap.size = v.heap.size := by
  subst hW
  have e1 := heap_setCell_same v O j A _ x hO
  have e2 : (v.setCell ⟨O, j, none⟩ x).heap[E]? = some (.cells B TB) := (heap_setCell_other v ⟨O, j, none⟩ E x (fun e => hOE e.symm)).trans hE
  have e3 := heap_setCell_same _ E j B _ y e2
  refine ⟨(heap_setCell_other _ ⟨E, j, none⟩ O y hOE).trans e1, e3, (Ext.set h1).trans (Ext.set h2), (hu.setCell (p := ⟨O, j, none⟩) hu1 x).setCell (p := ⟨E, j, none⟩) hu2 y, by simp⟩

theorem Lab.Room.less {B : Nat} {p : Option Addr} {n m c : Nat} {w : World} (h : Lab.Room B p n c w) (hm : m ≤ n) : Lab.Room B p m c w := by
  rcases h with ⟨h1, h2, h3⟩ | ⟨g, cur, h1, h2, h3, h4, h5, h6⟩
  · exact .inl ⟨h1, by omega, h3⟩
  · exact .inr ⟨g, cur, h1, h2, h3, h4, by omega, h6⟩
theorem Lab.Room.lift {B C : Nat} {p : Option Addr} {n c : Nat} {w : World} (h : Lab.Room B p n c w) (hm : C ≤ B) : Lab.Room C p n c w := by
  rcases h with h1 | ⟨g, cur, h1, h2, h3⟩
  · exact .inl h1
  · exact .inr ⟨g, cur, h1, by omega, h3⟩
/-- where a slice's block lies -/
def Apart.In (lo hi : Nat) (p : Option Addr) : Prop := ∀ g, p = some ⟨g, 0, none⟩ → lo ≤ g ∧ g < hi
theorem OwnLabels.isIn {B : Nat} {p : Option Addr} {n c : Nat} {l : List Lab.L} {w : World} (h : OwnLabels B (.slice p n c) l w) : Apart.In B w.heap.size p := by
  intro g hg
  obtain ⟨_, h2⟩ := h
  rcases h2 with ⟨h2, _⟩ | ⟨g', cap, cur, hv, hg', hh, _⟩
  · simp only [Value.slice.injEq] at h2
    rw [h2.1] at hg
    cases hg
  · simp only [Value.slice.injEq] at hv
    rw [hv.1] at hg
    simp only [Option.some.injEq, Addr.mk.injEq, and_true] at hg
    subst hg
    exact ⟨hg', lt_of_heap hh⟩
theorem Apart.apart {lo : Nat → Nat} {N : Nat} {vs : List Apart.S} (hm : ∀ i, i < N → lo i ≤ lo (i + 1)) (hN : vs.length = N) (hi : ∀ i (h : i < vs.length), Apart.In (lo i) (lo (i + 1)) vs[i].p) :
    ∀ i j (hi : i < vs.length) (hj : j < vs.length), i < j → ∀ g, vs[i].p = some ⟨g, 0, none⟩ → vs[j].p ≠ some ⟨g, 0, none⟩ := by
  have hmono : ∀ d i, i + d ≤ N → lo i ≤ lo (i + d) := by
    intro d
    induction d with
    | zero => intro i _; exact Nat.le_refl _
    | succ d ih => intro i h; exact Nat.le_trans (ih i (by omega)) (hm (i + d) (by omega))
  intro i j h1 h2 hij g hg hg2
  have q1 := hi i h1 g hg
  have q2 := hi j h2 g hg2
  have q3 := hmono (j - (i + 1)) (i + 1) (by omega)
  rw [show i + 1 + (j - (i + 1)) = j by omega] at q3
  omega
end Go.Proofs.YtbilaghljlobpaaGreat
namespace Go.Proofs.YtbilaghljlobpaaGreat
open Go.ChangeShapes Go.WideShapes Go.ChangeAt Go.RowKit
theorem row.open_texts {H : Type} {enc : TypeId × Value → H} {W : World} {t : TypeId} (ht : Tryz.prog.underlying t = some (.slice 9)) {fuel : Nat} {cs : List Value} {x : DataW H × List MemPlace} (h : DataW.trod enc Tryz.prog W 0 (fun _ => true) true fuel t cs = some x) :
    ∃ (a0 : Option Addr) (len cap : Nat) (xs : List ByteArray), cs = [.slice a0 len cap] ∧ xs.length = len ∧ Txt.At a0 xs W ∧ (∀ x ∈ xs, x.size ≤ maxLen) ∧ (a0 = none → cap = 0) ∧ len ≤ maxLen := by
  rcases open_strings ht Tryz.underlying9 (by kernel_rfl) h with ⟨rfl, _⟩ | ⟨a, len, cap, ss, rfl, _, hl, hm, hz, _, hcell, hsz⟩
  · exact ⟨none, 0, 0, [], rfl, rfl, .inl rfl, fun x hx => by simp at hx, fun _ => rfl, by simp⟩
  · simp only [if_true] at hz
    refine ⟨_, len, cap, ss.take len, rfl, by rw [List.length_take]; omega, ?_, fun x hx => hsz x (List.mem_of_mem_take hx), (fun h => by cases h), by omega⟩
    rcases Nat.eq_zero_or_pos len with rfl | hpos
    · exact .inl (by simp)
    · obtain ⟨b, o, spot⟩ := a
      have hspot : spot = none := by simpa [Addr.add] using World.cell?_spot (hcell 0 (by omega))
      subst hspot
      refine .inr ⟨b, o, rfl, fun i hi => ?_⟩
      have hi' : i < ss.length := by rw [List.length_take] at hi; omega
      have c0 := hcell i hi'
      have e1 : (⟨b, o, none⟩ : Addr).add i = ⟨b, o + i, none⟩ := by unfold Addr.add; split <;> simp_all
      rw [e1] at c0
      rw [c0, List.getElem_take]
      simp [List.getD, List.getElem?_eq_getElem hi']
end Go.Proofs.YtbilaghljlobpaaGreat
