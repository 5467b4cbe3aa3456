/- Arguments of the laws of chapter 04, as they lie in memory: labels, small numbers, texts. -/
import Derived.Test.YtflmojjpdmbnaaaRows
import Derived.Test.YtflmojjpdmbnaaaL4R
import Derived.Test.YtflmojjpdmbnaaaL4I
import Derived.WalkKit
import Derived.ProofKit
import Derived.OpenShut
import Derived.ShutString
import Derived.Carry
import Derived.ChangeSame
import Derived.Deep.DeepHandedRow
import Derived.Deep.SlicePairs
namespace Go.Proofs.Ytflmojjpdmbnaaa
open Go.ChangeShapes Go.WideShapes Go.ChangeAt Go.RowKit
open Go.ChangeMaps (open_string shut_string)

theorem row.own : ownKnob Try.prog.godebug = none := by kernel_rfl
theorem row.laidOut : laidOutB Try.prog = true := by kernel_rfl
/-- small labels that can be read -/
theorem row.open_smalls {H : Type} {enc : TypeId × Value → H} {W : World} {t : TypeId} (ht : Try.prog.underlying t = some (.slice 53)) {fuel : Nat} {cs : List Value} {x : DataW H × List MemPlace} (h : DataW.trod enc Try.prog W 0 (fun _ => true) true fuel t cs = some x) :
    ∃ (a0 : Option Addr) (len cap : Nat) (xs : List Lab.Sm), cs = [.slice a0 len cap] ∧ xs.length = len ∧ Lab.SmAt a0 xs W ∧ Lab.SmFit xs ∧ len ≤ cap ∧ cap ≤ maxLen := by
  rcases Go.Deep.open_slice_pairs ht Try.underlying53 (by kernel_rfl) rfl rfl (by kernel_rfl) (by kernel_rfl) h with ⟨rfl, _⟩ | ⟨a, len, cap, m, n, V0, V1, D0, D1, P0, P1, rfl, _, hl, hm, hmm, _, hall⟩
  · exact ⟨none, 0, 0, [], rfl, rfl, .inl rfl, fun x hx => by simp at hx, by omega, by simp⟩
  · simp only [if_true] at hmm
    subst hmm
    have h0 : ∀ i, i < len → V0 i = .int .u8 (row.natOf (V0 i) : Int) ∧ row.natOf (V0 i) < 256 := by
      intro i hi
      obtain ⟨n, hs, _, hz⟩ := DataW.trod_int Try.underlying5 (hall i (by omega)).2.2.1
      simp only [List.cons.injEq, and_true] at hs
      rw [hs]
      exact row.wf_u8 hz
    have h1 : ∀ i, i < len → V1 i = .int .u8 (row.natOf (V1 i) : Int) ∧ row.natOf (V1 i) < 256 := by
      intro i hi
      obtain ⟨n, hs, _, hz⟩ := DataW.trod_int Try.underlying5 (hall i (by omega)).2.2.2
      simp only [List.cons.injEq, and_true] at hs
      rw [hs]
      exact row.wf_u8 hz
    refine ⟨_, len, _, (List.range len).map fun i => ⟨row.natOf (V0 i), row.natOf (V1 i)⟩, rfl, by simp, ?_, ?_, hl, hm⟩
    · rcases Nat.eq_zero_or_pos len with rfl | hpos
      · exact .inl rfl
      · obtain ⟨b, o, spot⟩ := a
        have hspot : spot = none := by simpa [Addr.add] using World.cell?_spot (hall 0 (by omega)).1
        subst hspot
        refine .inr ⟨b, o, rfl, fun i hi => ?_⟩
        have hi' : i < len := by simpa using hi
        have e1 : (⟨b, o, none⟩ : Addr).add (i * 2) = ⟨b, o + i * 2, none⟩ := by unfold Addr.add; split <;> simp_all
        have e2 : (⟨b, o, none⟩ : Addr).add (i * 2 + 1) = ⟨b, o + i * 2 + 1, none⟩ := by unfold Addr.add; split <;> simp_all [Nat.add_assoc]
        have c0 := (hall i (by omega)).1
        have c1 := (hall i (by omega)).2.1
        rw [e1, (h0 i hi').1] at c0
        rw [e2, (h1 i hi').1] at c1
        simp only [List.getElem_map, List.getElem_range]
        exact ⟨c0, c1⟩
    · intro x hx
      obtain ⟨i, hi, rfl⟩ := List.mem_map.1 hx
      rw [List.mem_range] at hi
      exact ⟨(h0 i hi).2, (h1 i hi).2⟩


def row.strOf : Value → ByteArray
  | .string s => s
  | _ => ⟨#[]⟩
/-- labels that can be read, as they lie in memory -/
theorem row.open_labels {H : Type} {enc : TypeId × Value → H} {W : World} {t : TypeId} (ht : Try.prog.underlying t = some (.slice 36)) {fuel : Nat} {cs : List Value} {x : DataW H × List MemPlace} (h : DataW.trod enc Try.prog W 0 (fun _ => true) true fuel t cs = some x) :
    ∃ (a0 : Option Addr) (len cap : Nat) (ls : List Lab.L), cs = [.slice a0 len cap] ∧ ls.length = len ∧ Lab.At a0 ls W ∧ Lab.Fit maxLen ls ∧ (a0 = none → cap = 0) ∧ len ≤ maxLen := by
  rcases Go.Deep.open_slice_pairs ht Try.underlying36 (by kernel_rfl) rfl rfl (by kernel_rfl) (by kernel_rfl) h with ⟨rfl, _⟩ | ⟨a, len, cap, m, n, V0, V1, D0, D1, P0, P1, rfl, _, hl, hm, hmm, _, hall⟩
  · exact ⟨none, 0, 0, [], rfl, rfl, .inl rfl, fun x hx => by simp at hx, fun _ => rfl, by simp⟩
  · simp only [if_true] at hmm
    subst hmm
    have h0 : ∀ i, i < len → V0 i = .string (row.strOf (V0 i)) ∧ (row.strOf (V0 i)).size ≤ maxLen := by
      intro i hi
      obtain ⟨s, hs, _, hz⟩ := DataW.trod_string Try.underlying9 (hall i (by omega)).2.2.1
      simp only [List.cons.injEq, and_true] at hs
      rw [hs]
      exact ⟨rfl, hz⟩
    have h1 : ∀ i, i < len → V1 i = .string (row.strOf (V1 i)) ∧ (row.strOf (V1 i)).size ≤ maxLen := by
      intro i hi
      obtain ⟨s, hs, _, hz⟩ := DataW.trod_string Try.underlying9 (hall i (by omega)).2.2.2
      simp only [List.cons.injEq, and_true] at hs
      rw [hs]
      exact ⟨rfl, hz⟩
    refine ⟨_, len, _, (List.range len).map fun i => ⟨row.strOf (V0 i), row.strOf (V1 i)⟩, rfl, by simp, ?_, ?_, (fun h => by cases h), by omega⟩
    · rcases Nat.eq_zero_or_pos len with rfl | hpos
      · exact .inl rfl
      · obtain ⟨b, o, spot⟩ := a
        have hspot : spot = none := by simpa [Addr.add] using World.cell?_spot (hall 0 (by omega)).1
        subst hspot
        refine .inr ⟨b, o, rfl, fun i hi => ?_⟩
        have hi' : i < len := by simpa using hi
        have e1 : (⟨b, o, none⟩ : Addr).add (i * 2) = ⟨b, o + i * 2, none⟩ := by unfold Addr.add; split <;> simp_all
        have e2 : (⟨b, o, none⟩ : Addr).add (i * 2 + 1) = ⟨b, o + i * 2 + 1, none⟩ := by unfold Addr.add; split <;> simp_all [Nat.add_assoc]
        have c0 := (hall i (by omega)).1
        have c1 := (hall i (by omega)).2.1
        rw [e1, (h0 i hi').1] at c0
        rw [e2, (h1 i hi').1] at c1
        simp only [List.getElem_map, List.getElem_range]
        exact ⟨c0, c1⟩
    · intro x hx
      obtain ⟨i, hi, rfl⟩ := List.mem_map.1 hx
      rw [List.mem_range] at hi
      exact ⟨(h0 i hi).2, (h1 i hi).2⟩
end Go.Proofs.Ytflmojjpdmbnaaa
