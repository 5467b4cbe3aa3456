/- Arguments of the chapter's laws, as they lie in memory: labels, targets; the world of the witness. -/
import Derived.Test.YthnaninhbofeoaaGreatDoorCards
import Derived.Test.YthnaninhbofeoaaGreatDoorTie
import Derived.Test.YthnaninhbofeoaaGreatDoorLabM
import Derived.WalkKit
import Derived.ProofKit
import Derived.OpenShut
import Derived.ShutString
import Derived.Carry
import Derived.ChangeSame
import Derived.Deep.DeepHandedRow
import Derived.Deep.SlicePairs
import Derived.Lib.LaidU8
namespace Go.Proofs.YthnaninhbofeoaaGreatDoor.row
open Go.ChangeShapes Go.WideShapes Go.ChangeAt Go.RowKit Go.ChangeShapes
open Go.ChangeMaps (open_string shut_string)

theorem own : ownKnob Tryz.prog.godebug = none := by kernel_rfl
theorem laidOut : laidOutB Tryz.prog = true := by kernel_rfl

def strOf : Value → ByteArray
  | .string s => s
  | _ => ⟨#[]⟩

/-- labels that can be read, as they lie in memory -/
theorem open_labels {H : Type} {enc : TypeId × Value → H} {W : World} {t : TypeId} (ht : Tryz.prog.underlying t = some (.slice 46)) {fuel : Nat} {cs : List Value} {x : DataW H × List MemPlace} (h : DataW.trod enc Tryz.prog W 0 (fun _ => true) true fuel t cs = some x) :
    ∃ (a0 : Option Addr) (len cap : Nat) (ls : List Lab.L), cs = [.slice a0 len cap] ∧ ls.length = len ∧ Lab.At a0 ls W ∧ Lab.Fit maxLen ls ∧ (a0 = none → cap = 0) ∧ len ≤ maxLen := by
  rcases Go.Deep.open_slice_pairs ht Tryz.underlying46 (by kernel_rfl) rfl rfl (by kernel_rfl) (by kernel_rfl) h with ⟨rfl, _⟩ | ⟨a, len, cap, m, n, V0, V1, D0, D1, P0, P1, rfl, _, hl, hm, hmm, _, hall⟩
  · exact ⟨none, 0, 0, [], rfl, rfl, .inl rfl, fun x hx => by simp at hx, fun _ => rfl, by simp⟩
  · simp only [if_true] at hmm
    subst hmm
    have h0 : ∀ i, i < len → V0 i = .string (strOf (V0 i)) ∧ (strOf (V0 i)).size ≤ maxLen := by
      intro i hi
      obtain ⟨s, hs, _, hz⟩ := DataW.trod_string Tryz.underlying9 (hall i (by omega)).2.2.1
      simp only [List.cons.injEq, and_true] at hs
      rw [hs]
      exact ⟨rfl, hz⟩
    have h1 : ∀ i, i < len → V1 i = .string (strOf (V1 i)) ∧ (strOf (V1 i)).size ≤ maxLen := by
      intro i hi
      obtain ⟨s, hs, _, hz⟩ := DataW.trod_string Tryz.underlying9 (hall i (by omega)).2.2.2
      simp only [List.cons.injEq, and_true] at hs
      rw [hs]
      exact ⟨rfl, hz⟩
    refine ⟨_, len, _, (List.range len).map fun i => ⟨strOf (V0 i), strOf (V1 i)⟩, rfl, by simp, ?_, ?_, (fun h => by cases h), by omega⟩
    · rcases Nat.eq_zero_or_pos len with rfl | hpos
      · exact .inl rfl
      · obtain ⟨b, o, spot⟩ := a
        have hspot : spot = none := by simpa [Addr.add] using World.cell?_spot (hall 0 (by omega)).1
        subst hspot
        refine .inr ⟨b, o, rfl, fun i hi => ?_⟩
        have hi' : i < len := by simpa using hi
        have e1 : (⟨b, o, none⟩ : Addr).add (i * 2) = ⟨b, o + i * 2, none⟩ := by unfold Addr.add; split <;> simp_all
        have e2 : (⟨b, o, none⟩ : Addr).add (i * 2 + 1) = ⟨b, o + i * 2 + 1, none⟩ := by unfold Addr.add; split <;> simp_all [Nat.add_assoc]
        have c0 := (hall i (by omega)).1
        have c1 := (hall i (by omega)).2.1
        rw [e1, (h0 i hi').1] at c0
        rw [e2, (h1 i hi').1] at c1
        simp only [List.getElem_map, List.getElem_range]
        exact ⟨c0, c1⟩
    · intro x hx
      obtain ⟨i, hi, rfl⟩ := List.mem_map.1 hx
      rw [List.mem_range] at hi
      exact ⟨(h0 i hi).2, (h1 i hi).2⟩

set_option maxRecDepth 100000 in
/-- a target that can be read -/
theorem open_target {H : Type} {enc : TypeId × Value → H} {W : World} {base : Nat} {v : Value} {d : DataW H} {p : List MemPlace} (hv : Value.okWide Tryz.prog W .any base 37 v) (h : DataW.Trod enc Tryz.prog W 0 (fun _ => true) true 37 v d p) :
    ∃ (j : ByteArray) (a0 : Option Addr) (len cap : Nat) (ls : List Lab.L), v = .agg #[.string j, .slice a0 len cap] ∧ j.size ≤ maxLen ∧ ls.length = len ∧ Lab.At a0 ls W ∧ Lab.Fit maxLen ls ∧ (a0 = none → cap = 0) ∧ len ≤ maxLen := by
  obtain ⟨cs, rfl, hsz⟩ := okWide_struct Tryz.underlying37 hv
  obtain ⟨fuel, h⟩ := h
  obtain ⟨y0, y1, n, _, hl, h0, h1⟩ := trod_struct2 Tryz.underlying37 h
  have e0 : Tryz.prog.cellsOf 9 = 1 := by kernel_rfl
  have e1 : Tryz.prog.cellsOf 35 = 1 := by kernel_rfl
  have e2 : Tryz.prog.cellsOf 37 = 2 := by kernel_rfl
  rw [e2] at hsz
  obtain ⟨c0, c1, rfl⟩ : ∃ c0 c1, cs = #[c0, c1] := by
    obtain ⟨l⟩ := cs
    match l, hsz with
    | [c0, c1], _ => exact ⟨c0, c1, rfl⟩
  dsimp only at h0 h1
  rw [e0] at h0
  rw [e1] at h1
  obtain ⟨s, hs, _, hz⟩ := DataW.trod_string Tryz.underlying9 h0
  obtain ⟨a0, len, cap, ls, hc, r⟩ := open_labels Tryz.underlying35 h1
  have hs' : c0 = .string s := by simpa [Value.cells] using hs
  have hc' : c1 = .slice a0 len cap := by simpa [Value.cells] using hc
  subst hs' hc'
  exact ⟨s, a0, len, cap, ls, rfl, hz, r⟩

/-- A WORLD FOR THE WITNESS: the settled one, the two tables holding what their initialisers lay. -/
noncomputable def laidWorld (os : Os) : World :=
  let w0 := World.holding Tryz.prog os ⟨#[], #[], []⟩
  let put (h : Array Obj) (g : Nat) (cs : Array Value) : Array Obj := h.modify g fun
    | .cells _ t frozen => .cells cs t frozen
    | o => o
  let h1 := put w0.heap 1 (Lib.firstTab.map fun z => Value.int .u8 z).toArray
  let h2 := put h1 2 ((List.range 16).flatMap fun i => [Value.int .u8 (Lib.accLo i), Value.int .u8 (Lib.accHi i)]).toArray
  { w0 with heap := h2 }
end Go.Proofs.YthnaninhbofeoaaGreatDoor.row
