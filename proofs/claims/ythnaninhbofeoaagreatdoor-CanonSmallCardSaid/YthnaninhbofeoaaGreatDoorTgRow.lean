/- Lists of targets, as they lie in memory. -/
import Derived.Test.YthnaninhbofeoaaGreatDoorFst
namespace Go.Proofs.YthnaninhbofeoaaGreatDoor
open Go.ChangeShapes Go.WideShapes Go.ChangeAt Go.RowKit

instance : Inhabited Can.T := ⟨⟨⟨#[]⟩, none, 0, 0, []⟩⟩
/-- a target of whatever labels and whatever job -/
def Can.TAny (t : Can.T) : Prop := t.job.size ≤ maxLen ∧ t.ls.length = t.n ∧ Lab.Fit maxLen t.ls ∧ (t.p = none → t.c = 0) ∧ t.n ≤ maxLen
/-- targets that can be read -/
theorem row.open_targetsT {H : Type} {enc : TypeId × Value → H} {W : World} {t : TypeId} (ht : Tryz.prog.underlying t = some (.slice 37)) {fuel : Nat} {cs : List Value} {x : DataW H × List MemPlace} (h : DataW.trod enc Tryz.prog W 0 (fun _ => true) true fuel t cs = some x) :
    ∃ (a0 : Option Addr) (len cap : Nat) (ts : List Can.T), cs = [.slice a0 len cap] ∧ ts.length = len ∧ Can.TPos a0 ts W ∧ (∀ t ∈ ts, Can.TAny t) ∧ (a0 = none → cap = 0) ∧ len ≤ maxLen := by
  rcases Go.Deep.open_slice_pairs ht Tryz.underlying37 (by kernel_rfl) rfl rfl (by kernel_rfl) (by kernel_rfl) h with ⟨rfl, _⟩ | ⟨a, len, cap, m, n, V0, V1, D0, D1, P0, P1, rfl, _, hl, hm, hmm, _, hall⟩
  · exact ⟨none, 0, 0, [], rfl, rfl, .inl rfl, fun x hx => by simp at hx, fun _ => rfl, by simp⟩
  · simp only [if_true] at hmm
    subst hmm
    have each : ∀ i, i < len → ∃ z : Can.T, V0 i = .string z.job ∧ V1 i = .slice z.p z.n z.c ∧ Lab.At z.p z.ls W ∧ Can.TAny z := by
      intro i hi
      obtain ⟨s, hs, _, hz⟩ := DataW.trod_string Tryz.underlying9 (hall i (by omega)).2.2.1
      simp only [List.cons.injEq, and_true] at hs
      obtain ⟨a0, l0, c0, ls, hc, h1, h2, h3, h4, h5⟩ := row.open_labels Tryz.underlying35 (hall i (by omega)).2.2.2
      simp only [List.cons.injEq, and_true] at hc
      exact ⟨⟨s, a0, l0, c0, ls⟩, hs, hc, h2, hz, h1, h3, h4, h5⟩
    have pick : ∃ f : Nat → Can.T, ∀ i, i < len → V0 i = .string (f i).job ∧ V1 i = .slice (f i).p (f i).n (f i).c ∧ Lab.At (f i).p (f i).ls W ∧ Can.TAny (f i) := by
      refine ⟨fun i => if h : i < len then Classical.choose (each i h) else default, fun i hi => ?_⟩
      simp only [hi, dif_pos]
      exact Classical.choose_spec (each i hi)
    obtain ⟨f, hf⟩ := pick
    refine ⟨_, len, _, (List.range len).map f, rfl, by simp, ?_, ?_, (fun h => by cases h), by omega⟩
    · rcases Nat.eq_zero_or_pos len with rfl | hpos
      · exact .inl rfl
      · obtain ⟨b, o, spot⟩ := a
        have hspot : spot = none := by simpa [Addr.add] using World.cell?_spot (hall 0 (by omega)).1
        subst hspot
        have hb : b < W.heap.size := by
          have h0 := (hall 0 (by omega)).1
          have e1 : (⟨b, o, none⟩ : Addr).add (0 * 2) = ⟨b, o + 0 * 2, none⟩ := by unfold Addr.add; split <;> simp_all
          rw [e1] at h0
          exact World.block_lt_of_cell? _ _ h0
        refine .inr ⟨b, o, rfl, hb, fun i hi => ?_⟩
        have hi' : i < len := by simpa using hi
        have e1 : (⟨b, o, none⟩ : Addr).add (i * 2) = ⟨b, o + i * 2, none⟩ := by unfold Addr.add; split <;> simp_all
        have e2 : (⟨b, o, none⟩ : Addr).add (i * 2 + 1) = ⟨b, o + i * 2 + 1, none⟩ := by unfold Addr.add; split <;> simp_all [Nat.add_assoc]
        have c0 := (hall i (by omega)).1
        have c1 := (hall i (by omega)).2.1
        rw [e1, (hf i hi').1] at c0
        rw [e2, (hf i hi').2.1] at c1
        simp only [List.getElem_map, List.getElem_range]
        exact ⟨c0, c1, (hf i hi').2.2.1⟩
    · intro x hx
      obtain ⟨i, hi, rfl⟩ := List.mem_map.1 hx
      rw [List.mem_range] at hi
      exact (hf i hi).2.2.2
end Go.Proofs.YthnaninhbofeoaaGreatDoor
