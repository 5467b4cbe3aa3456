/- Targets in small numbers, as they lie in memory. -/
import Derived.Test.YthnaninhbofeoaaGreatDoorSmRow
namespace Go.Proofs.YthnaninhbofeoaaGreatDoor
open Go.ChangeShapes Go.WideShapes Go.ChangeAt Go.RowKit

/-- a target in small numbers: its job, and where its labels lie -/
structure Lab.St where
  j : Nat
  a : Option Addr
  n : Nat
  c : Nat
  xs : List Lab.Sm
instance : Inhabited Lab.St := ⟨⟨0, none, 0, 0, []⟩⟩
def Lab.StFit (z : Lab.St) : Prop := z.j < 256 ∧ z.xs.length = z.n ∧ Lab.SmFit z.xs ∧ z.n ≤ z.c ∧ z.c ≤ maxLen
/-- targets in small numbers at an address -/
def Lab.StAt (p : Option Addr) (zs : List Lab.St) (w : World) : Prop :=
  zs = [] ∨ ∃ b o, p = some ⟨b, o, none⟩ ∧ ∀ i (h : i < zs.length), w.cell? ⟨b, o + i * 2, none⟩ = some (.int .u8 zs[i].j) ∧ w.cell? ⟨b, o + i * 2 + 1, none⟩ = some (.slice zs[i].a zs[i].n zs[i].c) ∧ Lab.SmAt zs[i].a zs[i].xs w
theorem Lab.StAt.open {p : Option Addr} {zs : List Lab.St} {w : World} (h : Lab.StAt p zs w) (k : Nat) (hk : k < zs.length) :
    ∃ b o, p = some ⟨b, o, none⟩ ∧ ∀ i (h : i < zs.length), w.cell? ⟨b, o + i * 2, none⟩ = some (.int .u8 zs[i].j) ∧ w.cell? ⟨b, o + i * 2 + 1, none⟩ = some (.slice zs[i].a zs[i].n zs[i].c) ∧ Lab.SmAt zs[i].a zs[i].xs w := by
  rcases h with rfl | h
  · simp at hk
  · exact h
theorem Lab.StAt.below {p : Option Addr} {zs : List Lab.St} {B : Nat} {w w' : World} (h : Lab.StAt p zs w) (hb : Below B w w') (hB : w.heap.size ≤ B) : Lab.StAt p zs w' := by
  rcases h with h | ⟨b, o, hp, hc⟩
  · exact .inl h
  · refine .inr ⟨b, o, hp, fun i hi => ⟨?_, ?_, (hc i hi).2.2.below hb hB⟩⟩
    · exact (hb.cell (p := ⟨b, o + i * 2, none⟩) (Nat.lt_of_lt_of_le (World.block_lt_of_cell? _ _ (hc i hi).1) hB)).trans (hc i hi).1
    · exact (hb.cell (p := ⟨b, o + i * 2 + 1, none⟩) (Nat.lt_of_lt_of_le (World.block_lt_of_cell? _ _ (hc i hi).2.1) hB)).trans (hc i hi).2.1
/-- targets in small numbers that can be read -/
theorem row.open_smallsT {H : Type} {enc : TypeId × Value → H} {W : World} {t : TypeId} (ht : Tryz.prog.underlying t = some (.slice 52)) {fuel : Nat} {cs : List Value} {x : DataW H × List MemPlace} (h : DataW.trod enc Tryz.prog W 0 (fun _ => true) true fuel t cs = some x) :
    ∃ (a0 : Option Addr) (len cap : Nat) (zs : List Lab.St), cs = [.slice a0 len cap] ∧ zs.length = len ∧ Lab.StAt a0 zs W ∧ (∀ z ∈ zs, Lab.StFit z) ∧ len ≤ cap ∧ cap ≤ maxLen := by
  rcases Go.Deep.open_slice_pairs ht Tryz.underlying52 (by kernel_rfl) rfl rfl (by kernel_rfl) (by kernel_rfl) h with ⟨rfl, _⟩ | ⟨a, len, cap, m, n, V0, V1, D0, D1, P0, P1, rfl, _, hl, hm, hmm, _, hall⟩
  · exact ⟨none, 0, 0, [], rfl, rfl, .inl rfl, fun x hx => by simp at hx, by omega, by simp⟩
  · simp only [if_true] at hmm
    subst hmm
    have each : ∀ i, i < len → ∃ z : Lab.St, V0 i = .int .u8 (z.j : Int) ∧ V1 i = .slice z.a z.n z.c ∧ Lab.SmAt z.a z.xs W ∧ Lab.StFit z := by
      intro i hi
      obtain ⟨n, hs, _, hz⟩ := DataW.trod_int Tryz.underlying5 (hall i (by omega)).2.2.1
      simp only [List.cons.injEq, and_true] at hs
      obtain ⟨a0, l0, c0, xs, hc, h1, h2, h3, h4, h5⟩ := row.open_smalls Tryz.underlying50 (hall i (by omega)).2.2.2
      simp only [List.cons.injEq, and_true] at hc
      have hw := row.wf_u8 hz
      exact ⟨⟨_, a0, l0, c0, xs⟩, by rw [hs]; exact hw.1, hc, h2, hw.2, h1, h3, h4, h5⟩
    have pick : ∃ f : Nat → Lab.St, ∀ i, i < len → V0 i = .int .u8 ((f i).j : Int) ∧ V1 i = .slice (f i).a (f i).n (f i).c ∧ Lab.SmAt (f i).a (f i).xs W ∧ Lab.StFit (f i) := by
      refine ⟨fun i => if h : i < len then Classical.choose (each i h) else default, fun i hi => ?_⟩
      simp only [hi, dif_pos]
      exact Classical.choose_spec (each i hi)
    obtain ⟨f, hf⟩ := pick
    refine ⟨_, len, _, (List.range len).map f, rfl, by simp, ?_, ?_, hl, hm⟩
    · rcases Nat.eq_zero_or_pos len with rfl | hpos
      · exact .inl rfl
      · obtain ⟨b, o, spot⟩ := a
        have hspot : spot = none := by simpa [Addr.add] using World.cell?_spot (hall 0 (by omega)).1
        subst hspot
        refine .inr ⟨b, o, rfl, fun i hi => ?_⟩
        have hi' : i < len := by simpa using hi
        have e1 : (⟨b, o, none⟩ : Addr).add (i * 2) = ⟨b, o + i * 2, none⟩ := by unfold Addr.add; split <;> simp_all
        have e2 : (⟨b, o, none⟩ : Addr).add (i * 2 + 1) = ⟨b, o + i * 2 + 1, none⟩ := by unfold Addr.add; split <;> simp_all [Nat.add_assoc]
        have c0 := (hall i (by omega)).1
        have c1 := (hall i (by omega)).2.1
        rw [e1, (hf i hi').1] at c0
        rw [e2, (hf i hi').2.1] at c1
        simp only [List.getElem_map, List.getElem_range]
        exact ⟨c0, c1, (hf i hi').2.2.1⟩
    · intro x hx
      obtain ⟨i, hi, rfl⟩ := List.mem_map.1 hx
      rw [List.mem_range] at hi
      exact (hf i hi).2.2.2
end Go.Proofs.YthnaninhbofeoaaGreatDoor
