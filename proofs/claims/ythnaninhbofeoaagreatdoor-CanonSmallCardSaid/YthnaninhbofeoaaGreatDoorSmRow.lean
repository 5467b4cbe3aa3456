/- Small numbers, as they lie in memory. Targets in small numbers, as they lie in memory. -/
import Derived.Test.YthnaninhbofeoaaGreatDoorCanRow
import Derived.Test.YthnaninhbofeoaaGreatDoorMadeD
namespace Go.Proofs.YthnaninhbofeoaaGreatDoor
open Go.ChangeShapes Go.WideShapes Go.ChangeAt Go.RowKit

/-- small labels at an address -/
def Lab.SmAt (p : Option Addr) (xs : List Lab.Sm) (w : World) : Prop :=
  xs = [] ∨ ∃ b o, p = some ⟨b, o, none⟩ ∧ ∀ i (h : i < xs.length), w.cell? ⟨b, o + i * 2, none⟩ = some (.int .u8 xs[i].a) ∧ w.cell? ⟨b, o + i * 2 + 1, none⟩ = some (.int .u8 xs[i].b)
def Lab.SmFit (xs : List Lab.Sm) : Prop := ∀ x ∈ xs, x.a < 256 ∧ x.b < 256
theorem Lab.SmAt.open {p : Option Addr} {xs : List Lab.Sm} {w : World} (h : Lab.SmAt p xs w) {k : Nat} (hk : k < xs.length) :
    ∃ b o, p = some ⟨b, o, none⟩ ∧ ∀ i (h : i < xs.length), w.cell? ⟨b, o + i * 2, none⟩ = some (.int .u8 xs[i].a) ∧ w.cell? ⟨b, o + i * 2 + 1, none⟩ = some (.int .u8 xs[i].b) := by
  rcases h with rfl | h
  · simp at hk
  · exact h
theorem Lab.SmAt.below {p : Option Addr} {xs : List Lab.Sm} {B : Nat} {w w' : World} (h : Lab.SmAt p xs w) (hb : Below B w w') (hB : w.heap.size ≤ B) : Lab.SmAt p xs w' := by
  rcases h with h | ⟨b, o, hp, hc⟩
  · exact .inl h
  · refine .inr ⟨b, o, hp, fun i hi => ⟨?_, ?_⟩⟩
    · exact (hb.cell (p := ⟨b, o + i * 2, none⟩) (Nat.lt_of_lt_of_le (World.block_lt_of_cell? _ _ (hc i hi).1) hB)).trans (hc i hi).1
    · exact (hb.cell (p := ⟨b, o + i * 2 + 1, none⟩) (Nat.lt_of_lt_of_le (World.block_lt_of_cell? _ _ (hc i hi).2) hB)).trans (hc i hi).2
theorem Lab.SmAt.alloc {p : Option Addr} {xs : List Lab.Sm} {w : World} (h : Lab.SmAt p xs w) (o : Obj) : Lab.SmAt p xs (w.alloc o) :=
  h.below ((Below.refl _ _).alloc (Nat.le_refl _) o) (Nat.le_refl _)

def row.natOf : Value → Nat
  | .int _ n => n.toNat
  | _ => 0
theorem row.wf_u8 {n : Int} (h : (Lit.int .u8 n).wf = true) : Value.int .u8 n = .int .u8 (row.natOf (.int .u8 n) : Int) ∧ row.natOf (.int .u8 n) < 256 := by
  have h1 : IntKind.u8.min ≤ n ∧ n ≤ IntKind.u8.max := by simpa [Lit.wf] using h
  have e1 : IntKind.u8.min = 0 := by decide
  have e2 : IntKind.u8.max = 255 := by decide
  have h2 : 0 ≤ n ∧ n < 256 := by omega
  show Value.int .u8 n = .int .u8 (n.toNat : Int) ∧ n.toNat < 256
  refine ⟨?_, by omega⟩
  congr 1
  omega
/-- small labels that can be read -/
theorem row.open_smalls {H : Type} {enc : TypeId × Value → H} {W : World} {t : TypeId} (ht : Tryz.prog.underlying t = some (.slice 137)) {fuel : Nat} {cs : List Value} {x : DataW H × List MemPlace} (h : DataW.trod enc Tryz.prog W 0 (fun _ => true) true fuel t cs = some x) :
    ∃ (a0 : Option Addr) (len cap : Nat) (xs : List Lab.Sm), cs = [.slice a0 len cap] ∧ xs.length = len ∧ Lab.SmAt a0 xs W ∧ Lab.SmFit xs ∧ len ≤ cap ∧ cap ≤ maxLen := by
  rcases Go.Deep.open_slice_pairs ht Tryz.underlying137 (by kernel_rfl) rfl rfl (by kernel_rfl) (by kernel_rfl) h with ⟨rfl, _⟩ | ⟨a, len, cap, m, n, V0, V1, D0, D1, P0, P1, rfl, _, hl, hm, hmm, _, hall⟩
  · exact ⟨none, 0, 0, [], rfl, rfl, .inl rfl, fun x hx => by simp at hx, by omega, by simp⟩
  · simp only [if_true] at hmm
    subst hmm
    have h0 : ∀ i, i < len → V0 i = .int .u8 (row.natOf (V0 i) : Int) ∧ row.natOf (V0 i) < 256 := by
      intro i hi
      obtain ⟨n, hs, _, hz⟩ := DataW.trod_int Tryz.underlying5 (hall i (by omega)).2.2.1
      simp only [List.cons.injEq, and_true] at hs
      rw [hs]
      exact row.wf_u8 hz
    have h1 : ∀ i, i < len → V1 i = .int .u8 (row.natOf (V1 i) : Int) ∧ row.natOf (V1 i) < 256 := by
      intro i hi
      obtain ⟨n, hs, _, hz⟩ := DataW.trod_int Tryz.underlying5 (hall i (by omega)).2.2.2
      simp only [List.cons.injEq, and_true] at hs
      rw [hs]
      exact row.wf_u8 hz
    refine ⟨_, len, _, (List.range len).map fun i => ⟨row.natOf (V0 i), row.natOf (V1 i)⟩, rfl, by simp, ?_, ?_, hl, hm⟩
    · rcases Nat.eq_zero_or_pos len with rfl | hpos
      · exact .inl rfl
      · obtain ⟨b, o, spot⟩ := a
        have hspot : spot = none := by simpa [Addr.add] using World.cell?_spot (hall 0 (by omega)).1
        subst hspot
        refine .inr ⟨b, o, rfl, fun i hi => ?_⟩
        have hi' : i < len := by simpa using hi
        have e1 : (⟨b, o, none⟩ : Addr).add (i * 2) = ⟨b, o + i * 2, none⟩ := by unfold Addr.add; split <;> simp_all
        have e2 : (⟨b, o, none⟩ : Addr).add (i * 2 + 1) = ⟨b, o + i * 2 + 1, none⟩ := by unfold Addr.add; split <;> simp_all [Nat.add_assoc]
        have c0 := (hall i (by omega)).1
        have c1 := (hall i (by omega)).2.1
        rw [e1, (h0 i hi').1] at c0
        rw [e2, (h1 i hi').1] at c1
        simp only [List.getElem_map, List.getElem_range]
        exact ⟨c0, c1⟩
    · intro x hx
      obtain ⟨i, hi, rfl⟩ := List.mem_map.1 hx
      rw [List.mem_range] at hi
      exact ⟨(h0 i hi).2, (h1 i hi).2⟩

set_option maxRecDepth 100000 in
/-- a target in small numbers that can be read -/
theorem row.open_small {H : Type} {enc : TypeId × Value → H} {W : World} {base : Nat} {v : Value} {d : DataW H} {p : List MemPlace} (hv : Value.okWide Tryz.prog W .any base 52 v) (h : DataW.Trod enc Tryz.prog W 0 (fun _ => true) true 52 v d p) :
    ∃ (j : Nat) (a0 : Option Addr) (len cap : Nat) (xs : List Lab.Sm), v = .agg #[.int .u8 (j : Int), .slice a0 len cap] ∧ j < 256 ∧ xs.length = len ∧ Lab.SmAt a0 xs W ∧ Lab.SmFit xs ∧ len ≤ cap ∧ cap ≤ maxLen := by
  obtain ⟨cs, rfl, hsz⟩ := okWide_struct Tryz.underlying52 hv
  obtain ⟨fuel, h⟩ := h
  obtain ⟨y0, y1, n, _, hl, h0, h1⟩ := trod_struct2 Tryz.underlying52 h
  have e0 : Tryz.prog.cellsOf 5 = 1 := by kernel_rfl
  have e1 : Tryz.prog.cellsOf 50 = 1 := by kernel_rfl
  have e2 : Tryz.prog.cellsOf 52 = 2 := by kernel_rfl
  rw [e2] at hsz
  obtain ⟨c0, c1, rfl⟩ : ∃ c0 c1, cs = #[c0, c1] := by
    obtain ⟨l⟩ := cs
    match l, hsz with
    | [c0, c1], _ => exact ⟨c0, c1, rfl⟩
  dsimp only at h0 h1
  rw [e0] at h0
  rw [e1] at h1
  obtain ⟨s, hs, _, hz⟩ := DataW.trod_int Tryz.underlying5 h0
  obtain ⟨a0, len, cap, xs, hc, r⟩ := row.open_smalls Tryz.underlying50 h1
  have hs' : c0 = .int .u8 s := by simpa [Value.cells] using hs
  have hc' : c1 = .slice a0 len cap := by simpa [Value.cells] using hc
  subst hs' hc'
  have hw := row.wf_u8 hz
  exact ⟨_, a0, len, cap, xs, by rw [← hw.1], hw.2, r⟩
end Go.Proofs.YthnaninhbofeoaaGreatDoor
namespace Go.Proofs.YthnaninhbofeoaaGreatDoor
open Go.ChangeShapes Go.WideShapes Go.ChangeAt Go.RowKit

/-- a target in small numbers: its job, and where its labels lie -/
structure Lab.St where
  j : Nat
  a : Option Addr
  n : Nat
  c : Nat
  xs : List Lab.Sm
instance : Inhabited Lab.St := ⟨⟨0, none, 0, 0, []⟩⟩
def Lab.StFit (z : Lab.St) : Prop := z.j < 256 ∧ z.xs.length = z.n ∧ Lab.SmFit z.xs ∧ z.n ≤ z.c ∧ z.c ≤ maxLen
/-- targets in small numbers at an address -/
def Lab.StAt (p : Option Addr) (zs : List Lab.St) (w : World) : Prop :=
  zs = [] ∨ ∃ b o, p = some ⟨b, o, none⟩ ∧ ∀ i (h : i < zs.length), w.cell? ⟨b, o + i * 2, none⟩ = some (.int .u8 zs[i].j) ∧ w.cell? ⟨b, o + i * 2 + 1, none⟩ = some (.slice zs[i].a zs[i].n zs[i].c) ∧ Lab.SmAt zs[i].a zs[i].xs w
theorem Lab.StAt.open {p : Option Addr} {zs : List Lab.St} {w : World} (h : Lab.StAt p zs w) (k : Nat) (hk : k < zs.length) :
    ∃ b o, p = some ⟨b, o, none⟩ ∧ ∀ i (h : i < zs.length), w.cell? ⟨b, o + i * 2, none⟩ = some (.int .u8 zs[i].j) ∧ w.cell? ⟨b, o + i * 2 + 1, none⟩ = some (.slice zs[i].a zs[i].n zs[i].c) ∧ Lab.SmAt zs[i].a zs[i].xs w := by
  rcases h with rfl | h
  · simp at hk
  · exact h
theorem Lab.StAt.below {p : Option Addr} {zs : List Lab.St} {B : Nat} {w w' : World} (h : Lab.StAt p zs w) (hb : Below B w w') (hB : w.heap.size ≤ B) : Lab.StAt p zs w' := by
  rcases h with h | ⟨b, o, hp, hc⟩
  · exact .inl h
  · refine .inr ⟨b, o, hp, fun i hi => ⟨?_, ?_, (hc i hi).2.2.below hb hB⟩⟩
    · exact (hb.cell (p := ⟨b, o + i * 2, none⟩) (Nat.lt_of_lt_of_le (World.block_lt_of_cell? _ _ (hc i hi).1) hB)).trans (hc i hi).1
    · exact (hb.cell (p := ⟨b, o + i * 2 + 1, none⟩) (Nat.lt_of_lt_of_le (World.block_lt_of_cell? _ _ (hc i hi).2.1) hB)).trans (hc i hi).2.1
/-- targets in small numbers that can be read -/
theorem row.open_smallsT {H : Type} {enc : TypeId × Value → H} {W : World} {t : TypeId} (ht : Tryz.prog.underlying t = some (.slice 52)) {fuel : Nat} {cs : List Value} {x : DataW H × List MemPlace} (h : DataW.trod enc Tryz.prog W 0 (fun _ => true) true fuel t cs = some x) :
    ∃ (a0 : Option Addr) (len cap : Nat) (zs : List Lab.St), cs = [.slice a0 len cap] ∧ zs.length = len ∧ Lab.StAt a0 zs W ∧ (∀ z ∈ zs, Lab.StFit z) ∧ len ≤ cap ∧ cap ≤ maxLen := by
  rcases Go.Deep.open_slice_pairs ht Tryz.underlying52 (by kernel_rfl) rfl rfl (by kernel_rfl) (by kernel_rfl) h with ⟨rfl, _⟩ | ⟨a, len, cap, m, n, V0, V1, D0, D1, P0, P1, rfl, _, hl, hm, hmm, _, hall⟩
  · exact ⟨none, 0, 0, [], rfl, rfl, .inl rfl, fun x hx => by simp at hx, by omega, by simp⟩
  · simp only [if_true] at hmm
    subst hmm
    have each : ∀ i, i < len → ∃ z : Lab.St, V0 i = .int .u8 (z.j : Int) ∧ V1 i = .slice z.a z.n z.c ∧ Lab.SmAt z.a z.xs W ∧ Lab.StFit z := by
      intro i hi
      obtain ⟨n, hs, _, hz⟩ := DataW.trod_int Tryz.underlying5 (hall i (by omega)).2.2.1
      simp only [List.cons.injEq, and_true] at hs
      obtain ⟨a0, l0, c0, xs, hc, h1, h2, h3, h4, h5⟩ := row.open_smalls Tryz.underlying50 (hall i (by omega)).2.2.2
      simp only [List.cons.injEq, and_true] at hc
      have hw := row.wf_u8 hz
      exact ⟨⟨_, a0, l0, c0, xs⟩, by rw [hs]; exact hw.1, hc, h2, hw.2, h1, h3, h4, h5⟩
    have pick : ∃ f : Nat → Lab.St, ∀ i, i < len → V0 i = .int .u8 ((f i).j : Int) ∧ V1 i = .slice (f i).a (f i).n (f i).c ∧ Lab.SmAt (f i).a (f i).xs W ∧ Lab.StFit (f i) := by
      refine ⟨fun i => if h : i < len then Classical.choose (each i h) else default, fun i hi => ?_⟩
      simp only [hi, dif_pos]
      exact Classical.choose_spec (each i hi)
    obtain ⟨f, hf⟩ := pick
    refine ⟨_, len, _, (List.range len).map f, rfl, by simp, ?_, ?_, hl, hm⟩
    · rcases Nat.eq_zero_or_pos len with rfl | hpos
      · exact .inl rfl
      · obtain ⟨b, o, spot⟩ := a
        have hspot : spot = none := by simpa [Addr.add] using World.cell?_spot (hall 0 (by omega)).1
        subst hspot
        refine .inr ⟨b, o, rfl, fun i hi => ?_⟩
        have hi' : i < len := by simpa using hi
        have e1 : (⟨b, o, none⟩ : Addr).add (i * 2) = ⟨b, o + i * 2, none⟩ := by unfold Addr.add; split <;> simp_all
        have e2 : (⟨b, o, none⟩ : Addr).add (i * 2 + 1) = ⟨b, o + i * 2 + 1, none⟩ := by unfold Addr.add; split <;> simp_all [Nat.add_assoc]
        have c0 := (hall i (by omega)).1
        have c1 := (hall i (by omega)).2.1
        rw [e1, (hf i hi').1] at c0
        rw [e2, (hf i hi').2.1] at c1
        simp only [List.getElem_map, List.getElem_range]
        exact ⟨c0, c1, (hf i hi').2.2.1⟩
    · intro x hx
      obtain ⟨i, hi, rfl⟩ := List.mem_map.1 hx
      rw [List.mem_range] at hi
      exact (hf i hi).2.2.2
end Go.Proofs.YthnaninhbofeoaaGreatDoor
