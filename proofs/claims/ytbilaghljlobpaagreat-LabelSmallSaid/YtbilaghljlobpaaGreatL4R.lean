/- Small numbers in memory, as gaugerlaw04.Made takes them. -/
import Derived.Test.YtbilaghljlobpaaGreatMadeD
import Derived.Test.YtbilaghljlobpaaGreatCanO
namespace Go.Proofs.YtbilaghljlobpaaGreat
open Go.RowKit

/-- small labels at an address -/
def Lab.SmAt (p : Option Addr) (xs : List Lab.Sm) (w : World) : Prop :=
  xs = [] ∨ ∃ b o, p = some ⟨b, o, none⟩ ∧ ∀ i (h : i < xs.length), w.cell? ⟨b, o + i * 2, none⟩ = some (.int .u8 xs[i].a) ∧ w.cell? ⟨b, o + i * 2 + 1, none⟩ = some (.int .u8 xs[i].b)
def Lab.SmFit (xs : List Lab.Sm) : Prop := ∀ x ∈ xs, x.a < 256 ∧ x.b < 256
theorem Lab.SmAt.open {p : Option Addr} {xs : List Lab.Sm} {w : World} (h : Lab.SmAt p xs w) {k : Nat} (hk : k < xs.length) :
    ∃ b o, p = some ⟨b, o, none⟩ ∧ ∀ i (h : i < xs.length), w.cell? ⟨b, o + i * 2, none⟩ = some (.int .u8 xs[i].a) ∧ w.cell? ⟨b, o + i * 2 + 1, none⟩ = some (.int .u8 xs[i].b) := by
  rcases h with rfl | h
  · simp at hk
  · exact h
theorem Lab.SmAt.below {p : Option Addr} {xs : List Lab.Sm} {B : Nat} {w w' : World} (h : Lab.SmAt p xs w) (hb : Below B w w') (hB : w.heap.size ≤ B) : Lab.SmAt p xs w' := by
  rcases h with h | ⟨b, o, hp, hc⟩
  · exact .inl h
  · refine .inr ⟨b, o, hp, fun i hi => ⟨?_, ?_⟩⟩
    · exact (hb.cell (p := ⟨b, o + i * 2, none⟩) (Nat.lt_of_lt_of_le (World.block_lt_of_cell? _ _ (hc i hi).1) hB)).trans (hc i hi).1
    · exact (hb.cell (p := ⟨b, o + i * 2 + 1, none⟩) (Nat.lt_of_lt_of_le (World.block_lt_of_cell? _ _ (hc i hi).2) hB)).trans (hc i hi).2
theorem Lab.SmAt.alloc {p : Option Addr} {xs : List Lab.Sm} {w : World} (h : Lab.SmAt p xs w) (o : Obj) : Lab.SmAt p xs (w.alloc o) :=
  h.below ((Below.refl _ _).alloc (Nat.le_refl _) o) (Nat.le_refl _)

def row.natOf : Value → Nat
  | .int _ n => n.toNat
  | _ => 0
theorem row.wf_u8 {n : Int} (h : (Lit.int .u8 n).wf = true) : Value.int .u8 n = .int .u8 (row.natOf (.int .u8 n) : Int) ∧ row.natOf (.int .u8 n) < 256 := by
  have h1 : IntKind.u8.min ≤ n ∧ n ≤ IntKind.u8.max := by simpa [Lit.wf] using h
  have e1 : IntKind.u8.min = 0 := by decide
  have e2 : IntKind.u8.max = 255 := by decide
  have h2 : 0 ≤ n ∧ n < 256 := by omega
  show Value.int .u8 n = .int .u8 (n.toNat : Int) ∧ n.toNat < 256
  refine ⟨?_, by omega⟩
  congr 1
  omega
end Go.Proofs.YtbilaghljlobpaaGreat
