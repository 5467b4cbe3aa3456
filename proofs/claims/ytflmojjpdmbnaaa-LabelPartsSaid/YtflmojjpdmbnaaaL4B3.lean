/- An array of three small numbers, as an argument. -/
import Derived.Test.YtflmojjpdmbnaaaL4B
import Derived.Laws.IdiomArrays
namespace Go.Proofs.Ytflmojjpdmbnaaa
open Go.ChangeShapes Go.WideShapes Go.ChangeAt Go.RowKit

set_option maxRecDepth 100000 in
theorem row.open_arr3 {H : Type} {enc : TypeId × Value → H} {W : World} {base : Nat} {v : Value} {d : DataW H} {p : List MemPlace} (hv : Value.okWide Try.prog W .any base 47 v) (h : DataW.Trod enc Try.prog W 0 (fun _ => true) true 47 v d p) :
    ∃ x y z : Nat, v = .agg #[.int .u8 (x : Int), .int .u8 (y : Int), .int .u8 (z : Int)] ∧ p = [] ∧ x < 256 ∧ y < 256 ∧ z < 256 := by
  have ht : Try.prog.underlying 47 = some (.array 3 5) := Try.underlying47
  have e2 : Try.prog.cellsOf 47 = 3 := by kernel_rfl
  simp only [Value.okWide, ht] at hv
  obtain ⟨cs, rfl, hsz, _⟩ := hv
  rw [e2] at hsz
  obtain ⟨c0, c1, c2, rfl⟩ : ∃ c0 c1 c2, cs = #[c0, c1, c2] := by
    obtain ⟨l⟩ := cs
    match l, hsz with
    | [c0, c1, c2], _ => exact ⟨c0, c1, c2, rfl⟩
  obtain ⟨fuel, h⟩ := h
  have hc : (Value.agg #[c0, c1, c2]).cells.toList = [c0, c1, c2] := rfl
  rw [hc] at h
  obtain ⟨y0, y1, y2, n, hx, h0, h1, h2⟩ := trod_array3 ht (by kernel_rfl) h
  obtain ⟨s0, e0, p0, z0⟩ := DataW.trod_int Try.underlying5 h0
  obtain ⟨s1, e1, p1, z1⟩ := DataW.trod_int Try.underlying5 h1
  obtain ⟨s2, e3, p2, z2⟩ := DataW.trod_int Try.underlying5 h2
  simp only [List.cons.injEq, and_true] at e0 e1 e3
  subst e0 e1 e3
  have w0 := row.wf_u8 z0
  have w1 := row.wf_u8 z1
  have w2 := row.wf_u8 z2
  refine ⟨_, _, _, by rw [← w0.1, ← w1.1, ← w2.1], ?_, w0.2, w1.2, w2.2⟩
  subst p0 p1 p2
  simp only [Prod.mk.injEq] at hx
  rw [hx.2]
  rfl
end Go.Proofs.Ytflmojjpdmbnaaa
