/- Arguments of the laws of chapter 35, as they lie in memory: small slots, numbers. -/
import Derived.Test.YtpnpgjjbincigaaRows
import Derived.Test.YtpnpgjjbincigaaPoH
import Derived.WalkKit
import Derived.ProofKit
import Derived.OpenShut
import Derived.ShutString
import Derived.Carry
import Derived.ChangeSame
import Derived.Deep.DeepHandedRow
import Derived.Deep.SlicePairs
namespace Go.Proofs.Ytpnpgjjbincigaa
open Go.ChangeShapes Go.WideShapes Go.ChangeAt Go.RowKit
open Go.ChangeMaps (open_string shut_string)

theorem row.own : ownKnob Try.prog.godebug = none := by kernel_rfl
theorem row.laidOut : laidOutB Try.prog = true := by kernel_rfl
theorem row.u8_of {n : Int} (h : (Lit.int .u8 n).wf = true) : ∃ m : UInt8, n = (m.toNat : Int) := by
  have h1 : IntKind.u8.min ≤ n ∧ n ≤ IntKind.u8.max := by simpa [Lit.wf] using h
  have e1 : IntKind.u8.min = 0 := by decide
  have e2 : IntKind.u8.max = 255 := by decide
  refine ⟨UInt8.ofNat n.toNat, ?_⟩
  rw [UInt8.toNat_ofNat']
  omega
/-- a slice of structs of three one-cell fields, read -/
theorem row.open3 {P : Program} {H : Type} {enc : TypeId × Value → H} {W : World} {t e : TypeId} {f0 f1 f2 : Field} {fuel : Nat} {cs : List Value} {x : DataW H × List MemPlace} (ht : P.underlying t = some (.slice e)) (he : P.underlying e = some (.struct #[f0, f1, f2]))
    (ce : P.cellsOf e = 3) (o0 : f0.offset = 0) (o1 : f1.offset = 1) (o2 : f2.offset = 2) (c0 : P.cellsOf f0.type = 1) (c1 : P.cellsOf f1.type = 1) (c2 : P.cellsOf f2.type = 1)
    (h : DataW.trod enc P W 0 (fun _ => true) true fuel t cs = some x) :
    (cs = [.slice none 0 0]) ∨ ∃ (a : Addr) (len cap : Nat), cs = [.slice (some a) len cap] ∧ len ≤ cap ∧ cap ≤ maxLen ∧ ∀ i, i < len → ∃ (v0 v1 v2 : Value) (n : Nat) (y0 y1 y2 : DataW H × List MemPlace),
      W.cell? (a.add (i * 3)) = some v0 ∧ W.cell? (a.add (i * 3 + 1)) = some v1 ∧ W.cell? (a.add (i * 3 + 2)) = some v2 ∧ DataW.trod enc P W 0 (fun _ => true) true n f0.type [v0] = some y0 ∧ DataW.trod enc P W 0 (fun _ => true) true n f1.type [v1] = some y1 ∧ DataW.trod enc P W 0 (fun _ => true) true n f2.type [v2] = some y2 := by
  rcases Go.Deep.open_slice ht h with ⟨h0, _⟩ | ⟨a, len, cap, m, n, D, Pl, rfl, _, hl, hm, hmm, rfl, hx⟩
  · exact .inl h0
  · refine .inr ⟨a, len, cap, rfl, hl, hm, fun i hi => ?_⟩
    obtain ⟨cs', g1, g2⟩ := hx i (by rw [hmm]; split <;> omega)
    rw [ce] at g1
    obtain ⟨_, hlen, hcell⟩ := World.cells?_some g1
    obtain ⟨xs, k, hk, hxy, _, hxl, hf⟩ := DataW.trod_struct he g2
    match xs, hxl, cs', hlen with
    | [y0, y1, y2], _, [v0, v1, v2], _ =>
      have q0 := hf 0 f0 rfl
      have q1 := hf 1 f1 rfl
      have q2 := hf 2 f2 rfl
      simp [o0, o1, o2, c0, c1, c2] at q0 q1 q2
      have e0 := hcell 0 (by omega)
      have e1 := hcell 1 (by omega)
      have e2 := hcell 2 (by omega)
      rw [Go.Deep.add_add] at e0 e1 e2
      exact ⟨v0, v1, v2, k, y0, y1, y2, by simpa using e0, by simpa using e1, by simpa using e2, q0, q1, q2⟩
theorem row.list {α : Type} {n : Nat} {p : Nat → α → Prop} (h : ∀ i, i < n → ∃ x, p i x) : ∃ xs : List α, xs.length = n ∧ ∀ i (hi : i < xs.length), p i xs[i] := by
  induction n with
  | zero => exact ⟨[], rfl, fun i hi => (nomatch hi)⟩
  | succ n ih =>
    obtain ⟨xs, h1, h2⟩ := ih fun i hi => h i (by omega)
    obtain ⟨x, hx⟩ := h n (by omega)
    refine ⟨xs ++ [x], by simp [h1], fun i hi => ?_⟩
    by_cases hi2 : i < xs.length
    · rw [List.getElem_append_left hi2]; exact h2 i hi2
    · rw [List.getElem_append_right (by omega)]
      obtain rfl : i = n := by simp at hi; omega
      simpa [h1] using hx
theorem row.addr (b o : Nat) (k : Nat) : (⟨b, o, none⟩ : Addr).add k = ⟨b, o + k, none⟩ := by unfold Addr.add; split <;> simp_all
/-- small slots that can be read -/
theorem row.open_smalls {H : Type} {enc : TypeId × Value → H} {W : World} {t : TypeId} (ht : Try.prog.underlying t = some (.slice 86)) {fuel : Nat} {cs : List Value} {x : DataW H × List MemPlace} (h : DataW.trod enc Try.prog W 0 (fun _ => true) true fuel t cs = some x) :
    ∃ (a0 : Option Addr) (len cap : Nat) (xs : List Sm5), cs = [.slice a0 len cap] ∧ xs.length = len ∧ Po.SmAt a0 xs W ∧ len ≤ cap ∧ cap ≤ maxLen := by
  rcases row.open3 ht Try.underlying86 (by kernel_rfl) rfl rfl rfl (by kernel_rfl) (by kernel_rfl) (by kernel_rfl) h with rfl | ⟨a, len, cap, rfl, hl, hm, hall⟩
  · exact ⟨none, 0, 0, [], rfl, rfl, .inl rfl, Nat.le_refl _, Nat.zero_le _⟩
  · have each : ∀ i, i < len → ∃ s : Sm5, W.cell? (a.add (i * 3)) = some (.int .u8 (s.n.toNat : Int)) ∧ W.cell? (a.add (i * 3 + 1)) = some (.int .u8 (s.p.toNat : Int)) ∧ W.cell? (a.add (i * 3 + 2)) = some (.bool s.en) := by
      intro i hi
      obtain ⟨v0, v1, v2, n, y0, y1, y2, k0, k1, k2, t0, t1, t2⟩ := hall i hi
      obtain ⟨n0, e0, _, w0⟩ := DataW.trod_int Try.underlying5 t0
      obtain ⟨n1, e1, _, w1⟩ := DataW.trod_int Try.underlying5 t1
      obtain ⟨b2, e2, _⟩ := DataW.trod_bool Try.underlying4 t2
      simp only [List.cons.injEq, and_true] at e0 e1 e2
      subst e0 e1 e2
      obtain ⟨m0, rfl⟩ := row.u8_of w0
      obtain ⟨m1, rfl⟩ := row.u8_of w1
      exact ⟨⟨m0, m1, b2⟩, k0, k1, k2⟩
    obtain ⟨xs, hx1, hx2⟩ := row.list each
    refine ⟨_, len, cap, xs, rfl, hx1, ?_, hl, hm⟩
    rcases Nat.eq_zero_or_pos len with h0 | hpos
    · exact .inl (List.length_eq_zero_iff.1 (hx1.trans h0))
    · obtain ⟨b, o, spot⟩ := a
      have hspot : spot = none := by simpa [Addr.add] using World.cell?_spot (hx2 0 (by omega)).1
      subst hspot
      refine .inr ⟨b, o, rfl, fun i hi => ?_⟩
      have := hx2 i hi
      rw [row.addr, row.addr, row.addr, ← Nat.add_assoc, ← Nat.add_assoc] at this
      exact this
/-- numbers that can be read -/
theorem row.open_u8s {H : Type} {enc : TypeId × Value → H} {W : World} {t : TypeId} (ht : Try.prog.underlying t = some (.slice 5)) {fuel : Nat} {cs : List Value} {x : DataW H × List MemPlace} (h : DataW.trod enc Try.prog W 0 (fun _ => true) true fuel t cs = some x) :
    ∃ (a0 : Option Addr) (len cap : Nat) (xs : List UInt8), cs = [.slice a0 len cap] ∧ xs.length = len ∧ Po.U8At a0 xs W ∧ len ≤ cap ∧ cap ≤ maxLen := by
  rcases Go.Deep.open_slice1 ht (by kernel_rfl) h with ⟨rfl, _⟩ | ⟨a, len, cap, m, n, V, D, Pl, rfl, _, hl, hm, hmm, _, hx⟩
  · exact ⟨none, 0, 0, [], rfl, rfl, .inl rfl, Nat.le_refl _, Nat.zero_le _⟩
  · have each : ∀ i, i < len → ∃ s : UInt8, W.cell? (a.add i) = some (.int .u8 (s.toNat : Int)) := by
      intro i hi
      obtain ⟨k0, t0⟩ := hx i (by rw [hmm]; split <;> omega)
      obtain ⟨n0, e0, _, w0⟩ := DataW.trod_int Try.underlying5 t0
      simp only [List.cons.injEq, and_true] at e0
      rw [e0] at k0
      obtain ⟨m0, rfl⟩ := row.u8_of w0
      exact ⟨m0, k0⟩
    obtain ⟨xs, hx1, hx2⟩ := row.list each
    refine ⟨_, len, cap, xs, rfl, hx1, ?_, hl, hm⟩
    rcases Nat.eq_zero_or_pos len with h0 | hpos
    · exact .inl (List.length_eq_zero_iff.1 (hx1.trans h0))
    · obtain ⟨b, o, spot⟩ := a
      have hspot : spot = none := by simpa [Addr.add] using World.cell?_spot (hx2 0 (by omega))
      subst hspot
      refine .inr ⟨b, o, rfl, fun i hi => ?_⟩
      have := hx2 i hi
      rw [row.addr] at this
      exact this
end Go.Proofs.Ytpnpgjjbincigaa
