/- The region of Made that makes a label: what each operation leaves. (Printed by gen_made.py.) Contracts of the law's own makers: Names, Made (labels in small numbers). -/
import Derived.Test.YtbilaghljlobpaaGreatCanO
import Derived.Test.YtbilaghljlobpaaGreatMadeD
import Derived.Test.YtbilaghljlobpaaGreatL4K
import Derived.Test.YtbilaghljlobpaaGreatL4R
import Derived.Deep.AppendLies
import Derived.BigQuiet
import Derived.StillTailTactics
import Derived.Deep.RegionLawGrows
import Derived.Deep.Upon
import Derived.Test.YtbilaghljlobpaaGreatReg
namespace Go.Proofs.YtbilaghljlobpaaGreat
open Go.RowKit

def Made.nameC : Array Value := (Lab.nameL.map Value.string).toArray
def Made.valueC : Array Value := (Lab.valueL.map Value.string).toArray
def Made.N (t : Value) (w : World) : Prop := ∃ g, t = .slice (some ⟨g, 0, none⟩) 16 16 ∧ w.heap[g]? = some (.cells Made.nameC 9)
def Made.NP (k : Nat) (t : Value) (w : World) : Prop := ∃ g, t = .pointer (some ⟨g, k, none⟩) ∧ w.heap[g]? = some (.cells Made.nameC 9)
def Made.V (t : Value) (w : World) : Prop := ∃ g, t = .slice (some ⟨g, 0, none⟩) 8 8 ∧ w.heap[g]? = some (.cells Made.valueC 9)
def Made.VP (k : Nat) (t : Value) (w : World) : Prop := ∃ g, t = .pointer (some ⟨g, k, none⟩) ∧ w.heap[g]? = some (.cells Made.valueC 9)
def Made.Z (B : Nat) (t : Value) (w : World) : Prop := ∃ g, t = .pointer (some ⟨g, 0, none⟩) ∧ B ≤ g ∧ w.heap[g]? = some (.cells #[.string ByteArray.empty, .string ByteArray.empty] 31)
def Made.Y (B : Nat) (y : Lab.L) (t : Value) (w : World) : Prop := ∃ g, t = .pointer (some ⟨g, 0, none⟩) ∧ B ≤ g ∧ w.cell? ⟨g, 0, none⟩ = some (.string y.n) ∧ w.cell? ⟨g, 1, none⟩ = some (.string y.v)
theorem Made.N.up {t : Value} {w w2 : World} (h : Made.N t w) (up : ∀ (g : Nat) (o : Obj), w.heap[g]? = some o → w2.heap[g]? = some o) : Made.N t w2 := by
  obtain ⟨g, h1, h2⟩ := h
  exact ⟨g, h1, up _ _ h2⟩
theorem Made.NP.up {k : Nat} {t : Value} {w w2 : World} (h : Made.NP k t w) (up : ∀ (g : Nat) (o : Obj), w.heap[g]? = some o → w2.heap[g]? = some o) : Made.NP k t w2 := by
  obtain ⟨g, h1, h2⟩ := h
  exact ⟨g, h1, up _ _ h2⟩
theorem Made.V.up {t : Value} {w w2 : World} (h : Made.V t w) (up : ∀ (g : Nat) (o : Obj), w.heap[g]? = some o → w2.heap[g]? = some o) : Made.V t w2 := by
  obtain ⟨g, h1, h2⟩ := h
  exact ⟨g, h1, up _ _ h2⟩
theorem Made.VP.up {k : Nat} {t : Value} {w w2 : World} (h : Made.VP k t w) (up : ∀ (g : Nat) (o : Obj), w.heap[g]? = some o → w2.heap[g]? = some o) : Made.VP k t w2 := by
  obtain ⟨g, h1, h2⟩ := h
  exact ⟨g, h1, up _ _ h2⟩
theorem Made.Z.up {B : Nat} {t : Value} {w w2 : World} (h : Made.Z B t w) (up : ∀ (g : Nat) (o : Obj), w.heap[g]? = some o → w2.heap[g]? = some o) : Made.Z B t w2 := by
  obtain ⟨g, h1, h2, h3⟩ := h
  exact ⟨g, h1, h2, up _ _ h3⟩
set_option linter.unusedVariables false

/-- what stands where, once it has come up -/
structure Made.I (B : Nat) (W : World) (X xa xb : Nat) (y : Lab.L) (d : Nat → Bool) (t18 t19 t20 t21 t22 t23 t24 t25 t26 t27 t28 t29 t30 t6 : Value) (w : World) : Prop where
  b : Below B W w
  all : d 14 = true → ∀ j, j < 14 → d j = true
  f0 : d 0 = true → d 14 = false → Made.N t18 w
  f1 : d 1 = true → t19 = .pointer (some ⟨X, 0, none⟩)
  f2 : d 2 = true → t20 = .int .u8 (xa : Int)
  f3 : d 3 = true → t21 = .int .u8 ((xa : Int) % 16)
  f4 : d 4 = true → d 14 = false → Made.NP (xa % 16) t22 w
  f5 : d 5 = true → t23 = .string y.n
  f6 : d 6 = true → d 14 = false → Made.V t24 w
  f7 : d 7 = true → t25 = .pointer (some ⟨X, 1, none⟩)
  f8 : d 8 = true → t26 = .int .u8 (xb : Int)
  f9 : d 9 = true → t27 = .int .u8 ((xb : Int) % 8)
  f10 : d 10 = true → d 14 = false → Made.VP (xb % 8) t28 w
  f11 : d 11 = true → t29 = .string y.v
  f12 : d 12 = true → t30 = .agg #[.string y.n, .string y.v]
  f13 : d 13 = true → d 14 = false → Made.Z B t6 w
  f14 : d 14 = true → Made.Y B y t6 w
theorem Made.start (W : World) (X xa xb : Nat) (y : Lab.L) (t18 t19 t20 t21 t22 t23 t24 t25 t26 t27 t28 t29 t30 t6 : Value) : Made.I W.heap.size W X xa xb y (fun _ => false) t18 t19 t20 t21 t22 t23 t24 t25 t26 t27 t28 t29 t30 t6 W.drew where
  b := (Below.refl _ _).drew
  all := fun q => by cases q
  f0 := fun q => by cases q
  f1 := fun q => by cases q
  f2 := fun q => by cases q
  f3 := fun q => by cases q
  f4 := fun q => by cases q
  f5 := fun q => by cases q
  f6 := fun q => by cases q
  f7 := fun q => by cases q
  f8 := fun q => by cases q
  f9 := fun q => by cases q
  f10 := fun q => by cases q
  f11 := fun q => by cases q
  f12 := fun q => by cases q
  f13 := fun q => by cases q
  f14 := fun q => by cases q
theorem Made.I.not14 {B : Nat} {W : World} {X xa xb : Nat} {y : Lab.L} {d : Nat → Bool} {t18 t19 t20 t21 t22 t23 t24 t25 t26 t27 t28 t29 t30 t6 : Value} {w : World} (h : Made.I B W X xa xb y d t18 t19 t20 t21 t22 t23 t24 t25 t26 t27 t28 t29 t30 t6 w) (i : Nat) (hi : i < 14) (hd : d i = false) : d 14 = false := by
  cases e : d 14 with
  | false => rfl
  | true => rw [h.all e i hi] at hd; cases hd
theorem Made.s0 {B : Nat} {W : World} {X xa xb : Nat} {y : Lab.L} {d : Nat → Bool} {t18 t19 t20 t21 t22 t23 t24 t25 t26 t27 t28 t29 t30 t6 : Value} {w w2 : World} {n18 : Value} (h : Made.I B W X xa xb y d t18 t19 t20 t21 t22 t23 t24 t25 t26 t27 t28 t29 t30 t6 w) (hb : Below B w w2) (up : ∀ (g : Nat) (o : Obj), w.heap[g]? = some o → w2.heap[g]? = some o) (hd : d 0 = false) (hn : Made.N n18 w2) : Made.I B W X xa xb y (fun j => d j || j == 0) n18 t19 t20 t21 t22 t23 t24 t25 t26 t27 t28 t29 t30 t6 w2 where
  b := h.b.trans hb
  all := fun q => absurd (show d 14 = true by simpa using q) (by rw [h.not14 0 (by omega) hd]; simp)
  f0 := fun _ _ => hn
  f1 := fun q => h.f1 (by simpa using q)
  f2 := fun q => h.f2 (by simpa using q)
  f3 := fun q => h.f3 (by simpa using q)
  f4 := fun q q2 => (h.f4 (by simpa using q) (by simpa using q2)).up up
  f5 := fun q => h.f5 (by simpa using q)
  f6 := fun q q2 => (h.f6 (by simpa using q) (by simpa using q2)).up up
  f7 := fun q => h.f7 (by simpa using q)
  f8 := fun q => h.f8 (by simpa using q)
  f9 := fun q => h.f9 (by simpa using q)
  f10 := fun q q2 => (h.f10 (by simpa using q) (by simpa using q2)).up up
  f11 := fun q => h.f11 (by simpa using q)
  f12 := fun q => h.f12 (by simpa using q)
  f13 := fun q q2 => (h.f13 (by simpa using q) (by simpa using q2)).up up
  f14 := fun q => absurd (show d 14 = true by simpa using q) (by rw [h.not14 0 (by omega) hd]; simp)
theorem Made.s1 {B : Nat} {W : World} {X xa xb : Nat} {y : Lab.L} {d : Nat → Bool} {t18 t19 t20 t21 t22 t23 t24 t25 t26 t27 t28 t29 t30 t6 : Value} {w : World} {n19 : Value} (h : Made.I B W X xa xb y d t18 t19 t20 t21 t22 t23 t24 t25 t26 t27 t28 t29 t30 t6 w) (hd : d 1 = false) (hn : n19 = .pointer (some ⟨X, 0, none⟩)) : Made.I B W X xa xb y (fun j => d j || j == 1) t18 n19 t20 t21 t22 t23 t24 t25 t26 t27 t28 t29 t30 t6 w where
  b := h.b
  all := fun q => absurd (show d 14 = true by simpa using q) (by rw [h.not14 1 (by omega) hd]; simp)
  f0 := fun q q2 => h.f0 (by simpa using q) (by simpa using q2)
  f1 := fun _ => hn
  f2 := fun q => h.f2 (by simpa using q)
  f3 := fun q => h.f3 (by simpa using q)
  f4 := fun q q2 => h.f4 (by simpa using q) (by simpa using q2)
  f5 := fun q => h.f5 (by simpa using q)
  f6 := fun q q2 => h.f6 (by simpa using q) (by simpa using q2)
  f7 := fun q => h.f7 (by simpa using q)
  f8 := fun q => h.f8 (by simpa using q)
  f9 := fun q => h.f9 (by simpa using q)
  f10 := fun q q2 => h.f10 (by simpa using q) (by simpa using q2)
  f11 := fun q => h.f11 (by simpa using q)
  f12 := fun q => h.f12 (by simpa using q)
  f13 := fun q q2 => h.f13 (by simpa using q) (by simpa using q2)
  f14 := fun q => absurd (show d 14 = true by simpa using q) (by rw [h.not14 1 (by omega) hd]; simp)
theorem Made.s2 {B : Nat} {W : World} {X xa xb : Nat} {y : Lab.L} {d : Nat → Bool} {t18 t19 t20 t21 t22 t23 t24 t25 t26 t27 t28 t29 t30 t6 : Value} {w : World} {n20 : Value} (h : Made.I B W X xa xb y d t18 t19 t20 t21 t22 t23 t24 t25 t26 t27 t28 t29 t30 t6 w) (hd : d 2 = false) (hn : n20 = .int .u8 (xa : Int)) : Made.I B W X xa xb y (fun j => d j || j == 2) t18 t19 n20 t21 t22 t23 t24 t25 t26 t27 t28 t29 t30 t6 w where
  b := h.b
  all := fun q => absurd (show d 14 = true by simpa using q) (by rw [h.not14 2 (by omega) hd]; simp)
  f0 := fun q q2 => h.f0 (by simpa using q) (by simpa using q2)
  f1 := fun q => h.f1 (by simpa using q)
  f2 := fun _ => hn
  f3 := fun q => h.f3 (by simpa using q)
  f4 := fun q q2 => h.f4 (by simpa using q) (by simpa using q2)
  f5 := fun q => h.f5 (by simpa using q)
  f6 := fun q q2 => h.f6 (by simpa using q) (by simpa using q2)
  f7 := fun q => h.f7 (by simpa using q)
  f8 := fun q => h.f8 (by simpa using q)
  f9 := fun q => h.f9 (by simpa using q)
  f10 := fun q q2 => h.f10 (by simpa using q) (by simpa using q2)
  f11 := fun q => h.f11 (by simpa using q)
  f12 := fun q => h.f12 (by simpa using q)
  f13 := fun q q2 => h.f13 (by simpa using q) (by simpa using q2)
  f14 := fun q => absurd (show d 14 = true by simpa using q) (by rw [h.not14 2 (by omega) hd]; simp)
theorem Made.s3 {B : Nat} {W : World} {X xa xb : Nat} {y : Lab.L} {d : Nat → Bool} {t18 t19 t20 t21 t22 t23 t24 t25 t26 t27 t28 t29 t30 t6 : Value} {w : World} {n21 : Value} (h : Made.I B W X xa xb y d t18 t19 t20 t21 t22 t23 t24 t25 t26 t27 t28 t29 t30 t6 w) (hd : d 3 = false) (hn : n21 = .int .u8 ((xa : Int) % 16)) : Made.I B W X xa xb y (fun j => d j || j == 3) t18 t19 t20 n21 t22 t23 t24 t25 t26 t27 t28 t29 t30 t6 w where
  b := h.b
  all := fun q => absurd (show d 14 = true by simpa using q) (by rw [h.not14 3 (by omega) hd]; simp)
  f0 := fun q q2 => h.f0 (by simpa using q) (by simpa using q2)
  f1 := fun q => h.f1 (by simpa using q)
  f2 := fun q => h.f2 (by simpa using q)
  f3 := fun _ => hn
  f4 := fun q q2 => h.f4 (by simpa using q) (by simpa using q2)
  f5 := fun q => h.f5 (by simpa using q)
  f6 := fun q q2 => h.f6 (by simpa using q) (by simpa using q2)
  f7 := fun q => h.f7 (by simpa using q)
  f8 := fun q => h.f8 (by simpa using q)
  f9 := fun q => h.f9 (by simpa using q)
  f10 := fun q q2 => h.f10 (by simpa using q) (by simpa using q2)
  f11 := fun q => h.f11 (by simpa using q)
  f12 := fun q => h.f12 (by simpa using q)
  f13 := fun q q2 => h.f13 (by simpa using q) (by simpa using q2)
  f14 := fun q => absurd (show d 14 = true by simpa using q) (by rw [h.not14 3 (by omega) hd]; simp)
theorem Made.s4 {B : Nat} {W : World} {X xa xb : Nat} {y : Lab.L} {d : Nat → Bool} {t18 t19 t20 t21 t22 t23 t24 t25 t26 t27 t28 t29 t30 t6 : Value} {w : World} {n22 : Value} (h : Made.I B W X xa xb y d t18 t19 t20 t21 t22 t23 t24 t25 t26 t27 t28 t29 t30 t6 w) (hd : d 4 = false) (hn : Made.NP (xa % 16) n22 w) : Made.I B W X xa xb y (fun j => d j || j == 4) t18 t19 t20 t21 n22 t23 t24 t25 t26 t27 t28 t29 t30 t6 w where
  b := h.b
  all := fun q => absurd (show d 14 = true by simpa using q) (by rw [h.not14 4 (by omega) hd]; simp)
  f0 := fun q q2 => h.f0 (by simpa using q) (by simpa using q2)
  f1 := fun q => h.f1 (by simpa using q)
  f2 := fun q => h.f2 (by simpa using q)
  f3 := fun q => h.f3 (by simpa using q)
  f4 := fun _ _ => hn
  f5 := fun q => h.f5 (by simpa using q)
  f6 := fun q q2 => h.f6 (by simpa using q) (by simpa using q2)
  f7 := fun q => h.f7 (by simpa using q)
  f8 := fun q => h.f8 (by simpa using q)
  f9 := fun q => h.f9 (by simpa using q)
  f10 := fun q q2 => h.f10 (by simpa using q) (by simpa using q2)
  f11 := fun q => h.f11 (by simpa using q)
  f12 := fun q => h.f12 (by simpa using q)
  f13 := fun q q2 => h.f13 (by simpa using q) (by simpa using q2)
  f14 := fun q => absurd (show d 14 = true by simpa using q) (by rw [h.not14 4 (by omega) hd]; simp)
theorem Made.s5 {B : Nat} {W : World} {X xa xb : Nat} {y : Lab.L} {d : Nat → Bool} {t18 t19 t20 t21 t22 t23 t24 t25 t26 t27 t28 t29 t30 t6 : Value} {w : World} {n23 : Value} (h : Made.I B W X xa xb y d t18 t19 t20 t21 t22 t23 t24 t25 t26 t27 t28 t29 t30 t6 w) (hd : d 5 = false) (hn : n23 = .string y.n) : Made.I B W X xa xb y (fun j => d j || j == 5) t18 t19 t20 t21 t22 n23 t24 t25 t26 t27 t28 t29 t30 t6 w where
  b := h.b
  all := fun q => absurd (show d 14 = true by simpa using q) (by rw [h.not14 5 (by omega) hd]; simp)
  f0 := fun q q2 => h.f0 (by simpa using q) (by simpa using q2)
  f1 := fun q => h.f1 (by simpa using q)
  f2 := fun q => h.f2 (by simpa using q)
  f3 := fun q => h.f3 (by simpa using q)
  f4 := fun q q2 => h.f4 (by simpa using q) (by simpa using q2)
  f5 := fun _ => hn
  f6 := fun q q2 => h.f6 (by simpa using q) (by simpa using q2)
  f7 := fun q => h.f7 (by simpa using q)
  f8 := fun q => h.f8 (by simpa using q)
  f9 := fun q => h.f9 (by simpa using q)
  f10 := fun q q2 => h.f10 (by simpa using q) (by simpa using q2)
  f11 := fun q => h.f11 (by simpa using q)
  f12 := fun q => h.f12 (by simpa using q)
  f13 := fun q q2 => h.f13 (by simpa using q) (by simpa using q2)
  f14 := fun q => absurd (show d 14 = true by simpa using q) (by rw [h.not14 5 (by omega) hd]; simp)
theorem Made.s6 {B : Nat} {W : World} {X xa xb : Nat} {y : Lab.L} {d : Nat → Bool} {t18 t19 t20 t21 t22 t23 t24 t25 t26 t27 t28 t29 t30 t6 : Value} {w w2 : World} {n24 : Value} (h : Made.I B W X xa xb y d t18 t19 t20 t21 t22 t23 t24 t25 t26 t27 t28 t29 t30 t6 w) (hb : Below B w w2) (up : ∀ (g : Nat) (o : Obj), w.heap[g]? = some o → w2.heap[g]? = some o) (hd : d 6 = false) (hn : Made.V n24 w2) : Made.I B W X xa xb y (fun j => d j || j == 6) t18 t19 t20 t21 t22 t23 n24 t25 t26 t27 t28 t29 t30 t6 w2 where
  b := h.b.trans hb
  all := fun q => absurd (show d 14 = true by simpa using q) (by rw [h.not14 6 (by omega) hd]; simp)
  f0 := fun q q2 => (h.f0 (by simpa using q) (by simpa using q2)).up up
  f1 := fun q => h.f1 (by simpa using q)
  f2 := fun q => h.f2 (by simpa using q)
  f3 := fun q => h.f3 (by simpa using q)
  f4 := fun q q2 => (h.f4 (by simpa using q) (by simpa using q2)).up up
  f5 := fun q => h.f5 (by simpa using q)
  f6 := fun _ _ => hn
  f7 := fun q => h.f7 (by simpa using q)
  f8 := fun q => h.f8 (by simpa using q)
  f9 := fun q => h.f9 (by simpa using q)
  f10 := fun q q2 => (h.f10 (by simpa using q) (by simpa using q2)).up up
  f11 := fun q => h.f11 (by simpa using q)
  f12 := fun q => h.f12 (by simpa using q)
  f13 := fun q q2 => (h.f13 (by simpa using q) (by simpa using q2)).up up
  f14 := fun q => absurd (show d 14 = true by simpa using q) (by rw [h.not14 6 (by omega) hd]; simp)
theorem Made.s7 {B : Nat} {W : World} {X xa xb : Nat} {y : Lab.L} {d : Nat → Bool} {t18 t19 t20 t21 t22 t23 t24 t25 t26 t27 t28 t29 t30 t6 : Value} {w : World} {n25 : Value} (h : Made.I B W X xa xb y d t18 t19 t20 t21 t22 t23 t24 t25 t26 t27 t28 t29 t30 t6 w) (hd : d 7 = false) (hn : n25 = .pointer (some ⟨X, 1, none⟩)) : Made.I B W X xa xb y (fun j => d j || j == 7) t18 t19 t20 t21 t22 t23 t24 n25 t26 t27 t28 t29 t30 t6 w where
  b := h.b
  all := fun q => absurd (show d 14 = true by simpa using q) (by rw [h.not14 7 (by omega) hd]; simp)
  f0 := fun q q2 => h.f0 (by simpa using q) (by simpa using q2)
  f1 := fun q => h.f1 (by simpa using q)
  f2 := fun q => h.f2 (by simpa using q)
  f3 := fun q => h.f3 (by simpa using q)
  f4 := fun q q2 => h.f4 (by simpa using q) (by simpa using q2)
  f5 := fun q => h.f5 (by simpa using q)
  f6 := fun q q2 => h.f6 (by simpa using q) (by simpa using q2)
  f7 := fun _ => hn
  f8 := fun q => h.f8 (by simpa using q)
  f9 := fun q => h.f9 (by simpa using q)
  f10 := fun q q2 => h.f10 (by simpa using q) (by simpa using q2)
  f11 := fun q => h.f11 (by simpa using q)
  f12 := fun q => h.f12 (by simpa using q)
  f13 := fun q q2 => h.f13 (by simpa using q) (by simpa using q2)
  f14 := fun q => absurd (show d 14 = true by simpa using q) (by rw [h.not14 7 (by omega) hd]; simp)
theorem Made.s8 {B : Nat} {W : World} {X xa xb : Nat} {y : Lab.L} {d : Nat → Bool} {t18 t19 t20 t21 t22 t23 t24 t25 t26 t27 t28 t29 t30 t6 : Value} {w : World} {n26 : Value} (h : Made.I B W X xa xb y d t18 t19 t20 t21 t22 t23 t24 t25 t26 t27 t28 t29 t30 t6 w) (hd : d 8 = false) (hn : n26 = .int .u8 (xb : Int)) : Made.I B W X xa xb y (fun j => d j || j == 8) t18 t19 t20 t21 t22 t23 t24 t25 n26 t27 t28 t29 t30 t6 w where
  b := h.b
  all := fun q => absurd (show d 14 = true by simpa using q) (by rw [h.not14 8 (by omega) hd]; simp)
  f0 := fun q q2 => h.f0 (by simpa using q) (by simpa using q2)
  f1 := fun q => h.f1 (by simpa using q)
  f2 := fun q => h.f2 (by simpa using q)
  f3 := fun q => h.f3 (by simpa using q)
  f4 := fun q q2 => h.f4 (by simpa using q) (by simpa using q2)
  f5 := fun q => h.f5 (by simpa using q)
  f6 := fun q q2 => h.f6 (by simpa using q) (by simpa using q2)
  f7 := fun q => h.f7 (by simpa using q)
  f8 := fun _ => hn
  f9 := fun q => h.f9 (by simpa using q)
  f10 := fun q q2 => h.f10 (by simpa using q) (by simpa using q2)
  f11 := fun q => h.f11 (by simpa using q)
  f12 := fun q => h.f12 (by simpa using q)
  f13 := fun q q2 => h.f13 (by simpa using q) (by simpa using q2)
  f14 := fun q => absurd (show d 14 = true by simpa using q) (by rw [h.not14 8 (by omega) hd]; simp)
theorem Made.s9 {B : Nat} {W : World} {X xa xb : Nat} {y : Lab.L} {d : Nat → Bool} {t18 t19 t20 t21 t22 t23 t24 t25 t26 t27 t28 t29 t30 t6 : Value} {w : World} {n27 : Value} (h : Made.I B W X xa xb y d t18 t19 t20 t21 t22 t23 t24 t25 t26 t27 t28 t29 t30 t6 w) (hd : d 9 = false) (hn : n27 = .int .u8 ((xb : Int) % 8)) : Made.I B W X xa xb y (fun j => d j || j == 9) t18 t19 t20 t21 t22 t23 t24 t25 t26 n27 t28 t29 t30 t6 w where
  b := h.b
  all := fun q => absurd (show d 14 = true by simpa using q) (by rw [h.not14 9 (by omega) hd]; simp)
  f0 := fun q q2 => h.f0 (by simpa using q) (by simpa using q2)
  f1 := fun q => h.f1 (by simpa using q)
  f2 := fun q => h.f2 (by simpa using q)
  f3 := fun q => h.f3 (by simpa using q)
  f4 := fun q q2 => h.f4 (by simpa using q) (by simpa using q2)
  f5 := fun q => h.f5 (by simpa using q)
  f6 := fun q q2 => h.f6 (by simpa using q) (by simpa using q2)
  f7 := fun q => h.f7 (by simpa using q)
  f8 := fun q => h.f8 (by simpa using q)
  f9 := fun _ => hn
  f10 := fun q q2 => h.f10 (by simpa using q) (by simpa using q2)
  f11 := fun q => h.f11 (by simpa using q)
  f12 := fun q => h.f12 (by simpa using q)
  f13 := fun q q2 => h.f13 (by simpa using q) (by simpa using q2)
  f14 := fun q => absurd (show d 14 = true by simpa using q) (by rw [h.not14 9 (by omega) hd]; simp)
theorem Made.s10 {B : Nat} {W : World} {X xa xb : Nat} {y : Lab.L} {d : Nat → Bool} {t18 t19 t20 t21 t22 t23 t24 t25 t26 t27 t28 t29 t30 t6 : Value} {w : World} {n28 : Value} (h : Made.I B W X xa xb y d t18 t19 t20 t21 t22 t23 t24 t25 t26 t27 t28 t29 t30 t6 w) (hd : d 10 = false) (hn : Made.VP (xb % 8) n28 w) : Made.I B W X xa xb y (fun j => d j || j == 10) t18 t19 t20 t21 t22 t23 t24 t25 t26 t27 n28 t29 t30 t6 w where
  b := h.b
  all := fun q => absurd (show d 14 = true by simpa using q) (by rw [h.not14 10 (by omega) hd]; simp)
  f0 := fun q q2 => h.f0 (by simpa using q) (by simpa using q2)
  f1 := fun q => h.f1 (by simpa using q)
  f2 := fun q => h.f2 (by simpa using q)
  f3 := fun q => h.f3 (by simpa using q)
  f4 := fun q q2 => h.f4 (by simpa using q) (by simpa using q2)
  f5 := fun q => h.f5 (by simpa using q)
  f6 := fun q q2 => h.f6 (by simpa using q) (by simpa using q2)
  f7 := fun q => h.f7 (by simpa using q)
  f8 := fun q => h.f8 (by simpa using q)
  f9 := fun q => h.f9 (by simpa using q)
  f10 := fun _ _ => hn
  f11 := fun q => h.f11 (by simpa using q)
  f12 := fun q => h.f12 (by simpa using q)
  f13 := fun q q2 => h.f13 (by simpa using q) (by simpa using q2)
  f14 := fun q => absurd (show d 14 = true by simpa using q) (by rw [h.not14 10 (by omega) hd]; simp)
theorem Made.s11 {B : Nat} {W : World} {X xa xb : Nat} {y : Lab.L} {d : Nat → Bool} {t18 t19 t20 t21 t22 t23 t24 t25 t26 t27 t28 t29 t30 t6 : Value} {w : World} {n29 : Value} (h : Made.I B W X xa xb y d t18 t19 t20 t21 t22 t23 t24 t25 t26 t27 t28 t29 t30 t6 w) (hd : d 11 = false) (hn : n29 = .string y.v) : Made.I B W X xa xb y (fun j => d j || j == 11) t18 t19 t20 t21 t22 t23 t24 t25 t26 t27 t28 n29 t30 t6 w where
  b := h.b
  all := fun q => absurd (show d 14 = true by simpa using q) (by rw [h.not14 11 (by omega) hd]; simp)
  f0 := fun q q2 => h.f0 (by simpa using q) (by simpa using q2)
  f1 := fun q => h.f1 (by simpa using q)
  f2 := fun q => h.f2 (by simpa using q)
  f3 := fun q => h.f3 (by simpa using q)
  f4 := fun q q2 => h.f4 (by simpa using q) (by simpa using q2)
  f5 := fun q => h.f5 (by simpa using q)
  f6 := fun q q2 => h.f6 (by simpa using q) (by simpa using q2)
  f7 := fun q => h.f7 (by simpa using q)
  f8 := fun q => h.f8 (by simpa using q)
  f9 := fun q => h.f9 (by simpa using q)
  f10 := fun q q2 => h.f10 (by simpa using q) (by simpa using q2)
  f11 := fun _ => hn
  f12 := fun q => h.f12 (by simpa using q)
  f13 := fun q q2 => h.f13 (by simpa using q) (by simpa using q2)
  f14 := fun q => absurd (show d 14 = true by simpa using q) (by rw [h.not14 11 (by omega) hd]; simp)
theorem Made.s12 {B : Nat} {W : World} {X xa xb : Nat} {y : Lab.L} {d : Nat → Bool} {t18 t19 t20 t21 t22 t23 t24 t25 t26 t27 t28 t29 t30 t6 : Value} {w : World} {n30 : Value} (h : Made.I B W X xa xb y d t18 t19 t20 t21 t22 t23 t24 t25 t26 t27 t28 t29 t30 t6 w) (hd : d 12 = false) (hn : n30 = .agg #[.string y.n, .string y.v]) : Made.I B W X xa xb y (fun j => d j || j == 12) t18 t19 t20 t21 t22 t23 t24 t25 t26 t27 t28 t29 n30 t6 w where
  b := h.b
  all := fun q => absurd (show d 14 = true by simpa using q) (by rw [h.not14 12 (by omega) hd]; simp)
  f0 := fun q q2 => h.f0 (by simpa using q) (by simpa using q2)
  f1 := fun q => h.f1 (by simpa using q)
  f2 := fun q => h.f2 (by simpa using q)
  f3 := fun q => h.f3 (by simpa using q)
  f4 := fun q q2 => h.f4 (by simpa using q) (by simpa using q2)
  f5 := fun q => h.f5 (by simpa using q)
  f6 := fun q q2 => h.f6 (by simpa using q) (by simpa using q2)
  f7 := fun q => h.f7 (by simpa using q)
  f8 := fun q => h.f8 (by simpa using q)
  f9 := fun q => h.f9 (by simpa using q)
  f10 := fun q q2 => h.f10 (by simpa using q) (by simpa using q2)
  f11 := fun q => h.f11 (by simpa using q)
  f12 := fun _ => hn
  f13 := fun q q2 => h.f13 (by simpa using q) (by simpa using q2)
  f14 := fun q => absurd (show d 14 = true by simpa using q) (by rw [h.not14 12 (by omega) hd]; simp)
theorem Made.s13 {B : Nat} {W : World} {X xa xb : Nat} {y : Lab.L} {d : Nat → Bool} {t18 t19 t20 t21 t22 t23 t24 t25 t26 t27 t28 t29 t30 t6 : Value} {w w2 : World} {n6 : Value} (h : Made.I B W X xa xb y d t18 t19 t20 t21 t22 t23 t24 t25 t26 t27 t28 t29 t30 t6 w) (hb : Below B w w2) (up : ∀ (g : Nat) (o : Obj), w.heap[g]? = some o → w2.heap[g]? = some o) (hd : d 13 = false) (hn : Made.Z B n6 w2) : Made.I B W X xa xb y (fun j => d j || j == 13) t18 t19 t20 t21 t22 t23 t24 t25 t26 t27 t28 t29 t30 n6 w2 where
  b := h.b.trans hb
  all := fun q => absurd (show d 14 = true by simpa using q) (by rw [h.not14 13 (by omega) hd]; simp)
  f0 := fun q q2 => (h.f0 (by simpa using q) (by simpa using q2)).up up
  f1 := fun q => h.f1 (by simpa using q)
  f2 := fun q => h.f2 (by simpa using q)
  f3 := fun q => h.f3 (by simpa using q)
  f4 := fun q q2 => (h.f4 (by simpa using q) (by simpa using q2)).up up
  f5 := fun q => h.f5 (by simpa using q)
  f6 := fun q q2 => (h.f6 (by simpa using q) (by simpa using q2)).up up
  f7 := fun q => h.f7 (by simpa using q)
  f8 := fun q => h.f8 (by simpa using q)
  f9 := fun q => h.f9 (by simpa using q)
  f10 := fun q q2 => (h.f10 (by simpa using q) (by simpa using q2)).up up
  f11 := fun q => h.f11 (by simpa using q)
  f12 := fun q => h.f12 (by simpa using q)
  f13 := fun _ _ => hn
  f14 := fun q => absurd (show d 14 = true by simpa using q) (by rw [h.not14 13 (by omega) hd]; simp)
theorem Made.s14 {B : Nat} {W : World} {X xa xb : Nat} {y : Lab.L} {d : Nat → Bool} {t18 t19 t20 t21 t22 t23 t24 t25 t26 t27 t28 t29 t30 t6 : Value} {w w2 : World} (h : Made.I B W X xa xb y d t18 t19 t20 t21 t22 t23 t24 t25 t26 t27 t28 t29 t30 t6 w) (hb : Below B w w2) (hall : ∀ j, j < 14 → d j = true) (hn : Made.Y B y t6 w2) : Made.I B W X xa xb y (fun j => d j || j == 14) t18 t19 t20 t21 t22 t23 t24 t25 t26 t27 t28 t29 t30 t6 w2 where
  b := h.b.trans hb
  all := fun _ j hj => by simp [hall j hj]
  f0 := fun _ q2 => absurd q2 (by simp)
  f1 := fun q => h.f1 (by simpa using q)
  f2 := fun q => h.f2 (by simpa using q)
  f3 := fun q => h.f3 (by simpa using q)
  f4 := fun _ q2 => absurd q2 (by simp)
  f5 := fun q => h.f5 (by simpa using q)
  f6 := fun _ q2 => absurd q2 (by simp)
  f7 := fun q => h.f7 (by simpa using q)
  f8 := fun q => h.f8 (by simpa using q)
  f9 := fun q => h.f9 (by simpa using q)
  f10 := fun _ q2 => absurd q2 (by simp)
  f11 := fun q => h.f11 (by simpa using q)
  f12 := fun q => h.f12 (by simpa using q)
  f13 := fun _ q2 => absurd q2 (by simp)
  f14 := fun _ => hn
end Go.Proofs.YtbilaghljlobpaaGreat
namespace Go.Proofs.YtbilaghljlobpaaGreat
open Go.RowKit

theorem Lab.at_take {g : Nat} {ls : List Lab.L} {w : World} (h : Lab.At (some ⟨g, 0, none⟩) ls w) (k : Nat) : ∀ i (h : i < (ls.take k).length), w.cell? ⟨g, 0 + i * 2, none⟩ = some (.string (ls.take k)[i].n) ∧ w.cell? ⟨g, 0 + i * 2 + 1, none⟩ = some (.string (ls.take k)[i].v) := by
  intro i hi
  rw [List.length_take] at hi
  obtain ⟨b, o, e, hc⟩ := h.open i (by omega)
  simp only [Option.some.injEq, Addr.mk.injEq] at e
  obtain ⟨rfl, rfl, _⟩ := e
  rw [List.getElem_take]
  exact hc i (by omega)
theorem Lab.at_drop {g : Nat} {ls : List Lab.L} {w : World} (h : Lab.At (some ⟨g, 0, none⟩) ls w) (k : Nat) : ∀ i (h : i < (ls.drop k).length), w.cell? ⟨g, k * 2 + i * 2, none⟩ = some (.string (ls.drop k)[i].n) ∧ w.cell? ⟨g, k * 2 + i * 2 + 1, none⟩ = some (.string (ls.drop k)[i].v) := by
  intro i hi
  rw [List.length_drop] at hi
  obtain ⟨b, o, e, hc⟩ := h.open (k + i) (by omega)
  simp only [Option.some.injEq, Addr.mk.injEq] at e
  obtain ⟨rfl, rfl, _⟩ := e
  rw [List.getElem_drop]
  have := hc (k + i) (by omega)
  rw [show 0 + (k + i) * 2 = k * 2 + i * 2 by omega] at this
  exact this
/-- 'append(v, none..)': nothing turns -/
theorem wpList_append_none {P : Program} {ops : Array Oper} {rest : List Oper} {o : Oper} {a : Act} {w : World} {Q : Exit → Act → World → Prop}
    (hg : o.guard = none) (s x : Operand) (t : TypeId) (hop : o.op = Op.call { callee := Callee.builtin Builtin.append, args := #[s, x], argTypes := #[t, t] })
    (e : TypeId) (i : TypeInfo) (h1 : P.underlying t = some (.slice e)) (h2 : P.info? e = some i) (ao : Option Addr) (n cap : Nat) (hs : a.eval s = .slice ao n cap) (hle : n ≤ cap) (hx : ∃ ad c, a.eval x = .slice (some ad) 0 c)
    (hK : wpList P ops Q rest (a.put o.dst (.slice ao n cap)) w) : wpList P ops Q (o :: rest) a w := by
  obtain ⟨ad, c, hx⟩ := hx
  refine wpList_plain hg fun K hK' => ?_
  have hrun := run_append_nothing (P := P) w t t o.type e i h1 h2 ao n cap hle (.slice (some ad) 0 c) (Src.ofSlice w h1 ad 0 c [] (by simp) (fun j u hj => by simp at hj) (fun u hu => by simp at hu))
  unfold Oper.wp
  simp [execOp, hop, resolve, invoke, builtin, hs, hx, hrun, Result.andThen]
  exact hK' _ _ hK
theorem Lab.cells_take (l : List Lab.L) (k : Nat) : Lab.cells (l.take k) = (Lab.cells l).take (k * 2) := by
  induction l generalizing k with
  | nil => simp [Lab.cells]
  | cons x r ih =>
    cases k with
    | zero => simp [Lab.cells]
    | succ k =>
      have e : ∀ (z : Lab.L) (l : List Lab.L), Lab.cells (z :: l) = .string z.n :: .string z.v :: Lab.cells l := fun z l => by simp [Lab.cells]
      rw [List.take_succ_cons, e, e, ih k, show (k + 1) * 2 = k * 2 + 1 + 1 by omega]
      simp
/-- the cells of labels, out of a row -/
theorem Lab.at_cells {p : Addr} {ls : List Lab.L} {g o : Nat} {w : World} (hp : p = ⟨g, o, none⟩) (hc : ∀ i (h : i < ls.length), w.cell? ⟨g, o + i * 2, none⟩ = some (.string ls[i].n) ∧ w.cell? ⟨g, o + i * 2 + 1, none⟩ = some (.string ls[i].v)) :
    ∀ j u, (Lab.cells ls)[j]? = some u → w.cell? (p.add j) = some u := by
  intro j u hj
  subst hp
  have hj2 : j < (Lab.cells ls).length := (List.getElem?_eq_some_iff.1 hj).1
  rw [Lab.cells_length] at hj2
  have e : (⟨g, o, none⟩ : Addr).add j = ⟨g, o + j, none⟩ := by unfold Addr.add; split <;> simp_all
  rw [e]
  have h1 := hc (j / 2) (by omega)
  have h2 := Lab.cells_get ls (j / 2) (by omega)
  rcases Nat.mod_two_eq_zero_or_one j with h | h
  · have e2 : j / 2 * 2 = j := by omega
    rw [e2] at h1 h2
    rw [h1.1]
    exact (h2.1.symm.trans hj)
  · have e2 : j / 2 * 2 + 1 = j := by omega
    have e3 : o + j / 2 * 2 + 1 = o + j := by omega
    rw [e2] at h2
    rw [e3] at h1
    rw [h1.2]
    exact (h2.2.symm.trans hj)

end Go.Proofs.YtbilaghljlobpaaGreat
