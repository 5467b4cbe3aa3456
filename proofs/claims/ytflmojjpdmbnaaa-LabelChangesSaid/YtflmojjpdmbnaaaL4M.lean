/- The region of Made that makes a label: what each operation leaves. (Printed by gen_made.py.) Contracts of the law's own makers: Names, Made (labels in small numbers). -/
import Derived.Test.YtflmojjpdmbnaaaCanO
import Derived.Test.YtflmojjpdmbnaaaMadeD
import Derived.Test.YtflmojjpdmbnaaaL4K
import Derived.Test.YtflmojjpdmbnaaaL4R
import Derived.Deep.AppendLies
import Derived.BigQuiet
import Derived.StillTailTactics
import Derived.Deep.RegionLawGrows
import Derived.Deep.Upon
import Derived.Test.YtflmojjpdmbnaaaReg
namespace Go.Proofs.Ytflmojjpdmbnaaa
open Go.RowKit

def Made.nameC : Array Value := (Lab.nameL.map Value.string).toArray
def Made.valueC : Array Value := (Lab.valueL.map Value.string).toArray
def Made.N (t : Value) (w : World) : Prop := ∃ g, t = .slice (some ⟨g, 0, none⟩) 16 16 ∧ w.heap[g]? = some (.cells Made.nameC 9)
def Made.NP (k : Nat) (t : Value) (w : World) : Prop := ∃ g, t = .pointer (some ⟨g, k, none⟩) ∧ w.heap[g]? = some (.cells Made.nameC 9)
def Made.V (t : Value) (w : World) : Prop := ∃ g, t = .slice (some ⟨g, 0, none⟩) 8 8 ∧ w.heap[g]? = some (.cells Made.valueC 9)
def Made.VP (k : Nat) (t : Value) (w : World) : Prop := ∃ g, t = .pointer (some ⟨g, k, none⟩) ∧ w.heap[g]? = some (.cells Made.valueC 9)
def Made.Z (B : Nat) (t : Value) (w : World) : Prop := ∃ g, t = .pointer (some ⟨g, 0, none⟩) ∧ B ≤ g ∧ w.heap[g]? = some (.cells #[.string ByteArray.empty, .string ByteArray.empty] 36)
def Made.Y (B : Nat) (y : Lab.L) (t : Value) (w : World) : Prop := ∃ g, t = .pointer (some ⟨g, 0, none⟩) ∧ B ≤ g ∧ w.cell? ⟨g, 0, none⟩ = some (.string y.n) ∧ w.cell? ⟨g, 1, none⟩ = some (.string y.v)
theorem Made.N.up {t : Value} {w w2 : World} (h : Made.N t w) (up : ∀ (g : Nat) (o : Obj), w.heap[g]? = some o → w2.heap[g]? = some o) : Made.N t w2 := by
  obtain ⟨g, h1, h2⟩ := h
  exact ⟨g, h1, up _ _ h2⟩
theorem Made.NP.up {k : Nat} {t : Value} {w w2 : World} (h : Made.NP k t w) (up : ∀ (g : Nat) (o : Obj), w.heap[g]? = some o → w2.heap[g]? = some o) : Made.NP k t w2 := by
  obtain ⟨g, h1, h2⟩ := h
  exact ⟨g, h1, up _ _ h2⟩
theorem Made.V.up {t : Value} {w w2 : World} (h : Made.V t w) (up : ∀ (g : Nat) (o : Obj), w.heap[g]? = some o → w2.heap[g]? = some o) : Made.V t w2 := by
  obtain ⟨g, h1, h2⟩ := h
  exact ⟨g, h1, up _ _ h2⟩
theorem Made.VP.up {k : Nat} {t : Value} {w w2 : World} (h : Made.VP k t w) (up : ∀ (g : Nat) (o : Obj), w.heap[g]? = some o → w2.heap[g]? = some o) : Made.VP k t w2 := by
  obtain ⟨g, h1, h2⟩ := h
  exact ⟨g, h1, up _ _ h2⟩
theorem Made.Z.up {B : Nat} {t : Value} {w w2 : World} (h : Made.Z B t w) (up : ∀ (g : Nat) (o : Obj), w.heap[g]? = some o → w2.heap[g]? = some o) : Made.Z B t w2 := by
  obtain ⟨g, h1, h2, h3⟩ := h
  exact ⟨g, h1, h2, up _ _ h3⟩
set_option linter.unusedVariables false

/-- what stands where, once it has come up -/
structure Made.I (B : Nat) (W : World) (X xa xb : Nat) (y : Lab.L) (d : Nat → Bool) (t18 t19 t20 t21 t22 t23 t24 t25 t26 t27 t28 t29 t30 t6 : Value) (w : World) : Prop where
  b : Below B W w
  all : d 14 = true → ∀ j, j < 14 → d j = true
  f0 : d 0 = true → d 14 = false → Made.N t18 w
  f1 : d 1 = true → t19 = .pointer (some ⟨X, 0, none⟩)
  f2 : d 2 = true → t20 = .int .u8 (xa : Int)
  f3 : d 3 = true → t21 = .int .u8 ((xa : Int) % 16)
  f4 : d 4 = true → d 14 = false → Made.NP (xa % 16) t22 w
  f5 : d 5 = true → t23 = .string y.n
  f6 : d 6 = true → d 14 = false → Made.V t24 w
  f7 : d 7 = true → t25 = .pointer (some ⟨X, 1, none⟩)
  f8 : d 8 = true → t26 = .int .u8 (xb : Int)
  f9 : d 9 = true → t27 = .int .u8 ((xb : Int) % 8)
  f10 : d 10 = true → d 14 = false → Made.VP (xb % 8) t28 w
  f11 : d 11 = true → t29 = .string y.v
  f12 : d 12 = true → t30 = .agg #[.string y.n, .string y.v]
  f13 : d 13 = true → d 14 = false → Made.Z B t6 w
  f14 : d 14 = true → Made.Y B y t6 w
theorem Made.start (W : World) (X xa xb : Nat) (y : Lab.L) (t18 t19 t20 t21 t22 t23 t24 t25 t26 t27 t28 t29 t30 t6 : Value) : Made.I W.heap.size W X xa xb y (fun _ => false) t18 t19 t20 t21 t22 t23 t24 t25 t26 t27 t28 t29 t30 t6 W.drew where
  b := (Below.refl _ _).drew
  all := fun q => by cases q
  f0 := fun q => by cases q
  f1 := fun q => by cases q
  f2 := fun q => by cases q
  f3 := fun q => by cases q
  f4 := fun q => by cases q
  f5 := fun q => by cases q
  f6 := fun q => by cases q
  f7 := fun q => by cases q
  f8 := fun q => by cases q
  f9 := fun q => by cases q
  f10 := fun q => by cases q
  f11 := fun q => by cases q
  f12 := fun q => by cases q
  f13 := fun q => by cases q
  f14 := fun q => by cases q
theorem Made.I.not14 {B : Nat} {W : World} {X xa xb : Nat} {y : Lab.L} {d : Nat → Bool} {t18 t19 t20 t21 t22 t23 t24 t25 t26 t27 t28 t29 t30 t6 : Value} {w : World} (h : Made.I B W X xa xb y d t18 t19 t20 t21 t22 t23 t24 t25 t26 t27 t28 t29 t30 t6 w) (i : Nat) (hi : i < 14) (hd : d i = false) : d 14 = false := by
  cases e : d 14 with
  | false => rfl
  | true => rw [h.all e i hi] at hd; cases hd
theorem Made.s0 {B : Nat} {W : World} {X xa xb : Nat} {y : Lab.L} {d : Nat → Bool} {t18 t19 t20 t21 t22 t23 t24 t25 t26 t27 t28 t29 t30 t6 : Value} {w w2 : World} {n18 : Value} (h : Made.I B W X xa xb y d t18 t19 t20 t21 t22 t23 t24 t25 t26 t27 t28 t29 t30 t6 w) (hb : Below B w w2) (up : ∀ (g : Nat) (o : Obj), w.heap[g]? = some o → w2.heap[g]? = some o) (hd : d 0 = false) (hn : Made.N n18 w2) : Made.I B W X xa xb y (fun j => d j || j == 0) n18 t19 t20 t21 t22 t23 t24 t25 t26 t27 t28 t29 t30 t6 w2 where
  b := h.b.trans hb
  all := fun q => absurd (show d 14 = true by simpa using q) (by rw [h.not14 0 (by omega) hd]; simp)
  f0 := fun _ _ => hn
  f1 := fun q => h.f1 (by simpa using q)
  f2 := fun q => h.f2 (by simpa using q)
  f3 := fun q => h.f3 (by simpa using q)
  f4 := fun q q2 => (h.f4 (by simpa using q) (by simpa using q2)).up up
  f5 := fun q => h.f5 (by simpa using q)
  f6 := fun q q2 => (h.f6 (by simpa using q) (by simpa using q2)).up up
  f7 := fun q => h.f7 (by simpa using q)
  f8 := fun q => h.f8 (by simpa using q)
  f9 := fun q => h.f9 (by simpa using q)
  f10 := fun q q2 => (h.f10 (by simpa using q) (by simpa using q2)).up up
  f11 := fun q => h.f11 (by simpa using q)
  f12 := fun q => h.f12 (by simpa using q)
  f13 := fun q q2 => (h.f13 (by simpa using q) (by simpa using q2)).up up
  f14 := fun q => absurd (show d 14 = true by simpa using q) (by rw [h.not14 0 (by omega) hd]; simp)
theorem Made.s1 {B : Nat} {W : World} {X xa xb : Nat} {y : Lab.L} {d : Nat → Bool} {t18 t19 t20 t21 t22 t23 t24 t25 t26 t27 t28 t29 t30 t6 : Value} {w : World} {n19 : Value} (h : Made.I B W X xa xb y d t18 t19 t20 t21 t22 t23 t24 t25 t26 t27 t28 t29 t30 t6 w) (hd : d 1 = false) (hn : n19 = .pointer (some ⟨X, 0, none⟩)) : Made.I B W X xa xb y (fun j => d j || j == 1) t18 n19 t20 t21 t22 t23 t24 t25 t26 t27 t28 t29 t30 t6 w where
  b := h.b
  all := fun q => absurd (show d 14 = true by simpa using q) (by rw [h.not14 1 (by omega) hd]; simp)
  f0 := fun q q2 => h.f0 (by simpa using q) (by simpa using q2)
  f1 := fun _ => hn
  f2 := fun q => h.f2 (by simpa using q)
  f3 := fun q => h.f3 (by simpa using q)
  f4 := fun q q2 => h.f4 (by simpa using q) (by simpa using q2)
  f5 := fun q => h.f5 (by simpa using q)
  f6 := fun q q2 => h.f6 (by simpa using q) (by simpa using q2)
  f7 := fun q => h.f7 (by simpa using q)
  f8 := fun q => h.f8 (by simpa using q)
  f9 := fun q => h.f9 (by simpa using q)
  f10 := fun q q2 => h.f10 (by simpa using q) (by simpa using q2)
  f11 := fun q => h.f11 (by simpa using q)
  f12 := fun q => h.f12 (by simpa using q)
  f13 := fun q q2 => h.f13 (by simpa using q) (by simpa using q2)
  f14 := fun q => absurd (show d 14 = true by simpa using q) (by rw [h.not14 1 (by omega) hd]; simp)
theorem Made.s2 {B : Nat} {W : World} {X xa xb : Nat} {y : Lab.L} {d : Nat → Bool} {t18 t19 t20 t21 t22 t23 t24 t25 t26 t27 t28 t29 t30 t6 : Value} {w : World} {n20 : Value} (h : Made.I B W X xa xb y d t18 t19 t20 t21 t22 t23 t24 t25 t26 t27 t28 t29 t30 t6 w) (hd : d 2 = false) (hn : n20 = .int .u8 (xa : Int)) : Made.I B W X xa xb y (fun j => d j || j == 2) t18 t19 n20 t21 t22 t23 t24 t25 t26 t27 t28 t29 t30 t6 w where
  b := h.b
  all := fun q => absurd (show d 14 = true by simpa using q) (by rw [h.not14 2 (by omega) hd]; simp)
  f0 := fun q q2 => h.f0 (by simpa using q) (by simpa using q2)
  f1 := fun q => h.f1 (by simpa using q)
  f2 := fun _ => hn
  f3 := fun q => h.f3 (by simpa using q)
  f4 := fun q q2 => h.f4 (by simpa using q) (by simpa using q2)
  f5 := fun q => h.f5 (by simpa using q)
  f6 := fun q q2 => h.f6 (by simpa using q) (by simpa using q2)
  f7 := fun q => h.f7 (by simpa using q)
  f8 := fun q => h.f8 (by simpa using q)
  f9 := fun q => h.f9 (by simpa using q)
  f10 := fun q q2 => h.f10 (by simpa using q) (by simpa using q2)
  f11 := fun q => h.f11 (by simpa using q)
  f12 := fun q => h.f12 (by simpa using q)
  f13 := fun q q2 => h.f13 (by simpa using q) (by simpa using q2)
  f14 := fun q => absurd (show d 14 = true by simpa using q) (by rw [h.not14 2 (by omega) hd]; simp)
theorem Made.s3 {B : Nat} {W : World} {X xa xb : Nat} {y : Lab.L} {d : Nat → Bool} {t18 t19 t20 t21 t22 t23 t24 t25 t26 t27 t28 t29 t30 t6 : Value} {w : World} {n21 : Value} (h : Made.I B W X xa xb y d t18 t19 t20 t21 t22 t23 t24 t25 t26 t27 t28 t29 t30 t6 w) (hd : d 3 = false) (hn : n21 = .int .u8 ((xa : Int) % 16)) : Made.I B W X xa xb y (fun j => d j || j == 3) t18 t19 t20 n21 t22 t23 t24 t25 t26 t27 t28 t29 t30 t6 w where
  b := h.b
  all := fun q => absurd (show d 14 = true by simpa using q) (by rw [h.not14 3 (by omega) hd]; simp)
  f0 := fun q q2 => h.f0 (by simpa using q) (by simpa using q2)
  f1 := fun q => h.f1 (by simpa using q)
  f2 := fun q => h.f2 (by simpa using q)
  f3 := fun _ => hn
  f4 := fun q q2 => h.f4 (by simpa using q) (by simpa using q2)
  f5 := fun q => h.f5 (by simpa using q)
  f6 := fun q q2 => h.f6 (by simpa using q) (by simpa using q2)
  f7 := fun q => h.f7 (by simpa using q)
  f8 := fun q => h.f8 (by simpa using q)
  f9 := fun q => h.f9 (by simpa using q)
  f10 := fun q q2 => h.f10 (by simpa using q) (by simpa using q2)
  f11 := fun q => h.f11 (by simpa using q)
  f12 := fun q => h.f12 (by simpa using q)
  f13 := fun q q2 => h.f13 (by simpa using q) (by simpa using q2)
  f14 := fun q => absurd (show d 14 = true by simpa using q) (by rw [h.not14 3 (by omega) hd]; simp)
theorem Made.s4 {B : Nat} {W : World} {X xa xb : Nat} {y : Lab.L} {d : Nat → Bool} {t18 t19 t20 t21 t22 t23 t24 t25 t26 t27 t28 t29 t30 t6 : Value} {w : World} {n22 : Value} (h : Made.I B W X xa xb y d t18 t19 t20 t21 t22 t23 t24 t25 t26 t27 t28 t29 t30 t6 w) (hd : d 4 = false) (hn : Made.NP (xa % 16) n22 w) : Made.I B W X xa xb y (fun j => d j || j == 4) t18 t19 t20 t21 n22 t23 t24 t25 t26 t27 t28 t29 t30 t6 w where
  b := h.b
  all := fun q => absurd (show d 14 = true by simpa using q) (by rw [h.not14 4 (by omega) hd]; simp)
  f0 := fun q q2 => h.f0 (by simpa using q) (by simpa using q2)
  f1 := fun q => h.f1 (by simpa using q)
  f2 := fun q => h.f2 (by simpa using q)
  f3 := fun q => h.f3 (by simpa using q)
  f4 := fun _ _ => hn
  f5 := fun q => h.f5 (by simpa using q)
  f6 := fun q q2 => h.f6 (by simpa using q) (by simpa using q2)
  f7 := fun q => h.f7 (by simpa using q)
  f8 := fun q => h.f8 (by simpa using q)
  f9 := fun q => h.f9 (by simpa using q)
  f10 := fun q q2 => h.f10 (by simpa using q) (by simpa using q2)
  f11 := fun q => h.f11 (by simpa using q)
  f12 := fun q => h.f12 (by simpa using q)
  f13 := fun q q2 => h.f13 (by simpa using q) (by simpa using q2)
  f14 := fun q => absurd (show d 14 = true by simpa using q) (by rw [h.not14 4 (by omega) hd]; simp)
theorem Made.s5 {B : Nat} {W : World} {X xa xb : Nat} {y : Lab.L} {d : Nat → Bool} {t18 t19 t20 t21 t22 t23 t24 t25 t26 t27 t28 t29 t30 t6 : Value} {w : World} {n23 : Value} (h : Made.I B W X xa xb y d t18 t19 t20 t21 t22 t23 t24 t25 t26 t27 t28 t29 t30 t6 w) (hd : d 5 = false) (hn : n23 = .string y.n) : Made.I B W X xa xb y (fun j => d j || j == 5) t18 t19 t20 t21 t22 n23 t24 t25 t26 t27 t28 t29 t30 t6 w where
  b := h.b
  all := fun q => absurd (show d 14 = true by simpa using q) (by rw [h.not14 5 (by omega) hd]; simp)
  f0 := fun q q2 => h.f0 (by simpa using q) (by simpa using q2)
  f1 := fun q => h.f1 (by simpa using q)
  f2 := fun q => h.f2 (by simpa using q)
  f3 := fun q => h.f3 (by simpa using q)
  f4 := fun q q2 => h.f4 (by simpa using q) (by simpa using q2)
  f5 := fun _ => hn
  f6 := fun q q2 => h.f6 (by simpa using q) (by simpa using q2)
  f7 := fun q => h.f7 (by simpa using q)
  f8 := fun q => h.f8 (by simpa using q)
  f9 := fun q => h.f9 (by simpa using q)
  f10 := fun q q2 => h.f10 (by simpa using q) (by simpa using q2)
  f11 := fun q => h.f11 (by simpa using q)
  f12 := fun q => h.f12 (by simpa using q)
  f13 := fun q q2 => h.f13 (by simpa using q) (by simpa using q2)
  f14 := fun q => absurd (show d 14 = true by simpa using q) (by rw [h.not14 5 (by omega) hd]; simp)
theorem Made.s6 {B : Nat} {W : World} {X xa xb : Nat} {y : Lab.L} {d : Nat → Bool} {t18 t19 t20 t21 t22 t23 t24 t25 t26 t27 t28 t29 t30 t6 : Value} {w w2 : World} {n24 : Value} (h : Made.I B W X xa xb y d t18 t19 t20 t21 t22 t23 t24 t25 t26 t27 t28 t29 t30 t6 w) (hb : Below B w w2) (up : ∀ (g : Nat) (o : Obj), w.heap[g]? = some o → w2.heap[g]? = some o) (hd : d 6 = false) (hn : Made.V n24 w2) : Made.I B W X xa xb y (fun j => d j || j == 6) t18 t19 t20 t21 t22 t23 n24 t25 t26 t27 t28 t29 t30 t6 w2 where
  b := h.b.trans hb
  all := fun q => absurd (show d 14 = true by simpa using q) (by rw [h.not14 6 (by omega) hd]; simp)
  f0 := fun q q2 => (h.f0 (by simpa using q) (by simpa using q2)).up up
  f1 := fun q => h.f1 (by simpa using q)
  f2 := fun q => h.f2 (by simpa using q)
  f3 := fun q => h.f3 (by simpa using q)
  f4 := fun q q2 => (h.f4 (by simpa using q) (by simpa using q2)).up up
  f5 := fun q => h.f5 (by simpa using q)
  f6 := fun _ _ => hn
  f7 := fun q => h.f7 (by simpa using q)
  f8 := fun q => h.f8 (by simpa using q)
  f9 := fun q => h.f9 (by simpa using q)
  f10 := fun q q2 => (h.f10 (by simpa using q) (by simpa using q2)).up up
  f11 := fun q => h.f11 (by simpa using q)
  f12 := fun q => h.f12 (by simpa using q)
  f13 := fun q q2 => (h.f13 (by simpa using q) (by simpa using q2)).up up
  f14 := fun q => absurd (show d 14 = true by simpa using q) (by rw [h.not14 6 (by omega) hd]; simp)
theorem Made.s7 {B : Nat} {W : World} {X xa xb : Nat} {y : Lab.L} {d : Nat → Bool} {t18 t19 t20 t21 t22 t23 t24 t25 t26 t27 t28 t29 t30 t6 : Value} {w : World} {n25 : Value} (h : Made.I B W X xa xb y d t18 t19 t20 t21 t22 t23 t24 t25 t26 t27 t28 t29 t30 t6 w) (hd : d 7 = false) (hn : n25 = .pointer (some ⟨X, 1, none⟩)) : Made.I B W X xa xb y (fun j => d j || j == 7) t18 t19 t20 t21 t22 t23 t24 n25 t26 t27 t28 t29 t30 t6 w where
  b := h.b
  all := fun q => absurd (show d 14 = true by simpa using q) (by rw [h.not14 7 (by omega) hd]; simp)
  f0 := fun q q2 => h.f0 (by simpa using q) (by simpa using q2)
  f1 := fun q => h.f1 (by simpa using q)
  f2 := fun q => h.f2 (by simpa using q)
  f3 := fun q => h.f3 (by simpa using q)
  f4 := fun q q2 => h.f4 (by simpa using q) (by simpa using q2)
  f5 := fun q => h.f5 (by simpa using q)
  f6 := fun q q2 => h.f6 (by simpa using q) (by simpa using q2)
  f7 := fun _ => hn
  f8 := fun q => h.f8 (by simpa using q)
  f9 := fun q => h.f9 (by simpa using q)
  f10 := fun q q2 => h.f10 (by simpa using q) (by simpa using q2)
  f11 := fun q => h.f11 (by simpa using q)
  f12 := fun q => h.f12 (by simpa using q)
  f13 := fun q q2 => h.f13 (by simpa using q) (by simpa using q2)
  f14 := fun q => absurd (show d 14 = true by simpa using q) (by rw [h.not14 7 (by omega) hd]; simp)
theorem Made.s8 {B : Nat} {W : World} {X xa xb : Nat} {y : Lab.L} {d : Nat → Bool} {t18 t19 t20 t21 t22 t23 t24 t25 t26 t27 t28 t29 t30 t6 : Value} {w : World} {n26 : Value} (h : Made.I B W X xa xb y d t18 t19 t20 t21 t22 t23 t24 t25 t26 t27 t28 t29 t30 t6 w) (hd : d 8 = false) (hn : n26 = .int .u8 (xb : Int)) : Made.I B W X xa xb y (fun j => d j || j == 8) t18 t19 t20 t21 t22 t23 t24 t25 n26 t27 t28 t29 t30 t6 w where
  b := h.b
  all := fun q => absurd (show d 14 = true by simpa using q) (by rw [h.not14 8 (by omega) hd]; simp)
  f0 := fun q q2 => h.f0 (by simpa using q) (by simpa using q2)
  f1 := fun q => h.f1 (by simpa using q)
  f2 := fun q => h.f2 (by simpa using q)
  f3 := fun q => h.f3 (by simpa using q)
  f4 := fun q q2 => h.f4 (by simpa using q) (by simpa using q2)
  f5 := fun q => h.f5 (by simpa using q)
  f6 := fun q q2 => h.f6 (by simpa using q) (by simpa using q2)
  f7 := fun q => h.f7 (by simpa using q)
  f8 := fun _ => hn
  f9 := fun q => h.f9 (by simpa using q)
  f10 := fun q q2 => h.f10 (by simpa using q) (by simpa using q2)
  f11 := fun q => h.f11 (by simpa using q)
  f12 := fun q => h.f12 (by simpa using q)
  f13 := fun q q2 => h.f13 (by simpa using q) (by simpa using q2)
  f14 := fun q => absurd (show d 14 = true by simpa using q) (by rw [h.not14 8 (by omega) hd]; simp)
theorem Made.s9 {B : Nat} {W : World} {X xa xb : Nat} {y : Lab.L} {d : Nat → Bool} {t18 t19 t20 t21 t22 t23 t24 t25 t26 t27 t28 t29 t30 t6 : Value} {w : World} {n27 : Value} (h : Made.I B W X xa xb y d t18 t19 t20 t21 t22 t23 t24 t25 t26 t27 t28 t29 t30 t6 w) (hd : d 9 = false) (hn : n27 = .int .u8 ((xb : Int) % 8)) : Made.I B W X xa xb y (fun j => d j || j == 9) t18 t19 t20 t21 t22 t23 t24 t25 t26 n27 t28 t29 t30 t6 w where
  b := h.b
  all := fun q => absurd (show d 14 = true by simpa using q) (by rw [h.not14 9 (by omega) hd]; simp)
  f0 := fun q q2 => h.f0 (by simpa using q) (by simpa using q2)
  f1 := fun q => h.f1 (by simpa using q)
  f2 := fun q => h.f2 (by simpa using q)
  f3 := fun q => h.f3 (by simpa using q)
  f4 := fun q q2 => h.f4 (by simpa using q) (by simpa using q2)
  f5 := fun q => h.f5 (by simpa using q)
  f6 := fun q q2 => h.f6 (by simpa using q) (by simpa using q2)
  f7 := fun q => h.f7 (by simpa using q)
  f8 := fun q => h.f8 (by simpa using q)
  f9 := fun _ => hn
  f10 := fun q q2 => h.f10 (by simpa using q) (by simpa using q2)
  f11 := fun q => h.f11 (by simpa using q)
  f12 := fun q => h.f12 (by simpa using q)
  f13 := fun q q2 => h.f13 (by simpa using q) (by simpa using q2)
  f14 := fun q => absurd (show d 14 = true by simpa using q) (by rw [h.not14 9 (by omega) hd]; simp)
theorem Made.s10 {B : Nat} {W : World} {X xa xb : Nat} {y : Lab.L} {d : Nat → Bool} {t18 t19 t20 t21 t22 t23 t24 t25 t26 t27 t28 t29 t30 t6 : Value} {w : World} {n28 : Value} (h : Made.I B W X xa xb y d t18 t19 t20 t21 t22 t23 t24 t25 t26 t27 t28 t29 t30 t6 w) (hd : d 10 = false) (hn : Made.VP (xb % 8) n28 w) : Made.I B W X xa xb y (fun j => d j || j == 10) t18 t19 t20 t21 t22 t23 t24 t25 t26 t27 n28 t29 t30 t6 w where
  b := h.b
  all := fun q => absurd (show d 14 = true by simpa using q) (by rw [h.not14 10 (by omega) hd]; simp)
  f0 := fun q q2 => h.f0 (by simpa using q) (by simpa using q2)
  f1 := fun q => h.f1 (by simpa using q)
  f2 := fun q => h.f2 (by simpa using q)
  f3 := fun q => h.f3 (by simpa using q)
  f4 := fun q q2 => h.f4 (by simpa using q) (by simpa using q2)
  f5 := fun q => h.f5 (by simpa using q)
  f6 := fun q q2 => h.f6 (by simpa using q) (by simpa using q2)
  f7 := fun q => h.f7 (by simpa using q)
  f8 := fun q => h.f8 (by simpa using q)
  f9 := fun q => h.f9 (by simpa using q)
  f10 := fun _ _ => hn
  f11 := fun q => h.f11 (by simpa using q)
  f12 := fun q => h.f12 (by simpa using q)
  f13 := fun q q2 => h.f13 (by simpa using q) (by simpa using q2)
  f14 := fun q => absurd (show d 14 = true by simpa using q) (by rw [h.not14 10 (by omega) hd]; simp)
theorem Made.s11 {B : Nat} {W : World} {X xa xb : Nat} {y : Lab.L} {d : Nat → Bool} {t18 t19 t20 t21 t22 t23 t24 t25 t26 t27 t28 t29 t30 t6 : Value} {w : World} {n29 : Value} (h : Made.I B W X xa xb y d t18 t19 t20 t21 t22 t23 t24 t25 t26 t27 t28 t29 t30 t6 w) (hd : d 11 = false) (hn : n29 = .string y.v) : Made.I B W X xa xb y (fun j => d j || j == 11) t18 t19 t20 t21 t22 t23 t24 t25 t26 t27 t28 n29 t30 t6 w where
  b := h.b
  all := fun q => absurd (show d 14 = true by simpa using q) (by rw [h.not14 11 (by omega) hd]; simp)
  f0 := fun q q2 => h.f0 (by simpa using q) (by simpa using q2)
  f1 := fun q => h.f1 (by simpa using q)
  f2 := fun q => h.f2 (by simpa using q)
  f3 := fun q => h.f3 (by simpa using q)
  f4 := fun q q2 => h.f4 (by simpa using q) (by simpa using q2)
  f5 := fun q => h.f5 (by simpa using q)
  f6 := fun q q2 => h.f6 (by simpa using q) (by simpa using q2)
  f7 := fun q => h.f7 (by simpa using q)
  f8 := fun q => h.f8 (by simpa using q)
  f9 := fun q => h.f9 (by simpa using q)
  f10 := fun q q2 => h.f10 (by simpa using q) (by simpa using q2)
  f11 := fun _ => hn
  f12 := fun q => h.f12 (by simpa using q)
  f13 := fun q q2 => h.f13 (by simpa using q) (by simpa using q2)
  f14 := fun q => absurd (show d 14 = true by simpa using q) (by rw [h.not14 11 (by omega) hd]; simp)
theorem Made.s12 {B : Nat} {W : World} {X xa xb : Nat} {y : Lab.L} {d : Nat → Bool} {t18 t19 t20 t21 t22 t23 t24 t25 t26 t27 t28 t29 t30 t6 : Value} {w : World} {n30 : Value} (h : Made.I B W X xa xb y d t18 t19 t20 t21 t22 t23 t24 t25 t26 t27 t28 t29 t30 t6 w) (hd : d 12 = false) (hn : n30 = .agg #[.string y.n, .string y.v]) : Made.I B W X xa xb y (fun j => d j || j == 12) t18 t19 t20 t21 t22 t23 t24 t25 t26 t27 t28 t29 n30 t6 w where
  b := h.b
  all := fun q => absurd (show d 14 = true by simpa using q) (by rw [h.not14 12 (by omega) hd]; simp)
  f0 := fun q q2 => h.f0 (by simpa using q) (by simpa using q2)
  f1 := fun q => h.f1 (by simpa using q)
  f2 := fun q => h.f2 (by simpa using q)
  f3 := fun q => h.f3 (by simpa using q)
  f4 := fun q q2 => h.f4 (by simpa using q) (by simpa using q2)
  f5 := fun q => h.f5 (by simpa using q)
  f6 := fun q q2 => h.f6 (by simpa using q) (by simpa using q2)
  f7 := fun q => h.f7 (by simpa using q)
  f8 := fun q => h.f8 (by simpa using q)
  f9 := fun q => h.f9 (by simpa using q)
  f10 := fun q q2 => h.f10 (by simpa using q) (by simpa using q2)
  f11 := fun q => h.f11 (by simpa using q)
  f12 := fun _ => hn
  f13 := fun q q2 => h.f13 (by simpa using q) (by simpa using q2)
  f14 := fun q => absurd (show d 14 = true by simpa using q) (by rw [h.not14 12 (by omega) hd]; simp)
theorem Made.s13 {B : Nat} {W : World} {X xa xb : Nat} {y : Lab.L} {d : Nat → Bool} {t18 t19 t20 t21 t22 t23 t24 t25 t26 t27 t28 t29 t30 t6 : Value} {w w2 : World} {n6 : Value} (h : Made.I B W X xa xb y d t18 t19 t20 t21 t22 t23 t24 t25 t26 t27 t28 t29 t30 t6 w) (hb : Below B w w2) (up : ∀ (g : Nat) (o : Obj), w.heap[g]? = some o → w2.heap[g]? = some o) (hd : d 13 = false) (hn : Made.Z B n6 w2) : Made.I B W X xa xb y (fun j => d j || j == 13) t18 t19 t20 t21 t22 t23 t24 t25 t26 t27 t28 t29 t30 n6 w2 where
  b := h.b.trans hb
  all := fun q => absurd (show d 14 = true by simpa using q) (by rw [h.not14 13 (by omega) hd]; simp)
  f0 := fun q q2 => (h.f0 (by simpa using q) (by simpa using q2)).up up
  f1 := fun q => h.f1 (by simpa using q)
  f2 := fun q => h.f2 (by simpa using q)
  f3 := fun q => h.f3 (by simpa using q)
  f4 := fun q q2 => (h.f4 (by simpa using q) (by simpa using q2)).up up
  f5 := fun q => h.f5 (by simpa using q)
  f6 := fun q q2 => (h.f6 (by simpa using q) (by simpa using q2)).up up
  f7 := fun q => h.f7 (by simpa using q)
  f8 := fun q => h.f8 (by simpa using q)
  f9 := fun q => h.f9 (by simpa using q)
  f10 := fun q q2 => (h.f10 (by simpa using q) (by simpa using q2)).up up
  f11 := fun q => h.f11 (by simpa using q)
  f12 := fun q => h.f12 (by simpa using q)
  f13 := fun _ _ => hn
  f14 := fun q => absurd (show d 14 = true by simpa using q) (by rw [h.not14 13 (by omega) hd]; simp)
theorem Made.s14 {B : Nat} {W : World} {X xa xb : Nat} {y : Lab.L} {d : Nat → Bool} {t18 t19 t20 t21 t22 t23 t24 t25 t26 t27 t28 t29 t30 t6 : Value} {w w2 : World} (h : Made.I B W X xa xb y d t18 t19 t20 t21 t22 t23 t24 t25 t26 t27 t28 t29 t30 t6 w) (hb : Below B w w2) (hall : ∀ j, j < 14 → d j = true) (hn : Made.Y B y t6 w2) : Made.I B W X xa xb y (fun j => d j || j == 14) t18 t19 t20 t21 t22 t23 t24 t25 t26 t27 t28 t29 t30 t6 w2 where
  b := h.b.trans hb
  all := fun _ j hj => by simp [hall j hj]
  f0 := fun _ q2 => absurd q2 (by simp)
  f1 := fun q => h.f1 (by simpa using q)
  f2 := fun q => h.f2 (by simpa using q)
  f3 := fun q => h.f3 (by simpa using q)
  f4 := fun _ q2 => absurd q2 (by simp)
  f5 := fun q => h.f5 (by simpa using q)
  f6 := fun _ q2 => absurd q2 (by simp)
  f7 := fun q => h.f7 (by simpa using q)
  f8 := fun q => h.f8 (by simpa using q)
  f9 := fun q => h.f9 (by simpa using q)
  f10 := fun _ q2 => absurd q2 (by simp)
  f11 := fun q => h.f11 (by simpa using q)
  f12 := fun q => h.f12 (by simpa using q)
  f13 := fun _ q2 => absurd q2 (by simp)
  f14 := fun _ => hn
end Go.Proofs.Ytflmojjpdmbnaaa
namespace Go.Proofs.Ytflmojjpdmbnaaa
open Go.RowKit

theorem names_is (w : World) :
    Calls Try.prog 18 #[] w fun e w' => e = .returned (.slice (some ⟨w.heap.size, 0, none⟩) 16 16) ∧ w' = w.alloc (.cells (Lab.nameL.map Value.string).toArray 9) := by
  go_enter Try.func18, Try.ntmps18
  go_wp2_with fail
  go_ret
  exact ⟨rfl, rfl⟩

theorem Lab.at_take {g : Nat} {ls : List Lab.L} {w : World} (h : Lab.At (some ⟨g, 0, none⟩) ls w) (k : Nat) : ∀ i (h : i < (ls.take k).length), w.cell? ⟨g, 0 + i * 2, none⟩ = some (.string (ls.take k)[i].n) ∧ w.cell? ⟨g, 0 + i * 2 + 1, none⟩ = some (.string (ls.take k)[i].v) := by
  intro i hi
  rw [List.length_take] at hi
  obtain ⟨b, o, e, hc⟩ := h.open i (by omega)
  simp only [Option.some.injEq, Addr.mk.injEq] at e
  obtain ⟨rfl, rfl, _⟩ := e
  rw [List.getElem_take]
  exact hc i (by omega)
theorem Lab.at_drop {g : Nat} {ls : List Lab.L} {w : World} (h : Lab.At (some ⟨g, 0, none⟩) ls w) (k : Nat) : ∀ i (h : i < (ls.drop k).length), w.cell? ⟨g, k * 2 + i * 2, none⟩ = some (.string (ls.drop k)[i].n) ∧ w.cell? ⟨g, k * 2 + i * 2 + 1, none⟩ = some (.string (ls.drop k)[i].v) := by
  intro i hi
  rw [List.length_drop] at hi
  obtain ⟨b, o, e, hc⟩ := h.open (k + i) (by omega)
  simp only [Option.some.injEq, Addr.mk.injEq] at e
  obtain ⟨rfl, rfl, _⟩ := e
  rw [List.getElem_drop]
  have := hc (k + i) (by omega)
  rw [show 0 + (k + i) * 2 = k * 2 + i * 2 by omega] at this
  exact this
/-- 'append(v, none..)': nothing turns -/
theorem wpList_append_none {P : Program} {ops : Array Oper} {rest : List Oper} {o : Oper} {a : Act} {w : World} {Q : Exit → Act → World → Prop}
    (hg : o.guard = none) (s x : Operand) (t : TypeId) (hop : o.op = Op.call { callee := Callee.builtin Builtin.append, args := #[s, x], argTypes := #[t, t] })
    (e : TypeId) (i : TypeInfo) (h1 : P.underlying t = some (.slice e)) (h2 : P.info? e = some i) (ao : Option Addr) (n cap : Nat) (hs : a.eval s = .slice ao n cap) (hle : n ≤ cap) (hx : ∃ ad c, a.eval x = .slice (some ad) 0 c)
    (hK : wpList P ops Q rest (a.put o.dst (.slice ao n cap)) w) : wpList P ops Q (o :: rest) a w := by
  obtain ⟨ad, c, hx⟩ := hx
  refine wpList_plain hg fun K hK' => ?_
  have hrun := run_append_nothing (P := P) w t t o.type e i h1 h2 ao n cap hle (.slice (some ad) 0 c) (Src.ofSlice w h1 ad 0 c [] (by simp) (fun j u hj => by simp at hj) (fun u hu => by simp at hu))
  unfold Oper.wp
  simp [execOp, hop, resolve, invoke, builtin, hs, hx, hrun, Result.andThen]
  exact hK' _ _ hK
theorem Lab.cells_take (l : List Lab.L) (k : Nat) : Lab.cells (l.take k) = (Lab.cells l).take (k * 2) := by
  induction l generalizing k with
  | nil => simp [Lab.cells]
  | cons x r ih =>
    cases k with
    | zero => simp [Lab.cells]
    | succ k =>
      have e : ∀ (z : Lab.L) (l : List Lab.L), Lab.cells (z :: l) = .string z.n :: .string z.v :: Lab.cells l := fun z l => by simp [Lab.cells]
      rw [List.take_succ_cons, e, e, ih k, show (k + 1) * 2 = k * 2 + 1 + 1 by omega]
      simp
/-- the cells of labels, out of a row -/
theorem Lab.at_cells {p : Addr} {ls : List Lab.L} {g o : Nat} {w : World} (hp : p = ⟨g, o, none⟩) (hc : ∀ i (h : i < ls.length), w.cell? ⟨g, o + i * 2, none⟩ = some (.string ls[i].n) ∧ w.cell? ⟨g, o + i * 2 + 1, none⟩ = some (.string ls[i].v)) :
    ∀ j u, (Lab.cells ls)[j]? = some u → w.cell? (p.add j) = some u := by
  intro j u hj
  subst hp
  have hj2 : j < (Lab.cells ls).length := (List.getElem?_eq_some_iff.1 hj).1
  rw [Lab.cells_length] at hj2
  have e : (⟨g, o, none⟩ : Addr).add j = ⟨g, o + j, none⟩ := by unfold Addr.add; split <;> simp_all
  rw [e]
  have h1 := hc (j / 2) (by omega)
  have h2 := Lab.cells_get ls (j / 2) (by omega)
  rcases Nat.mod_two_eq_zero_or_one j with h | h
  · have e2 : j / 2 * 2 = j := by omega
    rw [e2] at h1 h2
    rw [h1.1]
    exact (h2.1.symm.trans hj)
  · have e2 : j / 2 * 2 + 1 = j := by omega
    have e3 : o + j / 2 * 2 + 1 = o + j := by omega
    rw [e2] at h2
    rw [e3] at h1
    rw [h1.2]
    exact (h2.2.symm.trans hj)

set_option maxHeartbeats 1000000 in
set_option maxRecDepth 100000 in
theorem lmade_is (p : Option Addr) (xs : List Lab.Sm) (n c : Nat) (r : List Lab.L) (h : Lab.made xs = r) (w : World) (hn : xs.length = n) (hA : Lab.SmAt p xs w) (hF : Lab.SmFit xs) (hlc : n ≤ c) (_hc : c ≤ maxLen) :
    Calls Try.prog 14 #[.slice p n c] w fun e w' => (∃ v, e = .returned v ∧ OwnLabels w.heap.size v r w') ∧ Below w.heap.size w w' := by
  obtain ⟨m, hm⟩ : ∃ m, min n 40 = m := ⟨_, rfl⟩
  have hmi : min (n : Int) 40 = (m : Int) := by omega
  have hmi2 : max (m : Int) 0 = (m : Int) := by omega
  have HT : Hid ((xs.take 40).length = m) := by show _ = _; rw [List.length_take]; omega
  have HG : Hid (∀ k (h1 : k < xs.length) (h2 : k < (xs.take 40).length), (xs.take 40)[k] = xs[k]) := fun k h1 h2 => by rw [List.getElem_take]
  have H0 : Hid (Lab.madeF [] ((xs.take 40).drop 0) = r) := h
  have hmn : m ≤ n := by omega
  have hm40 : m ≤ 40 := by omega
  have HN := Lib.hid hn
  obtain ⟨ys, hys⟩ : ∃ ys, xs.take 40 = ys := ⟨_, rfl⟩
  rw [hys] at HT HG H0
  clear h hm hn hys
  obtain ⟨i0, hi, hz0, hz1, hz2⟩ := info_parts infoLab
  have HI := Lib.hid hi
  clear hi
  go_enter Try.func14, Try.ntmps14
  go_wp2_with fail
  go_loopw [3, 14] (fun v i wr => ∃ k : Nat, k ≤ m ∧ i = .int .i64 k ∧ ∃ out : List Lab.L, OwnLabels w.heap.size v out wr ∧ Hid (Lab.madeF out (ys.drop k) = r) ∧ out.length ≤ k ∧ Below w.heap.size w wr) (fun _ i _ => m - (intOf i).toNat)
  case atStart => exact ⟨0, Nat.zero_le _, rfl, [], OwnLabels.nil _ _, H0, Nat.le_refl _, Below.refl _ _⟩
  case round =>
    obtain ⟨k, hk, rfl, out, hown, HD, hol, hb⟩ := hrel
    have hsz := hb.size
    by_cases hlt : k < m
    · have hkx : k < xs.length := by rw [HN.out]; omega
      have hky : k < ys.length := by rw [HT.out]; exact hlt
      obtain ⟨b, o, rfl, hcells⟩ := hA.open hkx
      have hfx := hF xs[k] (List.getElem_mem _)
      have c0 := (hb.cell (p := ⟨b, o + k * 2, none⟩) (World.block_lt_of_cell? _ _ (hcells k hkx).1)).trans (hcells k hkx).1
      have c1 := (hb.cell (p := ⟨b, o + k * 2 + 1, none⟩) (World.block_lt_of_cell? _ _ (hcells k hkx).2)).trans (hcells k hkx).2
      have hst := HD.out
      rw [Lab.madeF_drop out ys k hky, HG.out k hkx hky] at hst
      obtain ⟨x, hx⟩ : ∃ x, xs[k] = x := ⟨_, rfl⟩
      rw [hx] at c0 c1 hst hfx
      obtain ⟨xa, xb⟩ := x
      dsimp only at c0 c1 hfx
      obtain ⟨y, hy⟩ : ∃ y, Lab.made1 ⟨xa, xb⟩ = y := ⟨_, rfl⟩
      rw [hy] at hst
      have HS := Lib.hid hst
      have hbr := World.block_lt_of_cell? _ _ c0
      have hyn : Lab.nameL[xa % 16]? = some y.n := by
        rw [← hy, List.getElem?_eq_getElem (show xa % 16 < Lab.nameL.length from Nat.mod_lt _ (by omega))]
        simp [Lab.made1, List.getD, List.getElem?_eq_getElem (show xa % 16 < Lab.nameL.length from Nat.mod_lt _ (by omega))]
      have hyv : Lab.valueL[xb % 8]? = some y.v := by
        rw [← hy, List.getElem?_eq_getElem (show xb % 8 < Lab.valueL.length from Nat.mod_lt _ (by omega))]
        simp [Lab.made1, List.getD, List.getElem?_eq_getElem (show xb % 8 < Lab.valueL.length from Nat.mod_lt _ (by omega))]
      have hyv2 : (Lab.valueL.map Value.string)[xb % 8]? = some (.string y.v) := by rw [List.getElem?_map, hyv]; rfl
      have HYn : Hid (Made.nameC[xa % 16]? = some (.string y.n)) := by show (Lab.nameL.map Value.string).toArray[xa % 16]? = _; rw [List.getElem?_toArray, List.getElem?_map, hyn]; rfl
      have HYv : Hid (Made.valueC[xb % 8]? = some (.string y.v)) := by show (Lab.valueL.map Value.string).toArray[xb % 8]? = _; rw [List.getElem?_toArray, hyv2]
      have r1 : Int.tmod (xa : Int) 16 = ((xa % 16 : Nat) : Int) := by rw [Int.tmod_eq_emod_of_nonneg (by omega)]; omega
      have r2 : Int.tmod (xb : Int) 8 = ((xb % 8 : Nat) : Int) := by rw [Int.tmod_eq_emod_of_nonneg (by omega)]; omega
      have r3 : xa % 16 < 16 := by omega
      have r4 : xb % 8 < 8 := by omega
      clear hst hx hcells HD hA hF hy hyn hyv hyv2
      go_wp2_with fail
      have hs0 : (wr.alloc (.cells #[.int .u8 (xa : Int), .int .u8 (xb : Int)] 53)).cell? ⟨wr.heap.size, 0, none⟩ = some (.int .u8 (xa : Int)) := by simp
      have hs1 : (wr.alloc (.cells #[.int .u8 (xa : Int), .int .u8 (xb : Int)] 53)).cell? ⟨wr.heap.size, 1, none⟩ = some (.int .u8 (xb : Int)) := by simp
      have hsw : (wr.alloc (.cells #[.int .u8 (xa : Int), .int .u8 (xb : Int)] 53)).heap.size = wr.heap.size + 1 := by simp
      have hbw : Below w.heap.size w (wr.alloc (.cells #[.int .u8 (xa : Int), .int .u8 (xb : Int)] 53)) := hb.alloc hsz _
      have how := hown.alloc (.cells #[.int .u8 (xa : Int), .int .u8 (xb : Int)] 53)
      obtain ⟨W, hW⟩ : ∃ W, wr.alloc (.cells #[.int .u8 (xa : Int), .int .u8 (xb : Int)] 53) = W := ⟨_, rfl⟩
      rw [hW] at hs0 hs1 hsw hbw how ⊢
      have HSW := Lib.hid hsw
      have HC : Hid (∀ W', Below W.heap.size W W' → W'.cell? ⟨wr.heap.size, 0, none⟩ = some (.int .u8 (xa : Int)) ∧ W'.cell? ⟨wr.heap.size, 1, none⟩ = some (.int .u8 (xb : Int))) :=
        fun W' hb' => ⟨(hb'.cell (p := ⟨wr.heap.size, 0, none⟩) (by show wr.heap.size < _; omega)).trans hs0, (hb'.cell (p := ⟨wr.heap.size, 1, none⟩) (by show wr.heap.size < _; omega)).trans hs1⟩
      clear hW hsw
      refine wp_region_inv (by kernel_rfl) (by kernel_rfl) (fun a0 d a w' => ∃ t18 t19 t20 t21 t22 t23 t24 t25 t26 t27 t28 t29 t30 t6 : Value, a = (((((((((((((((a0.put (some 18) t18).put (some 19) t19).put (some 20) t20).put (some 21) t21).put (some 22) t22).put (some 23) t23).put (some 24) t24).put (some 25) t25).put (some 26) t26).put (some 27) t27).put (some 28) t28).put (some 29) t29).put (some 30) t30).put (some 6) t6)) ∧ Made.I W.heap.size W wr.heap.size xa xb y d t18 t19 t20 t21 t22 t23 t24 t25 t26 t27 t28 t29 t30 t6 w') ?h0 ?hs ?he
      case h0 =>
        exact ⟨u18, u19, u20, u21, u22, u23, u24, u25, u26, u27, u28, u29, u30, u6, (by go_frame), Made.start _ _ _ _ _ _ _ _ _ _ _ _ _ _ _ _ _ _ _⟩
      case hs =>
        refine ⟨?_, ?_, ?_, ?_, ?_, ?_, ?_, ?_, ?_, ?_, ?_, ?_, ?_, ?_, ?_, trivial⟩
        · rintro d a w' hd hdep ⟨t18, t19, t20, t21, t22, t23, t24, t25, t26, t27, t28, t29, t30, t6, rfl, h⟩ K hK
          rw [if_pos (by rfl)]
          go_frame
          go_simp
          refine (names_is w').mono ?_
          rintro e w2 ⟨rfl, rfl⟩
          go_simp
          exact hK _ _ ⟨.slice (some ⟨w'.heap.size, 0, none⟩) 16 16, _, _, _, _, _, _, _, _, _, _, _, _, _, (by go_frame), Made.s0 h ((Below.refl _ w').alloc h.b.size _) (fun g o hg => (Below.heap_alloc _ _ _ (lt_of_heap hg)).trans hg) hd ⟨w'.heap.size, rfl, alloc_new _ _⟩⟩
        · rintro d a w' hd hdep ⟨t18, t19, t20, t21, t22, t23, t24, t25, t26, t27, t28, t29, t30, t6, rfl, h⟩ K hK
          rw [if_pos (by rfl)]
          go_frame
          go_simp
          exact hK _ _ ⟨_, .pointer (some ⟨wr.heap.size, 0, none⟩), _, _, _, _, _, _, _, _, _, _, _, _, (by go_frame), Made.s1 h hd rfl⟩
        · rintro d a w' hd hdep ⟨t18, t19, t20, t21, t22, t23, t24, t25, t26, t27, t28, t29, t30, t6, rfl, h⟩ K hK
          rw [if_pos (by rfl)]
          go_frame
          obtain rfl := h.f1 (hdep 1 (by decide))
          have hc := (HC.out w' h.b).1
          go_simp
          exact hK _ _ ⟨_, _, .int .u8 (xa : Int), _, _, _, _, _, _, _, _, _, _, _, (by go_frame), Made.s2 h hd rfl⟩
        · rintro d a w' hd hdep ⟨t18, t19, t20, t21, t22, t23, t24, t25, t26, t27, t28, t29, t30, t6, rfl, h⟩ K hK
          rw [if_pos (by rfl)]
          go_frame
          obtain rfl := h.f2 (hdep 2 (by decide))
          go_simp
          exact hK _ _ ⟨_, _, _, .int .u8 ((xa : Int) % 16), _, _, _, _, _, _, _, _, _, _, (by go_frame), Made.s3 h hd rfl⟩
        · rintro d a w' hd hdep ⟨t18, t19, t20, t21, t22, t23, t24, t25, t26, t27, t28, t29, t30, t6, rfl, h⟩ K hK
          rw [if_pos (by rfl)]
          go_frame
          obtain ⟨g, rfl, hg⟩ := h.f0 (hdep 0 (by decide)) (h.not14 4 (by omega) hd)
          obtain rfl := h.f3 (hdep 3 (by decide))
          have q0 : (0 : Int) ≤ (xa : Int) % 16 := by omega
          have q1 : (xa : Int) % 16 < 16 := by omega
          have q2 : ((xa : Int) % 16).toNat = xa % 16 := by omega
          go_simp
          exact hK _ _ ⟨_, _, _, _, .pointer (some ⟨g, xa % 16, none⟩), _, _, _, _, _, _, _, _, _, (by go_frame), Made.s4 h hd ⟨g, rfl, hg⟩⟩
        · rintro d a w' hd hdep ⟨t18, t19, t20, t21, t22, t23, t24, t25, t26, t27, t28, t29, t30, t6, rfl, h⟩ K hK
          rw [if_pos (by rfl)]
          go_frame
          obtain ⟨g, rfl, hg⟩ := h.f4 (hdep 4 (by decide)) (h.not14 5 (by omega) hd)
          have hc : w'.cell? ⟨g, xa % 16, none⟩ = some (.string y.n) := by rw [Lib.cell_of_heap hg]; exact HYn.out
          go_simp
          exact hK _ _ ⟨_, _, _, _, _, .string y.n, _, _, _, _, _, _, _, _, (by go_frame), Made.s5 h hd rfl⟩
        · rintro d a w' hd hdep ⟨t18, t19, t20, t21, t22, t23, t24, t25, t26, t27, t28, t29, t30, t6, rfl, h⟩ K hK
          rw [if_pos (by rfl)]
          go_frame
          go_simp
          exact hK _ _ ⟨_, _, _, _, _, _, .slice (some ⟨w'.heap.size, 0, none⟩) 8 8, _, _, _, _, _, _, _, (by go_frame), Made.s6 h ((Below.refl _ w').alloc h.b.size _) (fun g o hg => (Below.heap_alloc _ _ _ (lt_of_heap hg)).trans hg) hd ⟨w'.heap.size, rfl, alloc_new _ _⟩⟩
        · rintro d a w' hd hdep ⟨t18, t19, t20, t21, t22, t23, t24, t25, t26, t27, t28, t29, t30, t6, rfl, h⟩ K hK
          rw [if_pos (by rfl)]
          go_frame
          go_simp
          exact hK _ _ ⟨_, _, _, _, _, _, _, .pointer (some ⟨wr.heap.size, 1, none⟩), _, _, _, _, _, _, (by go_frame), Made.s7 h hd rfl⟩
        · rintro d a w' hd hdep ⟨t18, t19, t20, t21, t22, t23, t24, t25, t26, t27, t28, t29, t30, t6, rfl, h⟩ K hK
          rw [if_pos (by rfl)]
          go_frame
          obtain rfl := h.f7 (hdep 7 (by decide))
          have hc := (HC.out w' h.b).2
          go_simp
          exact hK _ _ ⟨_, _, _, _, _, _, _, _, .int .u8 (xb : Int), _, _, _, _, _, (by go_frame), Made.s8 h hd rfl⟩
        · rintro d a w' hd hdep ⟨t18, t19, t20, t21, t22, t23, t24, t25, t26, t27, t28, t29, t30, t6, rfl, h⟩ K hK
          rw [if_pos (by rfl)]
          go_frame
          obtain rfl := h.f8 (hdep 8 (by decide))
          go_simp
          exact hK _ _ ⟨_, _, _, _, _, _, _, _, _, .int .u8 ((xb : Int) % 8), _, _, _, _, (by go_frame), Made.s9 h hd rfl⟩
        · rintro d a w' hd hdep ⟨t18, t19, t20, t21, t22, t23, t24, t25, t26, t27, t28, t29, t30, t6, rfl, h⟩ K hK
          rw [if_pos (by rfl)]
          go_frame
          obtain ⟨g, rfl, hg⟩ := h.f6 (hdep 6 (by decide)) (h.not14 10 (by omega) hd)
          obtain rfl := h.f9 (hdep 9 (by decide))
          have q0 : (0 : Int) ≤ (xb : Int) % 8 := by omega
          have q1 : (xb : Int) % 8 < 8 := by omega
          have q2 : ((xb : Int) % 8).toNat = xb % 8 := by omega
          go_simp
          exact hK _ _ ⟨_, _, _, _, _, _, _, _, _, _, .pointer (some ⟨g, xb % 8, none⟩), _, _, _, (by go_frame), Made.s10 h hd ⟨g, rfl, hg⟩⟩
        · rintro d a w' hd hdep ⟨t18, t19, t20, t21, t22, t23, t24, t25, t26, t27, t28, t29, t30, t6, rfl, h⟩ K hK
          rw [if_pos (by rfl)]
          go_frame
          obtain ⟨g, rfl, hg⟩ := h.f10 (hdep 10 (by decide)) (h.not14 11 (by omega) hd)
          have hc : w'.cell? ⟨g, xb % 8, none⟩ = some (.string y.v) := by rw [Lib.cell_of_heap hg]; exact HYv.out
          go_simp
          exact hK _ _ ⟨_, _, _, _, _, _, _, _, _, _, _, .string y.v, _, _, (by go_frame), Made.s11 h hd rfl⟩
        · rintro d a w' hd hdep ⟨t18, t19, t20, t21, t22, t23, t24, t25, t26, t27, t28, t29, t30, t6, rfl, h⟩ K hK
          rw [if_pos (by rfl)]
          go_frame
          obtain rfl := h.f5 (hdep 5 (by decide))
          obtain rfl := h.f11 (hdep 11 (by decide))
          go_simp
          exact hK _ _ ⟨_, _, _, _, _, _, _, _, _, _, _, _, .agg #[.string y.n, .string y.v], _, (by go_frame), Made.s12 h hd rfl⟩
        · rintro d a w' hd hdep ⟨t18, t19, t20, t21, t22, t23, t24, t25, t26, t27, t28, t29, t30, t6, rfl, h⟩ K hK
          rw [if_pos (by rfl)]
          go_frame
          go_simp
          exact hK _ _ ⟨_, _, _, _, _, _, _, _, _, _, _, _, _, .pointer (some ⟨w'.heap.size, 0, none⟩), (by go_frame), Made.s13 h ((Below.refl _ w').alloc h.b.size _) (fun g o hg => (Below.heap_alloc _ _ _ (lt_of_heap hg)).trans hg) hd ⟨w'.heap.size, rfl, h.b.size, alloc_new _ _⟩⟩
        · rintro d a w' hd hdep ⟨t18, t19, t20, t21, t22, t23, t24, t25, t26, t27, t28, t29, t30, t6, rfl, h⟩ K hK
          rw [if_pos (by rfl)]
          go_frame
          obtain ⟨G, rfl, hG, hZ⟩ := h.f13 (hdep 13 (by decide)) hd
          obtain rfl := h.f12 (hdep 12 (by decide))
          have z0 : w'.cell? ⟨G, 0, none⟩ = some (.string ByteArray.empty) := by rw [Lib.cell_of_heap hZ]; rfl
          have z1 : w'.cell? ⟨G, 1, none⟩ = some (.string ByteArray.empty) := by rw [Lib.cell_of_heap hZ]; rfl
          have z2 : w'.frozen? ⟨G, 0, none⟩ = false := by simp [World.frozen?, hZ]
          have z3 : w'.frozen? ⟨G, 1, none⟩ = false := by simp [World.frozen?, hZ]
          go_simp
          refine hK _ _ ⟨_, _, _, _, _, _, _, _, _, _, _, _, _, _, (by go_frame), Made.s14 h (((Below.refl _ w').setCell hG _).setCell hG _) (fun j hj => hdep j (by revert j; decide)) ⟨G, rfl, hG, ?_, ?_⟩⟩
          · rw [World.cell?_setCell_other _ _ _ _ (by simp)]
            exact World.cell?_setCell_same _ _ _ z0
          · exact World.cell?_setCell_same _ _ _ (by rw [World.cell?_setCell_other _ _ _ _ (by simp)]; exact z1)
      case he =>
        rintro a w5 ⟨t18, t19, t20, t21, t22, t23, t24, t25, t26, t27, t28, t29, t30, t6, rfl, h⟩
        obtain ⟨G, rfl, hG, hy0, hy1⟩ := h.f14 (by decide)
        have hB5 : Below w.heap.size w w5 := hbw.trans (h.b.mono (by have := HSW.out; omega))
        have how5 : OwnLabels w.heap.size u3 out w5 := how.below h.b (Nat.le_refl _)
        have hform : 0 < out.length → ∃ g c, u3 = .slice (some ⟨g, 0, none⟩) out.length c ∧ w.heap.size ≤ g ∧ g < W.heap.size := fun hl => by
          rcases how.2 with ⟨_, h0⟩ | ⟨g, cap, cur, rfl, hg, hh, _⟩
          · omega
          · exact ⟨g, cap, rfl, hg, lt_of_heap hh⟩
        obtain ⟨pv, cv, rfl, hAd, hlc2, hcm⟩ := OwnLabels.open how5
        obtain ⟨L, hL⟩ : ∃ L, out.length = L := ⟨_, rfl⟩
        have hform2 : 0 < L → ∃ g, pv = some ⟨g, 0, none⟩ ∧ g < W.heap.size := fun hl => by
          obtain ⟨g, c, e, _, hg2⟩ := hform (by omega)
          simp only [Value.slice.injEq] at e
          exact ⟨g, e.1, hg2⟩
        have HL := Lib.hid hL
        have HW5 := Lib.hid how5
        have HOL : Hid (∀ i (h : i < out.length), ∃ b o, pv = some ⟨b, o, none⟩ ∧ w5.cell? ⟨b, o + i * 2, none⟩ = some (.string out[i].n)) := fun i hi => by
          obtain ⟨b, o, rfl, hc⟩ := hAd.open i hi
          exact ⟨b, o, rfl, (hc i hi).1⟩
        have HAd := Lib.hid hAd
        rw [hL] at hlc2 hol ⊢
        unfold maxLen at hcm
        clear h hform hs0 hs1 hbw how how5 hown hL c0 c1 hAd r1 r2 r3 r4 HC HYn HYv
        go_frame
        go_wp2_with fail
        go_loopw [3, 33] (fun v i wx => ∃ j : Nat, v = .slice pv L cv ∧ j ≤ L ∧ i = .int .i64 j ∧ Hid (∀ q (hq : q < out.length), q < j → Lab.bs out[q].n ≠ Lab.bs y.n) ∧ ∃ nd, wx = w5.drewN nd) (fun _ i _ => L - (intOf i).toNat)
        case atStart => exact ⟨0, rfl, Nat.zero_le _, rfl, fun q _ hq => absurd hq (by omega), 0, rfl⟩
        case round =>
          obtain ⟨j, rfl, hj, rfl, HJ, nd, rfl⟩ := hrel
          by_cases hjl : j < L
          · have hjo : j < out.length := by have := HL.out; omega
            obtain ⟨g, rfl, hg5⟩ := hform2 (by omega)
            obtain ⟨b', o', he', hcj⟩ := HOL.out j hjo
            simp only [Option.some.injEq, Addr.mk.injEq] at he'
            obtain ⟨rfl, rfl, _⟩ := he'
            rw [Nat.zero_add] at hcj
            obtain ⟨x, hx⟩ : ∃ x, out[j] = x := ⟨_, rfl⟩
            rw [hx] at hcj
            have hbe := Lab.bytes_beq x.n y.n
            by_cases hxy : Lab.bs x.n = Lab.bs y.n
            · rw [decide_eq_true hxy] at hbe
              have n1 : (0 : Int) ≤ (j : Int) := by omega
              have n2 : (j : Int) < (L : Int) := by omega
              have n3 : (j : Int) ≤ (cv : Int) := by omega
              have n4 : IntKind.i64.wrap ((j : Int) + 1) = (j : Int) + 1 := by rw [IntKind.wrap_i64]; omega
              have n5 : (j : Int) + 1 ≤ (L : Int) := by omega
              have n6 : (0 : Int) ≤ (j : Int) + 1 := by omega
              have n7 : (L : Int) ≤ (cv : Int) := by omega
              have n8 : ((j : Int) + 1).toNat = j + 1 := by omega
              by_cases htl : j + 1 = L
              · have HP : Hid (Lab.push1 out y = out.take j ++ [y]) := by
                  show Lab.push1 out y = _
                  unfold Lab.push1
                  rw [Lab.erase_at _ out j hjo (fun q hq hqj => by simpa using HJ.out q hq hqj) (by rw [hx]; simpa using hxy), List.drop_eq_nil_iff.2 (by have := HL.out; omega), List.append_nil]
                have HO : Hid (∀ i (h : i < (out.take j).length), w5.cell? ⟨g, 0 + i * 2, none⟩ = some (.string (out.take j)[i].n) ∧ w5.cell? ⟨g, 0 + i * 2 + 1, none⟩ = some (.string (out.take j)[i].v)) := Lab.at_take HAd.out j
                have HTL : Hid ((out.take j).length = j) := by show _ = _; rw [List.length_take]; omega
                have n9 : L - (j + 1) = 0 := by omega
                clear HJ
                go_wp2_with fail
                go_quiet (fail)
                go_wp2_with fail
                go_still_tail 8, (by kernel_rfl)
                change wpList _ _ _ _ _ (World.drew _)
                refine wpList_append_none rfl _ _ 22 rfl 36 i0 Try.underlying22 HI.out (some ⟨g, 0, none⟩) j j rfl (Nat.le_refl _) (by go_simp; split <;> exact ⟨_, rfl⟩) ?_
                go_wp2_with (at_builtin; refine wpList_append_grows _ rfl _ _ 22 rfl 36 i0 _ 2 32 Try.underlying22 HI.out hz0 hz1 hz2 rfl (by decide) (some ⟨g, 0, none⟩) j j (Lab.cells (out.take j)) rfl (fun e => by cases e) ?a1 ?a2 _ 1 _ (Lab.cells [y]) rfl rfl ?a3 (Lab.cells_one _) ?a4 ?a5 ?a6 ?_)
                case a1 => rw [Lab.cells_length, HTL.out]
                case a2 =>
                  intro b e i u hu
                  cases e
                  exact cell_later ((below_drewN (Below.refl _ w5) _).alloc (by simp) _) (Lab.at_cells rfl HO.out i u hu) (Nat.le_refl _)
                case a3 => exact World.news_of_block (cs := #[.string y.n, .string y.v]) (heap_alloc_new (w5.drewN _) _)
                case a4 => omega
                case a5 => unfold maxLen; omega
                case a6 => omega
                all_goals
                  intro v6 w6 hown6 hg6
                  have hb6 : Below w.heap.size w w6 := ((below_drewN hB5 _).alloc (by have := hB5.size; simp; omega) _).grown hg6 (by have := hB5.size; simp; omega) (fun k e => by cases e)
                  have ho6 : OwnLabels w.heap.size v6 (Lab.push1 out y) w6 := by
                    rw [HP.out]
                    unfold OwnLabels
                    rw [Lab.cells_append, List.length_append, HTL.out, show j + [y].length = L from htl]
                    exact row_lift hown6 (by have := hB5.size; omega)
                  have hpl := Lab.push1_length out y
                  have hLL := HL.out
                  go_wp2_with fail
                  go_roundw
                  case rel => exact ⟨k + 1, by omega, by go_num, Lab.push1 out y, ho6, HS, by omega, hb6⟩
                  case measure => simp [intOf]; omega
              · have HP : Hid (Lab.push1 out y = (out.take j ++ out.drop (j + 1)) ++ [y]) := by
                  show Lab.push1 out y = _
                  unfold Lab.push1
                  rw [Lab.erase_at _ out j hjo (fun q hq hqj => by simpa using HJ.out q hq hqj) (by rw [hx]; simpa using hxy)]
                have HO : Hid (∀ i (h : i < (out.take j).length), w5.cell? ⟨g, 0 + i * 2, none⟩ = some (.string (out.take j)[i].n) ∧ w5.cell? ⟨g, 0 + i * 2 + 1, none⟩ = some (.string (out.take j)[i].v)) := Lab.at_take HAd.out j
                have HDR : Hid (∀ i (h : i < (out.drop (j + 1)).length), w5.cell? ⟨g, (j + 1) * 2 + i * 2, none⟩ = some (.string (out.drop (j + 1))[i].n) ∧ w5.cell? ⟨g, (j + 1) * 2 + i * 2 + 1, none⟩ = some (.string (out.drop (j + 1))[i].v)) := Lab.at_drop HAd.out (j + 1)
                have HTL : Hid ((out.take j).length = j) := by show _ = _; rw [List.length_take]; omega
                have HDL : Hid ((out.drop (j + 1)).length = L - (j + 1)) := by show _ = _; rw [List.length_drop]; have := HL.out; omega
                have hcv : ¬ cv = j + 1 := by omega
                have hcv2 : ¬ cv - (j + 1) = 0 := by omega
                clear HJ
                go_wp2_with fail
                go_quiet (fail)
                go_wp2_with fail
                go_still_tail 8, (by kernel_rfl)
                change wpList _ _ _ _ _ (World.drew _)
                refine wpList_append_grows _ rfl _ _ 22 rfl 36 i0 _ 2 32 Try.underlying22 HI.out hz0 hz1 hz2 rfl (by decide) (some ⟨g, 0, none⟩) j j (Lab.cells (out.take j)) rfl (fun e => by cases e) ?a1 ?a2 ⟨g, (j + 1) * 2, none⟩ (L - (j + 1)) (cv - (j + 1)) (Lab.cells (out.drop (j + 1))) (by go_simp) ?a3 ?a4 (Lab.cells_one _) ?a5 ?a6 ?a7 ?_
                case a1 => rw [Lab.cells_length, HTL.out]
                case a2 =>
                  intro b e i u hu
                  cases e
                  exact Lab.at_cells rfl HO.out i u hu
                case a3 => rw [Lab.cells_length, HDL.out]
                case a4 =>
                  intro i u hu
                  exact Lab.at_cells rfl HDR.out i u hu
                case a5 => omega
                case a6 => unfold maxLen; omega
                case a7 => omega
                intro v6 w6 hown6 hg6
                have hb56 : Below w5.heap.size w5 w6 := ((below_drewN (below_drewN (Below.refl _ w5) nd) _).drew).grown hg6 (Nat.le_refl _) (fun k e => by cases e)
                have hb6 : Below w.heap.size w w6 := below_next hB5 hb56
                have ho6 : OwnLabels w.heap.size v6 (out.take j ++ out.drop (j + 1)) w6 := by
                  unfold OwnLabels
                  rw [Lab.cells_append, List.length_append, HTL.out, HDL.out]
                  exact row_lift hown6 hB5.size
                have hy06 := cell_later hb56 hy0 (Nat.le_refl _)
                have hy16 := cell_later hb56 hy1 (Nat.le_refl _)
                have hpl := Lab.push1_length out y
                have hLL := HL.out
                have htl2 := HTL.out
                have hdl2 := HDL.out
                go_wp2_with (at_builtin; refine wpList_pushL 22 Try.underlying22 rfl _ _ rfl _ _ _ _ rfl ho6 y _ _ rfl _ rfl (by simp) ?c1 ?c2 ?_)
                case c1 => rw [List.length_append]; omega
                case c2 => exact hb6.size
                intro v7 w7 hown7 hg7
                have hb7 := below_push _ hb6 ho6 hg7
                go_wp2_with fail
                go_roundw
                case rel => exact ⟨k + 1, by omega, by go_num, Lab.push1 out y, by rw [HP.out]; first | exact hown7 | (rw [List.append_assoc]; exact hown7), HS, by omega, hb7⟩
                case measure => simp [intOf]; omega
            · have HJ2 : Hid (∀ q (hq : q < out.length), q < j + 1 → Lab.bs out[q].n ≠ Lab.bs y.n) := fun q hq hqj => by
                by_cases e : q = j
                · subst e; rw [hx]; exact hxy
                · exact HJ.out q hq (by omega)
              rw [decide_eq_false hxy] at hbe
              clear HJ
              go_wp2_with fail
              go_quiet (fail)
              go_wp2_with fail
              go_roundw
              case rel => exact ⟨j + 1, rfl, by omega, by go_num, HJ2, _, rfl⟩
              case measure => simp [intOf]; omega
          · have hjL : j = L := by omega
            subst hjL
            have HP : Hid (Lab.push1 out y = out ++ [y]) := by
              show Lab.push1 out y = _
              unfold Lab.push1
              rw [Lab.erase_none _ out (fun q hq => by simpa using HJ.out q hq (by have := HL.out; omega))]
            have hown5 : OwnLabels w.heap.size (.slice pv j cv) out (w5.drewN nd) := by
              have h := HW5.out
              rw [HL.out] at h
              exact h
            have hb5 := below_drewN hB5 nd
            have hll := HL.out
            go_wp2_with (at_builtin; refine wpList_pushL 22 Try.underlying22 rfl _ _ rfl _ _ _ _ rfl hown5 y _ _ rfl _ rfl (by simp) ?c1 ?c2 ?_)
            case c1 => omega
            case c2 => exact hb5.size
            intro v6 w6 hown6 hg6
            have hb6 := below_push _ hb5 hown5 hg6
            have hpl := Lab.push1_length out y
            go_wp2_with fail
            go_roundw
            case rel => exact ⟨k + 1, by omega, by go_num, Lab.push1 out y, by rw [HP.out]; exact hown6, HS, by omega, hb6⟩
            case measure => simp [intOf]; omega
    · go_wp2_with fail
      go_ret
      refine ⟨⟨_, rfl, ?_⟩, hb⟩
      have hst := HD.out
      rw [List.drop_eq_nil_iff.2 (by have := HT.out; omega)] at hst
      have e : out = r := hst
      rw [← e]
      exact hown
end Go.Proofs.Ytflmojjpdmbnaaa
