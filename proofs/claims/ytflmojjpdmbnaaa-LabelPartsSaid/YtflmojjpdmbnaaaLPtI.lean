/- The region of LabelParts that makes three names. (Printed by gen_parts.py.) -/
import Derived.Test.YtflmojjpdmbnaaaL4Z3
namespace Go.Proofs.Ytflmojjpdmbnaaa
open Go.RowKit
set_option linter.unusedVariables false
/-- a slice of three strings, written out -/
def Prt.S (a b c : ByteArray) (t : Value) (w : World) : Prop := ∃ g, t = .slice (some ⟨g, 0, none⟩) 3 3 ∧ w.heap[g]? = some (.cells #[.string a, .string b, .string c] 9)
theorem Prt.S.up {a b c : ByteArray} {t : Value} {w w2 : World} (h : Prt.S a b c t w) (up : ∀ (g : Nat) (o : Obj), w.heap[g]? = some o → w2.heap[g]? = some o) : Prt.S a b c t w2 := by
  obtain ⟨g, h1, h2⟩ := h
  exact ⟨g, h1, up _ _ h2⟩
theorem txt3 {a b c : ByteArray} {g : Nat} {w : World} (h : w.heap[g]? = some (.cells #[.string a, .string b, .string c] 9)) : Txt.At (some ⟨g, 0, none⟩) [a, b, c] w := by
  refine .inr ⟨g, 0, rfl, fun i hi => ?_⟩
  match i, hi with
  | 0, _ => rw [Lib.cell_of_heap h]; rfl
  | 1, _ => rw [Lib.cell_of_heap h]; rfl
  | 2, _ => rw [Lib.cell_of_heap h]; rfl
theorem Made.name_at (k : Nat) : Made.nameC[k % 16]? = some (.string (Lab.nameL.getD (k % 16) ⟨#[]⟩)) := by
  have h : ∀ i, i < 16 → Made.nameC[i]? = some (.string (Lab.nameL.getD i ⟨#[]⟩)) := by
    intro i hi
    show (Lab.nameL.map Value.string).toArray[i]? = _
    rw [List.getElem?_toArray, List.getElem?_map, List.getD, List.getElem?_eq_getElem (show i < Lab.nameL.length from hi)]
    rfl
  exact h _ (Nat.mod_lt _ (by omega))
theorem Lab.name_size (k : Nat) : (Lab.nameL.getD (k % 16) ⟨#[]⟩).size ≤ 100 ∧ 0 < (Lab.nameL.getD (k % 16) ⟨#[]⟩).size := by
  have h : ∀ i, i < 16 → (Lab.nameL.getD i ⟨#[]⟩).size ≤ 100 ∧ 0 < (Lab.nameL.getD i ⟨#[]⟩).size := by decide +kernel
  exact h _ (Nat.mod_lt _ (by omega))
def Lab.begins (pf s : ByteArray) : Bool := Lib.hasPrefix s.data.toList pf.data.toList
def Lab.cntB (pf : ByteArray) (ls : List Lab.L) (k : Nat) : Nat := ((ls.take k).filter fun x => !Lab.begins pf x.n).length
theorem Lab.cntB_le (pf : ByteArray) (ls : List Lab.L) (k : Nat) : Lab.cntB pf ls k ≤ k := by
  unfold Lab.cntB
  have := List.length_filter_le (fun x : Lab.L => !Lab.begins pf x.n) (ls.take k)
  rw [List.length_take] at this
  omega
theorem Lab.cntB_succ (pf : ByteArray) (ls : List Lab.L) (k : Nat) (h : k < ls.length) : Lab.cntB pf ls (k + 1) = Lab.cntB pf ls k + if Lab.begins pf ls[k].n = true then 0 else 1 := by
  unfold Lab.cntB
  rw [List.take_succ_eq_append_getElem h, List.filter_append, List.length_append]
  congr 1
  cases he : Lab.begins pf ls[k].n <;> simp [he]
theorem Lab.cntB_all (pf : ByteArray) (ls : List Lab.L) : Lab.cntB pf ls ls.length = (ls.filter fun x => !Lab.begins pf x.n).length := by
  unfold Lab.cntB
  rw [List.take_length]
theorem Lab.has3 (a b c s : ByteArray) (h : Lab.has [a, b, c] s = true) : Lab.bs s = Lab.bs a ∨ Lab.bs s = Lab.bs b ∨ Lab.bs s = Lab.bs c := by
  unfold Lab.has at h
  simpa [List.any_cons] using h
/-- what stands where, once it has come up -/
structure Prt.I (B : Nat) (W : World) (X x1 y1 z1 : Nat) (na nb nc : ByteArray) (d : Nat → Bool) (t34 t35 t36 t37 t38 t39 t40 t41 t42 t43 t44 t45 t46 t47 t48 t49 t50 t51 t52 t9 : Value) (w : World) : Prop where
  b : Below B W w
  f0 : d 0 = true → Made.N t34 w
  f1 : d 1 = true → t35 = .pointer (some ⟨X, 0, none⟩)
  f2 : d 2 = true → t36 = .int .u8 (x1 : Int)
  f3 : d 3 = true → t37 = .int .u8 ((x1 : Int) % 16)
  f4 : d 4 = true → Made.NP (x1 % 16) t38 w
  f5 : d 5 = true → t39 = .string na
  f6 : d 6 = true → Made.N t40 w
  f7 : d 7 = true → t41 = .pointer (some ⟨X, 1, none⟩)
  f8 : d 8 = true → t42 = .int .u8 (y1 : Int)
  f9 : d 9 = true → t43 = .int .u8 ((y1 : Int) % 16)
  f10 : d 10 = true → Made.NP (y1 % 16) t44 w
  f11 : d 11 = true → t45 = .string nb
  f12 : d 12 = true → Made.N t46 w
  f13 : d 13 = true → t47 = .pointer (some ⟨X, 2, none⟩)
  f14 : d 14 = true → t48 = .int .u8 (z1 : Int)
  f15 : d 15 = true → t49 = .int .u8 ((z1 : Int) % 16)
  f16 : d 16 = true → Made.NP (z1 % 16) t50 w
  f17 : d 17 = true → t51 = .string nc
  f18 : d 18 = true → Prt.S na nb nc t52 w
  f19 : d 19 = true → Prt.S na nb nc t9 w
theorem Prt.start (W : World) (X x1 y1 z1 : Nat) (na nb nc : ByteArray) (t34 t35 t36 t37 t38 t39 t40 t41 t42 t43 t44 t45 t46 t47 t48 t49 t50 t51 t52 t9 : Value) : Prt.I W.heap.size W X x1 y1 z1 na nb nc (fun _ => false) t34 t35 t36 t37 t38 t39 t40 t41 t42 t43 t44 t45 t46 t47 t48 t49 t50 t51 t52 t9 W.drew where
  b := (Below.refl _ _).drew
  f0 := fun q => by cases q
  f1 := fun q => by cases q
  f2 := fun q => by cases q
  f3 := fun q => by cases q
  f4 := fun q => by cases q
  f5 := fun q => by cases q
  f6 := fun q => by cases q
  f7 := fun q => by cases q
  f8 := fun q => by cases q
  f9 := fun q => by cases q
  f10 := fun q => by cases q
  f11 := fun q => by cases q
  f12 := fun q => by cases q
  f13 := fun q => by cases q
  f14 := fun q => by cases q
  f15 := fun q => by cases q
  f16 := fun q => by cases q
  f17 := fun q => by cases q
  f18 := fun q => by cases q
  f19 := fun q => by cases q
theorem Prt.s0 {B : Nat} {W : World} {X x1 y1 z1 : Nat} {na nb nc : ByteArray} {d : Nat → Bool} {t34 t35 t36 t37 t38 t39 t40 t41 t42 t43 t44 t45 t46 t47 t48 t49 t50 t51 t52 t9 : Value} {w w2 : World} {n34 : Value} (h : Prt.I B W X x1 y1 z1 na nb nc d t34 t35 t36 t37 t38 t39 t40 t41 t42 t43 t44 t45 t46 t47 t48 t49 t50 t51 t52 t9 w) (hb : Below B w w2) (up : ∀ (g : Nat) (o : Obj), w.heap[g]? = some o → w2.heap[g]? = some o) (hn : Made.N n34 w2) : Prt.I B W X x1 y1 z1 na nb nc (fun j => d j || j == 0) n34 t35 t36 t37 t38 t39 t40 t41 t42 t43 t44 t45 t46 t47 t48 t49 t50 t51 t52 t9 w2 where
  b := h.b.trans hb
  f0 := fun _ => hn
  f1 := fun q => h.f1 (by simpa using q)
  f2 := fun q => h.f2 (by simpa using q)
  f3 := fun q => h.f3 (by simpa using q)
  f4 := fun q => (h.f4 (by simpa using q)).up up
  f5 := fun q => h.f5 (by simpa using q)
  f6 := fun q => (h.f6 (by simpa using q)).up up
  f7 := fun q => h.f7 (by simpa using q)
  f8 := fun q => h.f8 (by simpa using q)
  f9 := fun q => h.f9 (by simpa using q)
  f10 := fun q => (h.f10 (by simpa using q)).up up
  f11 := fun q => h.f11 (by simpa using q)
  f12 := fun q => (h.f12 (by simpa using q)).up up
  f13 := fun q => h.f13 (by simpa using q)
  f14 := fun q => h.f14 (by simpa using q)
  f15 := fun q => h.f15 (by simpa using q)
  f16 := fun q => (h.f16 (by simpa using q)).up up
  f17 := fun q => h.f17 (by simpa using q)
  f18 := fun q => (h.f18 (by simpa using q)).up up
  f19 := fun q => (h.f19 (by simpa using q)).up up
theorem Prt.s1 {B : Nat} {W : World} {X x1 y1 z1 : Nat} {na nb nc : ByteArray} {d : Nat → Bool} {t34 t35 t36 t37 t38 t39 t40 t41 t42 t43 t44 t45 t46 t47 t48 t49 t50 t51 t52 t9 : Value} {w : World} {n35 : Value} (h : Prt.I B W X x1 y1 z1 na nb nc d t34 t35 t36 t37 t38 t39 t40 t41 t42 t43 t44 t45 t46 t47 t48 t49 t50 t51 t52 t9 w) (hn : n35 = .pointer (some ⟨X, 0, none⟩)) : Prt.I B W X x1 y1 z1 na nb nc (fun j => d j || j == 1) t34 n35 t36 t37 t38 t39 t40 t41 t42 t43 t44 t45 t46 t47 t48 t49 t50 t51 t52 t9 w where
  b := h.b
  f0 := fun q => h.f0 (by simpa using q)
  f1 := fun _ => hn
  f2 := fun q => h.f2 (by simpa using q)
  f3 := fun q => h.f3 (by simpa using q)
  f4 := fun q => h.f4 (by simpa using q)
  f5 := fun q => h.f5 (by simpa using q)
  f6 := fun q => h.f6 (by simpa using q)
  f7 := fun q => h.f7 (by simpa using q)
  f8 := fun q => h.f8 (by simpa using q)
  f9 := fun q => h.f9 (by simpa using q)
  f10 := fun q => h.f10 (by simpa using q)
  f11 := fun q => h.f11 (by simpa using q)
  f12 := fun q => h.f12 (by simpa using q)
  f13 := fun q => h.f13 (by simpa using q)
  f14 := fun q => h.f14 (by simpa using q)
  f15 := fun q => h.f15 (by simpa using q)
  f16 := fun q => h.f16 (by simpa using q)
  f17 := fun q => h.f17 (by simpa using q)
  f18 := fun q => h.f18 (by simpa using q)
  f19 := fun q => h.f19 (by simpa using q)
theorem Prt.s2 {B : Nat} {W : World} {X x1 y1 z1 : Nat} {na nb nc : ByteArray} {d : Nat → Bool} {t34 t35 t36 t37 t38 t39 t40 t41 t42 t43 t44 t45 t46 t47 t48 t49 t50 t51 t52 t9 : Value} {w : World} {n36 : Value} (h : Prt.I B W X x1 y1 z1 na nb nc d t34 t35 t36 t37 t38 t39 t40 t41 t42 t43 t44 t45 t46 t47 t48 t49 t50 t51 t52 t9 w) (hn : n36 = .int .u8 (x1 : Int)) : Prt.I B W X x1 y1 z1 na nb nc (fun j => d j || j == 2) t34 t35 n36 t37 t38 t39 t40 t41 t42 t43 t44 t45 t46 t47 t48 t49 t50 t51 t52 t9 w where
  b := h.b
  f0 := fun q => h.f0 (by simpa using q)
  f1 := fun q => h.f1 (by simpa using q)
  f2 := fun _ => hn
  f3 := fun q => h.f3 (by simpa using q)
  f4 := fun q => h.f4 (by simpa using q)
  f5 := fun q => h.f5 (by simpa using q)
  f6 := fun q => h.f6 (by simpa using q)
  f7 := fun q => h.f7 (by simpa using q)
  f8 := fun q => h.f8 (by simpa using q)
  f9 := fun q => h.f9 (by simpa using q)
  f10 := fun q => h.f10 (by simpa using q)
  f11 := fun q => h.f11 (by simpa using q)
  f12 := fun q => h.f12 (by simpa using q)
  f13 := fun q => h.f13 (by simpa using q)
  f14 := fun q => h.f14 (by simpa using q)
  f15 := fun q => h.f15 (by simpa using q)
  f16 := fun q => h.f16 (by simpa using q)
  f17 := fun q => h.f17 (by simpa using q)
  f18 := fun q => h.f18 (by simpa using q)
  f19 := fun q => h.f19 (by simpa using q)
theorem Prt.s3 {B : Nat} {W : World} {X x1 y1 z1 : Nat} {na nb nc : ByteArray} {d : Nat → Bool} {t34 t35 t36 t37 t38 t39 t40 t41 t42 t43 t44 t45 t46 t47 t48 t49 t50 t51 t52 t9 : Value} {w : World} {n37 : Value} (h : Prt.I B W X x1 y1 z1 na nb nc d t34 t35 t36 t37 t38 t39 t40 t41 t42 t43 t44 t45 t46 t47 t48 t49 t50 t51 t52 t9 w) (hn : n37 = .int .u8 ((x1 : Int) % 16)) : Prt.I B W X x1 y1 z1 na nb nc (fun j => d j || j == 3) t34 t35 t36 n37 t38 t39 t40 t41 t42 t43 t44 t45 t46 t47 t48 t49 t50 t51 t52 t9 w where
  b := h.b
  f0 := fun q => h.f0 (by simpa using q)
  f1 := fun q => h.f1 (by simpa using q)
  f2 := fun q => h.f2 (by simpa using q)
  f3 := fun _ => hn
  f4 := fun q => h.f4 (by simpa using q)
  f5 := fun q => h.f5 (by simpa using q)
  f6 := fun q => h.f6 (by simpa using q)
  f7 := fun q => h.f7 (by simpa using q)
  f8 := fun q => h.f8 (by simpa using q)
  f9 := fun q => h.f9 (by simpa using q)
  f10 := fun q => h.f10 (by simpa using q)
  f11 := fun q => h.f11 (by simpa using q)
  f12 := fun q => h.f12 (by simpa using q)
  f13 := fun q => h.f13 (by simpa using q)
  f14 := fun q => h.f14 (by simpa using q)
  f15 := fun q => h.f15 (by simpa using q)
  f16 := fun q => h.f16 (by simpa using q)
  f17 := fun q => h.f17 (by simpa using q)
  f18 := fun q => h.f18 (by simpa using q)
  f19 := fun q => h.f19 (by simpa using q)
theorem Prt.s4 {B : Nat} {W : World} {X x1 y1 z1 : Nat} {na nb nc : ByteArray} {d : Nat → Bool} {t34 t35 t36 t37 t38 t39 t40 t41 t42 t43 t44 t45 t46 t47 t48 t49 t50 t51 t52 t9 : Value} {w : World} {n38 : Value} (h : Prt.I B W X x1 y1 z1 na nb nc d t34 t35 t36 t37 t38 t39 t40 t41 t42 t43 t44 t45 t46 t47 t48 t49 t50 t51 t52 t9 w) (hn : Made.NP (x1 % 16) n38 w) : Prt.I B W X x1 y1 z1 na nb nc (fun j => d j || j == 4) t34 t35 t36 t37 n38 t39 t40 t41 t42 t43 t44 t45 t46 t47 t48 t49 t50 t51 t52 t9 w where
  b := h.b
  f0 := fun q => h.f0 (by simpa using q)
  f1 := fun q => h.f1 (by simpa using q)
  f2 := fun q => h.f2 (by simpa using q)
  f3 := fun q => h.f3 (by simpa using q)
  f4 := fun _ => hn
  f5 := fun q => h.f5 (by simpa using q)
  f6 := fun q => h.f6 (by simpa using q)
  f7 := fun q => h.f7 (by simpa using q)
  f8 := fun q => h.f8 (by simpa using q)
  f9 := fun q => h.f9 (by simpa using q)
  f10 := fun q => h.f10 (by simpa using q)
  f11 := fun q => h.f11 (by simpa using q)
  f12 := fun q => h.f12 (by simpa using q)
  f13 := fun q => h.f13 (by simpa using q)
  f14 := fun q => h.f14 (by simpa using q)
  f15 := fun q => h.f15 (by simpa using q)
  f16 := fun q => h.f16 (by simpa using q)
  f17 := fun q => h.f17 (by simpa using q)
  f18 := fun q => h.f18 (by simpa using q)
  f19 := fun q => h.f19 (by simpa using q)
theorem Prt.s5 {B : Nat} {W : World} {X x1 y1 z1 : Nat} {na nb nc : ByteArray} {d : Nat → Bool} {t34 t35 t36 t37 t38 t39 t40 t41 t42 t43 t44 t45 t46 t47 t48 t49 t50 t51 t52 t9 : Value} {w : World} {n39 : Value} (h : Prt.I B W X x1 y1 z1 na nb nc d t34 t35 t36 t37 t38 t39 t40 t41 t42 t43 t44 t45 t46 t47 t48 t49 t50 t51 t52 t9 w) (hn : n39 = .string na) : Prt.I B W X x1 y1 z1 na nb nc (fun j => d j || j == 5) t34 t35 t36 t37 t38 n39 t40 t41 t42 t43 t44 t45 t46 t47 t48 t49 t50 t51 t52 t9 w where
  b := h.b
  f0 := fun q => h.f0 (by simpa using q)
  f1 := fun q => h.f1 (by simpa using q)
  f2 := fun q => h.f2 (by simpa using q)
  f3 := fun q => h.f3 (by simpa using q)
  f4 := fun q => h.f4 (by simpa using q)
  f5 := fun _ => hn
  f6 := fun q => h.f6 (by simpa using q)
  f7 := fun q => h.f7 (by simpa using q)
  f8 := fun q => h.f8 (by simpa using q)
  f9 := fun q => h.f9 (by simpa using q)
  f10 := fun q => h.f10 (by simpa using q)
  f11 := fun q => h.f11 (by simpa using q)
  f12 := fun q => h.f12 (by simpa using q)
  f13 := fun q => h.f13 (by simpa using q)
  f14 := fun q => h.f14 (by simpa using q)
  f15 := fun q => h.f15 (by simpa using q)
  f16 := fun q => h.f16 (by simpa using q)
  f17 := fun q => h.f17 (by simpa using q)
  f18 := fun q => h.f18 (by simpa using q)
  f19 := fun q => h.f19 (by simpa using q)
theorem Prt.s6 {B : Nat} {W : World} {X x1 y1 z1 : Nat} {na nb nc : ByteArray} {d : Nat → Bool} {t34 t35 t36 t37 t38 t39 t40 t41 t42 t43 t44 t45 t46 t47 t48 t49 t50 t51 t52 t9 : Value} {w w2 : World} {n40 : Value} (h : Prt.I B W X x1 y1 z1 na nb nc d t34 t35 t36 t37 t38 t39 t40 t41 t42 t43 t44 t45 t46 t47 t48 t49 t50 t51 t52 t9 w) (hb : Below B w w2) (up : ∀ (g : Nat) (o : Obj), w.heap[g]? = some o → w2.heap[g]? = some o) (hn : Made.N n40 w2) : Prt.I B W X x1 y1 z1 na nb nc (fun j => d j || j == 6) t34 t35 t36 t37 t38 t39 n40 t41 t42 t43 t44 t45 t46 t47 t48 t49 t50 t51 t52 t9 w2 where
  b := h.b.trans hb
  f0 := fun q => (h.f0 (by simpa using q)).up up
  f1 := fun q => h.f1 (by simpa using q)
  f2 := fun q => h.f2 (by simpa using q)
  f3 := fun q => h.f3 (by simpa using q)
  f4 := fun q => (h.f4 (by simpa using q)).up up
  f5 := fun q => h.f5 (by simpa using q)
  f6 := fun _ => hn
  f7 := fun q => h.f7 (by simpa using q)
  f8 := fun q => h.f8 (by simpa using q)
  f9 := fun q => h.f9 (by simpa using q)
  f10 := fun q => (h.f10 (by simpa using q)).up up
  f11 := fun q => h.f11 (by simpa using q)
  f12 := fun q => (h.f12 (by simpa using q)).up up
  f13 := fun q => h.f13 (by simpa using q)
  f14 := fun q => h.f14 (by simpa using q)
  f15 := fun q => h.f15 (by simpa using q)
  f16 := fun q => (h.f16 (by simpa using q)).up up
  f17 := fun q => h.f17 (by simpa using q)
  f18 := fun q => (h.f18 (by simpa using q)).up up
  f19 := fun q => (h.f19 (by simpa using q)).up up
theorem Prt.s7 {B : Nat} {W : World} {X x1 y1 z1 : Nat} {na nb nc : ByteArray} {d : Nat → Bool} {t34 t35 t36 t37 t38 t39 t40 t41 t42 t43 t44 t45 t46 t47 t48 t49 t50 t51 t52 t9 : Value} {w : World} {n41 : Value} (h : Prt.I B W X x1 y1 z1 na nb nc d t34 t35 t36 t37 t38 t39 t40 t41 t42 t43 t44 t45 t46 t47 t48 t49 t50 t51 t52 t9 w) (hn : n41 = .pointer (some ⟨X, 1, none⟩)) : Prt.I B W X x1 y1 z1 na nb nc (fun j => d j || j == 7) t34 t35 t36 t37 t38 t39 t40 n41 t42 t43 t44 t45 t46 t47 t48 t49 t50 t51 t52 t9 w where
  b := h.b
  f0 := fun q => h.f0 (by simpa using q)
  f1 := fun q => h.f1 (by simpa using q)
  f2 := fun q => h.f2 (by simpa using q)
  f3 := fun q => h.f3 (by simpa using q)
  f4 := fun q => h.f4 (by simpa using q)
  f5 := fun q => h.f5 (by simpa using q)
  f6 := fun q => h.f6 (by simpa using q)
  f7 := fun _ => hn
  f8 := fun q => h.f8 (by simpa using q)
  f9 := fun q => h.f9 (by simpa using q)
  f10 := fun q => h.f10 (by simpa using q)
  f11 := fun q => h.f11 (by simpa using q)
  f12 := fun q => h.f12 (by simpa using q)
  f13 := fun q => h.f13 (by simpa using q)
  f14 := fun q => h.f14 (by simpa using q)
  f15 := fun q => h.f15 (by simpa using q)
  f16 := fun q => h.f16 (by simpa using q)
  f17 := fun q => h.f17 (by simpa using q)
  f18 := fun q => h.f18 (by simpa using q)
  f19 := fun q => h.f19 (by simpa using q)
theorem Prt.s8 {B : Nat} {W : World} {X x1 y1 z1 : Nat} {na nb nc : ByteArray} {d : Nat → Bool} {t34 t35 t36 t37 t38 t39 t40 t41 t42 t43 t44 t45 t46 t47 t48 t49 t50 t51 t52 t9 : Value} {w : World} {n42 : Value} (h : Prt.I B W X x1 y1 z1 na nb nc d t34 t35 t36 t37 t38 t39 t40 t41 t42 t43 t44 t45 t46 t47 t48 t49 t50 t51 t52 t9 w) (hn : n42 = .int .u8 (y1 : Int)) : Prt.I B W X x1 y1 z1 na nb nc (fun j => d j || j == 8) t34 t35 t36 t37 t38 t39 t40 t41 n42 t43 t44 t45 t46 t47 t48 t49 t50 t51 t52 t9 w where
  b := h.b
  f0 := fun q => h.f0 (by simpa using q)
  f1 := fun q => h.f1 (by simpa using q)
  f2 := fun q => h.f2 (by simpa using q)
  f3 := fun q => h.f3 (by simpa using q)
  f4 := fun q => h.f4 (by simpa using q)
  f5 := fun q => h.f5 (by simpa using q)
  f6 := fun q => h.f6 (by simpa using q)
  f7 := fun q => h.f7 (by simpa using q)
  f8 := fun _ => hn
  f9 := fun q => h.f9 (by simpa using q)
  f10 := fun q => h.f10 (by simpa using q)
  f11 := fun q => h.f11 (by simpa using q)
  f12 := fun q => h.f12 (by simpa using q)
  f13 := fun q => h.f13 (by simpa using q)
  f14 := fun q => h.f14 (by simpa using q)
  f15 := fun q => h.f15 (by simpa using q)
  f16 := fun q => h.f16 (by simpa using q)
  f17 := fun q => h.f17 (by simpa using q)
  f18 := fun q => h.f18 (by simpa using q)
  f19 := fun q => h.f19 (by simpa using q)
theorem Prt.s9 {B : Nat} {W : World} {X x1 y1 z1 : Nat} {na nb nc : ByteArray} {d : Nat → Bool} {t34 t35 t36 t37 t38 t39 t40 t41 t42 t43 t44 t45 t46 t47 t48 t49 t50 t51 t52 t9 : Value} {w : World} {n43 : Value} (h : Prt.I B W X x1 y1 z1 na nb nc d t34 t35 t36 t37 t38 t39 t40 t41 t42 t43 t44 t45 t46 t47 t48 t49 t50 t51 t52 t9 w) (hn : n43 = .int .u8 ((y1 : Int) % 16)) : Prt.I B W X x1 y1 z1 na nb nc (fun j => d j || j == 9) t34 t35 t36 t37 t38 t39 t40 t41 t42 n43 t44 t45 t46 t47 t48 t49 t50 t51 t52 t9 w where
  b := h.b
  f0 := fun q => h.f0 (by simpa using q)
  f1 := fun q => h.f1 (by simpa using q)
  f2 := fun q => h.f2 (by simpa using q)
  f3 := fun q => h.f3 (by simpa using q)
  f4 := fun q => h.f4 (by simpa using q)
  f5 := fun q => h.f5 (by simpa using q)
  f6 := fun q => h.f6 (by simpa using q)
  f7 := fun q => h.f7 (by simpa using q)
  f8 := fun q => h.f8 (by simpa using q)
  f9 := fun _ => hn
  f10 := fun q => h.f10 (by simpa using q)
  f11 := fun q => h.f11 (by simpa using q)
  f12 := fun q => h.f12 (by simpa using q)
  f13 := fun q => h.f13 (by simpa using q)
  f14 := fun q => h.f14 (by simpa using q)
  f15 := fun q => h.f15 (by simpa using q)
  f16 := fun q => h.f16 (by simpa using q)
  f17 := fun q => h.f17 (by simpa using q)
  f18 := fun q => h.f18 (by simpa using q)
  f19 := fun q => h.f19 (by simpa using q)
theorem Prt.s10 {B : Nat} {W : World} {X x1 y1 z1 : Nat} {na nb nc : ByteArray} {d : Nat → Bool} {t34 t35 t36 t37 t38 t39 t40 t41 t42 t43 t44 t45 t46 t47 t48 t49 t50 t51 t52 t9 : Value} {w : World} {n44 : Value} (h : Prt.I B W X x1 y1 z1 na nb nc d t34 t35 t36 t37 t38 t39 t40 t41 t42 t43 t44 t45 t46 t47 t48 t49 t50 t51 t52 t9 w) (hn : Made.NP (y1 % 16) n44 w) : Prt.I B W X x1 y1 z1 na nb nc (fun j => d j || j == 10) t34 t35 t36 t37 t38 t39 t40 t41 t42 t43 n44 t45 t46 t47 t48 t49 t50 t51 t52 t9 w where
  b := h.b
  f0 := fun q => h.f0 (by simpa using q)
  f1 := fun q => h.f1 (by simpa using q)
  f2 := fun q => h.f2 (by simpa using q)
  f3 := fun q => h.f3 (by simpa using q)
  f4 := fun q => h.f4 (by simpa using q)
  f5 := fun q => h.f5 (by simpa using q)
  f6 := fun q => h.f6 (by simpa using q)
  f7 := fun q => h.f7 (by simpa using q)
  f8 := fun q => h.f8 (by simpa using q)
  f9 := fun q => h.f9 (by simpa using q)
  f10 := fun _ => hn
  f11 := fun q => h.f11 (by simpa using q)
  f12 := fun q => h.f12 (by simpa using q)
  f13 := fun q => h.f13 (by simpa using q)
  f14 := fun q => h.f14 (by simpa using q)
  f15 := fun q => h.f15 (by simpa using q)
  f16 := fun q => h.f16 (by simpa using q)
  f17 := fun q => h.f17 (by simpa using q)
  f18 := fun q => h.f18 (by simpa using q)
  f19 := fun q => h.f19 (by simpa using q)
theorem Prt.s11 {B : Nat} {W : World} {X x1 y1 z1 : Nat} {na nb nc : ByteArray} {d : Nat → Bool} {t34 t35 t36 t37 t38 t39 t40 t41 t42 t43 t44 t45 t46 t47 t48 t49 t50 t51 t52 t9 : Value} {w : World} {n45 : Value} (h : Prt.I B W X x1 y1 z1 na nb nc d t34 t35 t36 t37 t38 t39 t40 t41 t42 t43 t44 t45 t46 t47 t48 t49 t50 t51 t52 t9 w) (hn : n45 = .string nb) : Prt.I B W X x1 y1 z1 na nb nc (fun j => d j || j == 11) t34 t35 t36 t37 t38 t39 t40 t41 t42 t43 t44 n45 t46 t47 t48 t49 t50 t51 t52 t9 w where
  b := h.b
  f0 := fun q => h.f0 (by simpa using q)
  f1 := fun q => h.f1 (by simpa using q)
  f2 := fun q => h.f2 (by simpa using q)
  f3 := fun q => h.f3 (by simpa using q)
  f4 := fun q => h.f4 (by simpa using q)
  f5 := fun q => h.f5 (by simpa using q)
  f6 := fun q => h.f6 (by simpa using q)
  f7 := fun q => h.f7 (by simpa using q)
  f8 := fun q => h.f8 (by simpa using q)
  f9 := fun q => h.f9 (by simpa using q)
  f10 := fun q => h.f10 (by simpa using q)
  f11 := fun _ => hn
  f12 := fun q => h.f12 (by simpa using q)
  f13 := fun q => h.f13 (by simpa using q)
  f14 := fun q => h.f14 (by simpa using q)
  f15 := fun q => h.f15 (by simpa using q)
  f16 := fun q => h.f16 (by simpa using q)
  f17 := fun q => h.f17 (by simpa using q)
  f18 := fun q => h.f18 (by simpa using q)
  f19 := fun q => h.f19 (by simpa using q)
theorem Prt.s12 {B : Nat} {W : World} {X x1 y1 z1 : Nat} {na nb nc : ByteArray} {d : Nat → Bool} {t34 t35 t36 t37 t38 t39 t40 t41 t42 t43 t44 t45 t46 t47 t48 t49 t50 t51 t52 t9 : Value} {w w2 : World} {n46 : Value} (h : Prt.I B W X x1 y1 z1 na nb nc d t34 t35 t36 t37 t38 t39 t40 t41 t42 t43 t44 t45 t46 t47 t48 t49 t50 t51 t52 t9 w) (hb : Below B w w2) (up : ∀ (g : Nat) (o : Obj), w.heap[g]? = some o → w2.heap[g]? = some o) (hn : Made.N n46 w2) : Prt.I B W X x1 y1 z1 na nb nc (fun j => d j || j == 12) t34 t35 t36 t37 t38 t39 t40 t41 t42 t43 t44 t45 n46 t47 t48 t49 t50 t51 t52 t9 w2 where
  b := h.b.trans hb
  f0 := fun q => (h.f0 (by simpa using q)).up up
  f1 := fun q => h.f1 (by simpa using q)
  f2 := fun q => h.f2 (by simpa using q)
  f3 := fun q => h.f3 (by simpa using q)
  f4 := fun q => (h.f4 (by simpa using q)).up up
  f5 := fun q => h.f5 (by simpa using q)
  f6 := fun q => (h.f6 (by simpa using q)).up up
  f7 := fun q => h.f7 (by simpa using q)
  f8 := fun q => h.f8 (by simpa using q)
  f9 := fun q => h.f9 (by simpa using q)
  f10 := fun q => (h.f10 (by simpa using q)).up up
  f11 := fun q => h.f11 (by simpa using q)
  f12 := fun _ => hn
  f13 := fun q => h.f13 (by simpa using q)
  f14 := fun q => h.f14 (by simpa using q)
  f15 := fun q => h.f15 (by simpa using q)
  f16 := fun q => (h.f16 (by simpa using q)).up up
  f17 := fun q => h.f17 (by simpa using q)
  f18 := fun q => (h.f18 (by simpa using q)).up up
  f19 := fun q => (h.f19 (by simpa using q)).up up
theorem Prt.s13 {B : Nat} {W : World} {X x1 y1 z1 : Nat} {na nb nc : ByteArray} {d : Nat → Bool} {t34 t35 t36 t37 t38 t39 t40 t41 t42 t43 t44 t45 t46 t47 t48 t49 t50 t51 t52 t9 : Value} {w : World} {n47 : Value} (h : Prt.I B W X x1 y1 z1 na nb nc d t34 t35 t36 t37 t38 t39 t40 t41 t42 t43 t44 t45 t46 t47 t48 t49 t50 t51 t52 t9 w) (hn : n47 = .pointer (some ⟨X, 2, none⟩)) : Prt.I B W X x1 y1 z1 na nb nc (fun j => d j || j == 13) t34 t35 t36 t37 t38 t39 t40 t41 t42 t43 t44 t45 t46 n47 t48 t49 t50 t51 t52 t9 w where
  b := h.b
  f0 := fun q => h.f0 (by simpa using q)
  f1 := fun q => h.f1 (by simpa using q)
  f2 := fun q => h.f2 (by simpa using q)
  f3 := fun q => h.f3 (by simpa using q)
  f4 := fun q => h.f4 (by simpa using q)
  f5 := fun q => h.f5 (by simpa using q)
  f6 := fun q => h.f6 (by simpa using q)
  f7 := fun q => h.f7 (by simpa using q)
  f8 := fun q => h.f8 (by simpa using q)
  f9 := fun q => h.f9 (by simpa using q)
  f10 := fun q => h.f10 (by simpa using q)
  f11 := fun q => h.f11 (by simpa using q)
  f12 := fun q => h.f12 (by simpa using q)
  f13 := fun _ => hn
  f14 := fun q => h.f14 (by simpa using q)
  f15 := fun q => h.f15 (by simpa using q)
  f16 := fun q => h.f16 (by simpa using q)
  f17 := fun q => h.f17 (by simpa using q)
  f18 := fun q => h.f18 (by simpa using q)
  f19 := fun q => h.f19 (by simpa using q)
theorem Prt.s14 {B : Nat} {W : World} {X x1 y1 z1 : Nat} {na nb nc : ByteArray} {d : Nat → Bool} {t34 t35 t36 t37 t38 t39 t40 t41 t42 t43 t44 t45 t46 t47 t48 t49 t50 t51 t52 t9 : Value} {w : World} {n48 : Value} (h : Prt.I B W X x1 y1 z1 na nb nc d t34 t35 t36 t37 t38 t39 t40 t41 t42 t43 t44 t45 t46 t47 t48 t49 t50 t51 t52 t9 w) (hn : n48 = .int .u8 (z1 : Int)) : Prt.I B W X x1 y1 z1 na nb nc (fun j => d j || j == 14) t34 t35 t36 t37 t38 t39 t40 t41 t42 t43 t44 t45 t46 t47 n48 t49 t50 t51 t52 t9 w where
  b := h.b
  f0 := fun q => h.f0 (by simpa using q)
  f1 := fun q => h.f1 (by simpa using q)
  f2 := fun q => h.f2 (by simpa using q)
  f3 := fun q => h.f3 (by simpa using q)
  f4 := fun q => h.f4 (by simpa using q)
  f5 := fun q => h.f5 (by simpa using q)
  f6 := fun q => h.f6 (by simpa using q)
  f7 := fun q => h.f7 (by simpa using q)
  f8 := fun q => h.f8 (by simpa using q)
  f9 := fun q => h.f9 (by simpa using q)
  f10 := fun q => h.f10 (by simpa using q)
  f11 := fun q => h.f11 (by simpa using q)
  f12 := fun q => h.f12 (by simpa using q)
  f13 := fun q => h.f13 (by simpa using q)
  f14 := fun _ => hn
  f15 := fun q => h.f15 (by simpa using q)
  f16 := fun q => h.f16 (by simpa using q)
  f17 := fun q => h.f17 (by simpa using q)
  f18 := fun q => h.f18 (by simpa using q)
  f19 := fun q => h.f19 (by simpa using q)
theorem Prt.s15 {B : Nat} {W : World} {X x1 y1 z1 : Nat} {na nb nc : ByteArray} {d : Nat → Bool} {t34 t35 t36 t37 t38 t39 t40 t41 t42 t43 t44 t45 t46 t47 t48 t49 t50 t51 t52 t9 : Value} {w : World} {n49 : Value} (h : Prt.I B W X x1 y1 z1 na nb nc d t34 t35 t36 t37 t38 t39 t40 t41 t42 t43 t44 t45 t46 t47 t48 t49 t50 t51 t52 t9 w) (hn : n49 = .int .u8 ((z1 : Int) % 16)) : Prt.I B W X x1 y1 z1 na nb nc (fun j => d j || j == 15) t34 t35 t36 t37 t38 t39 t40 t41 t42 t43 t44 t45 t46 t47 t48 n49 t50 t51 t52 t9 w where
  b := h.b
  f0 := fun q => h.f0 (by simpa using q)
  f1 := fun q => h.f1 (by simpa using q)
  f2 := fun q => h.f2 (by simpa using q)
  f3 := fun q => h.f3 (by simpa using q)
  f4 := fun q => h.f4 (by simpa using q)
  f5 := fun q => h.f5 (by simpa using q)
  f6 := fun q => h.f6 (by simpa using q)
  f7 := fun q => h.f7 (by simpa using q)
  f8 := fun q => h.f8 (by simpa using q)
  f9 := fun q => h.f9 (by simpa using q)
  f10 := fun q => h.f10 (by simpa using q)
  f11 := fun q => h.f11 (by simpa using q)
  f12 := fun q => h.f12 (by simpa using q)
  f13 := fun q => h.f13 (by simpa using q)
  f14 := fun q => h.f14 (by simpa using q)
  f15 := fun _ => hn
  f16 := fun q => h.f16 (by simpa using q)
  f17 := fun q => h.f17 (by simpa using q)
  f18 := fun q => h.f18 (by simpa using q)
  f19 := fun q => h.f19 (by simpa using q)
theorem Prt.s16 {B : Nat} {W : World} {X x1 y1 z1 : Nat} {na nb nc : ByteArray} {d : Nat → Bool} {t34 t35 t36 t37 t38 t39 t40 t41 t42 t43 t44 t45 t46 t47 t48 t49 t50 t51 t52 t9 : Value} {w : World} {n50 : Value} (h : Prt.I B W X x1 y1 z1 na nb nc d t34 t35 t36 t37 t38 t39 t40 t41 t42 t43 t44 t45 t46 t47 t48 t49 t50 t51 t52 t9 w) (hn : Made.NP (z1 % 16) n50 w) : Prt.I B W X x1 y1 z1 na nb nc (fun j => d j || j == 16) t34 t35 t36 t37 t38 t39 t40 t41 t42 t43 t44 t45 t46 t47 t48 t49 n50 t51 t52 t9 w where
  b := h.b
  f0 := fun q => h.f0 (by simpa using q)
  f1 := fun q => h.f1 (by simpa using q)
  f2 := fun q => h.f2 (by simpa using q)
  f3 := fun q => h.f3 (by simpa using q)
  f4 := fun q => h.f4 (by simpa using q)
  f5 := fun q => h.f5 (by simpa using q)
  f6 := fun q => h.f6 (by simpa using q)
  f7 := fun q => h.f7 (by simpa using q)
  f8 := fun q => h.f8 (by simpa using q)
  f9 := fun q => h.f9 (by simpa using q)
  f10 := fun q => h.f10 (by simpa using q)
  f11 := fun q => h.f11 (by simpa using q)
  f12 := fun q => h.f12 (by simpa using q)
  f13 := fun q => h.f13 (by simpa using q)
  f14 := fun q => h.f14 (by simpa using q)
  f15 := fun q => h.f15 (by simpa using q)
  f16 := fun _ => hn
  f17 := fun q => h.f17 (by simpa using q)
  f18 := fun q => h.f18 (by simpa using q)
  f19 := fun q => h.f19 (by simpa using q)
theorem Prt.s17 {B : Nat} {W : World} {X x1 y1 z1 : Nat} {na nb nc : ByteArray} {d : Nat → Bool} {t34 t35 t36 t37 t38 t39 t40 t41 t42 t43 t44 t45 t46 t47 t48 t49 t50 t51 t52 t9 : Value} {w : World} {n51 : Value} (h : Prt.I B W X x1 y1 z1 na nb nc d t34 t35 t36 t37 t38 t39 t40 t41 t42 t43 t44 t45 t46 t47 t48 t49 t50 t51 t52 t9 w) (hn : n51 = .string nc) : Prt.I B W X x1 y1 z1 na nb nc (fun j => d j || j == 17) t34 t35 t36 t37 t38 t39 t40 t41 t42 t43 t44 t45 t46 t47 t48 t49 t50 n51 t52 t9 w where
  b := h.b
  f0 := fun q => h.f0 (by simpa using q)
  f1 := fun q => h.f1 (by simpa using q)
  f2 := fun q => h.f2 (by simpa using q)
  f3 := fun q => h.f3 (by simpa using q)
  f4 := fun q => h.f4 (by simpa using q)
  f5 := fun q => h.f5 (by simpa using q)
  f6 := fun q => h.f6 (by simpa using q)
  f7 := fun q => h.f7 (by simpa using q)
  f8 := fun q => h.f8 (by simpa using q)
  f9 := fun q => h.f9 (by simpa using q)
  f10 := fun q => h.f10 (by simpa using q)
  f11 := fun q => h.f11 (by simpa using q)
  f12 := fun q => h.f12 (by simpa using q)
  f13 := fun q => h.f13 (by simpa using q)
  f14 := fun q => h.f14 (by simpa using q)
  f15 := fun q => h.f15 (by simpa using q)
  f16 := fun q => h.f16 (by simpa using q)
  f17 := fun _ => hn
  f18 := fun q => h.f18 (by simpa using q)
  f19 := fun q => h.f19 (by simpa using q)
theorem Prt.s18 {B : Nat} {W : World} {X x1 y1 z1 : Nat} {na nb nc : ByteArray} {d : Nat → Bool} {t34 t35 t36 t37 t38 t39 t40 t41 t42 t43 t44 t45 t46 t47 t48 t49 t50 t51 t52 t9 : Value} {w w2 : World} {n52 : Value} (h : Prt.I B W X x1 y1 z1 na nb nc d t34 t35 t36 t37 t38 t39 t40 t41 t42 t43 t44 t45 t46 t47 t48 t49 t50 t51 t52 t9 w) (hb : Below B w w2) (up : ∀ (g : Nat) (o : Obj), w.heap[g]? = some o → w2.heap[g]? = some o) (hn : Prt.S na nb nc n52 w2) : Prt.I B W X x1 y1 z1 na nb nc (fun j => d j || j == 18) t34 t35 t36 t37 t38 t39 t40 t41 t42 t43 t44 t45 t46 t47 t48 t49 t50 t51 n52 t9 w2 where
  b := h.b.trans hb
  f0 := fun q => (h.f0 (by simpa using q)).up up
  f1 := fun q => h.f1 (by simpa using q)
  f2 := fun q => h.f2 (by simpa using q)
  f3 := fun q => h.f3 (by simpa using q)
  f4 := fun q => (h.f4 (by simpa using q)).up up
  f5 := fun q => h.f5 (by simpa using q)
  f6 := fun q => (h.f6 (by simpa using q)).up up
  f7 := fun q => h.f7 (by simpa using q)
  f8 := fun q => h.f8 (by simpa using q)
  f9 := fun q => h.f9 (by simpa using q)
  f10 := fun q => (h.f10 (by simpa using q)).up up
  f11 := fun q => h.f11 (by simpa using q)
  f12 := fun q => (h.f12 (by simpa using q)).up up
  f13 := fun q => h.f13 (by simpa using q)
  f14 := fun q => h.f14 (by simpa using q)
  f15 := fun q => h.f15 (by simpa using q)
  f16 := fun q => (h.f16 (by simpa using q)).up up
  f17 := fun q => h.f17 (by simpa using q)
  f18 := fun _ => hn
  f19 := fun q => (h.f19 (by simpa using q)).up up
theorem Prt.s19 {B : Nat} {W : World} {X x1 y1 z1 : Nat} {na nb nc : ByteArray} {d : Nat → Bool} {t34 t35 t36 t37 t38 t39 t40 t41 t42 t43 t44 t45 t46 t47 t48 t49 t50 t51 t52 t9 : Value} {w : World} {n9 : Value} (h : Prt.I B W X x1 y1 z1 na nb nc d t34 t35 t36 t37 t38 t39 t40 t41 t42 t43 t44 t45 t46 t47 t48 t49 t50 t51 t52 t9 w) (hn : Prt.S na nb nc n9 w) : Prt.I B W X x1 y1 z1 na nb nc (fun j => d j || j == 19) t34 t35 t36 t37 t38 t39 t40 t41 t42 t43 t44 t45 t46 t47 t48 t49 t50 t51 t52 n9 w where
  b := h.b
  f0 := fun q => h.f0 (by simpa using q)
  f1 := fun q => h.f1 (by simpa using q)
  f2 := fun q => h.f2 (by simpa using q)
  f3 := fun q => h.f3 (by simpa using q)
  f4 := fun q => h.f4 (by simpa using q)
  f5 := fun q => h.f5 (by simpa using q)
  f6 := fun q => h.f6 (by simpa using q)
  f7 := fun q => h.f7 (by simpa using q)
  f8 := fun q => h.f8 (by simpa using q)
  f9 := fun q => h.f9 (by simpa using q)
  f10 := fun q => h.f10 (by simpa using q)
  f11 := fun q => h.f11 (by simpa using q)
  f12 := fun q => h.f12 (by simpa using q)
  f13 := fun q => h.f13 (by simpa using q)
  f14 := fun q => h.f14 (by simpa using q)
  f15 := fun q => h.f15 (by simpa using q)
  f16 := fun q => h.f16 (by simpa using q)
  f17 := fun q => h.f17 (by simpa using q)
  f18 := fun q => h.f18 (by simpa using q)
  f19 := fun _ => hn
end Go.Proofs.Ytflmojjpdmbnaaa
