/- The region of LabelSets that makes an edit; plain laws of edits. (Printed by gen_sets.py.) -/
import Derived.Test.YtflmojjpdmbnaaaL4Z3
namespace Go.Proofs.Ytflmojjpdmbnaaa
open Go.RowKit
set_option linter.unusedVariables false
def Lab.edit1 (x : Lab.Sm) : Lab.L := ⟨Lab.nameL.getD (x.a % 16) ⟨#[]⟩, ⟨(Lib.repeatL [118] (x.b % 3)).toArray⟩⟩
theorem Lab.edit1_one (x : Lab.Sm) : Lab.one (Lab.edit1 x) = 0 := by
  have h : ∀ i, i < 16 → ∀ j, j < 3 → Lab.one ⟨Lab.nameL.getD i ⟨#[]⟩, ⟨(Lib.repeatL [118] j).toArray⟩⟩ = 0 := by decide +kernel
  exact h _ (Nat.mod_lt _ (by omega)) _ (Nat.mod_lt _ (by omega))
theorem Lab.edit1_few (x : Lab.Sm) : Lab.bs (Lab.edit1 x).n ∈ Lab.nameL.map Lab.bs := by
  have h : ∀ i, i < 16 → Lab.bs (Lab.nameL.getD i ⟨#[]⟩) ∈ Lab.nameL.map Lab.bs := by decide +kernel
  exact h _ (Nat.mod_lt _ (by omega))
/-- labels after some edits, one by one -/
structure Lab.Ed (A es one : List Lab.L) : Prop where
  g : Lab.Good one
  e : ∀ n, Lab.get one n = Lab.get (Lab.puts A es) n
  o : ∀ x ∈ es, Lab.one x = 0
  f : Lab.Few es
theorem Lab.Ed.start (A : List Lab.L) (h : Lab.Good A) : Lab.Ed A [] A := ⟨h, fun _ => rfl, fun x hx => by simp at hx, fun x hx => by simp at hx⟩
theorem Lab.Ed.step {A es one : List Lab.L} (h : Lab.Ed A es one) (y : Lab.L) (h1 : Lab.one y = 0) (h2 : Lab.bs y.n ∈ Lab.nameL.map Lab.bs) :
    ∃ m, Lab.set one [y] = (m, 0) ∧ Lab.Ed A (es ++ [y]) m ∧ ∀ n, Lab.get m n = if Lab.bs n = Lab.bs y.n then y.v else Lab.get one n := by
  obtain ⟨s1, s2, s3⟩ := Lab.set_good one [y] h.g (fun x hx => by rw [List.mem_singleton.1 hx]; exact h1) (fun x hx => by rw [List.mem_singleton.1 hx]; exact h2)
  have e0 : ∀ n, Lab.get (Lab.srt (Lab.puts one [y])) n = if Lab.bs n = Lab.bs y.n then y.v else Lab.get one n := fun n => by
    rw [s3]
    exact Lab.get_put1 one y n
  refine ⟨_, s1, ⟨s2, fun n => ?_, fun x hx => ?_, fun x hx => ?_⟩, e0⟩
  · rw [e0, Lab.puts_snoc, Lab.get_put1, h.e]
  · rw [List.mem_append, List.mem_singleton] at hx
    rcases hx with hx | rfl
    · exact h.o x hx
    · exact h1
  · rw [List.mem_append, List.mem_singleton] at hx
    rcases hx with hx | rfl
    · exact h.f x hx
    · exact h2
theorem Lab.Ed.all {A es one : List Lab.L} (h : Lab.Ed A es one) (hA : Lab.Good A) : Lab.set A es = (one, 0) := by
  obtain ⟨s1, s2, s3⟩ := Lab.set_good A es hA h.o h.f
  rw [s1, Lab.right_ext _ one s2.r h.g.r fun n => by rw [s3, h.e]]
theorem Lab.at_one {G : Nat} {y : Lab.L} {W : World} (h : W.heap[G]? = some (.cells #[.string y.n, .string y.v] 36)) : Lab.At (some ⟨G, 0, none⟩) [y] W := by
  refine .inr ⟨G, 0, rfl, fun i hi => ?_⟩
  obtain rfl : i = 0 := by simpa using hi
  exact ⟨by rw [Lib.cell_of_heap h]; rfl, by rw [Lib.cell_of_heap h]; rfl⟩
theorem Lab.fit1 {y : Lab.L} (h : Lab.one y = 0) : Lab.Fit maxLen [y] := fun x hx => by
  rw [List.mem_singleton.1 hx]
  have := Lab.one_fit y h
  unfold maxLen
  omega
theorem openedB {f : FuncId} {args : Array Value} {w : World} {r : List Lab.L} {n B : Nat} {er : Value} (hn : r.length = n) (h : Calls Try.prog f args w fun e w' => (∃ v, e = .returned (.tuple #[v, er]) ∧ OwnLabels B v r w') ∧ Below w.heap.size w w') :
    Calls Try.prog f args w fun e w' => (∃ p c, e = .returned (.tuple #[.slice p n c, er]) ∧ Lab.At p r w' ∧ ∀ ad : Addr, p = some ad → B ≤ ad.block) ∧ Below w.heap.size w w' :=
  h.mono fun e w' ⟨⟨v, he, hv⟩, hb⟩ => by
    have h2 := hv
    obtain ⟨p, c, rfl, hA, _⟩ := OwnLabels.open hv
    rw [hn] at he
    refine ⟨⟨p, c, he, hA, fun ad e => ?_⟩, hb⟩
    subst e
    rcases h2.2 with ⟨e, _⟩ | ⟨g, cap, cur, e, hg, _⟩
    · cases e
    · cases e
      exact hg
theorem Lab.At.grown {p : Option Addr} {ls : List Lab.L} {w w' : World} {o : Obj} {row : Option Nat} (h : Lab.At p ls w) (hg : (w.alloc o).grownBy w' row) (hne : ∀ ad : Addr, p = some ad → row ≠ some ad.block) : Lab.At p ls w' := by
  rcases h with rfl | ⟨b, o1, rfl, hc⟩
  · exact .inl rfl
  · refine .inr ⟨b, o1, rfl, fun i hi => ?_⟩
    have hlt := World.block_lt_of_cell? _ _ (hc i hi).1
    have e : w'.heap[b]? = w.heap[b]? := (hg.block b (by simp; exact Nat.lt_succ_of_lt hlt) (fun e => hne _ rfl e.symm)).trans (Lib.alloc_old w _ b hlt)
    exact ⟨(World.cell?_of_block (a := ⟨b, _, none⟩) e).trans (hc i hi).1, (World.cell?_of_block (a := ⟨b, _, none⟩) e).trans (hc i hi).2⟩
theorem Made.name_at2 (k : Nat) : Made.nameC[k % 16]? = some (.string (Lab.nameL.getD (k % 16) ⟨#[]⟩)) := by
  have h : ∀ i, i < 16 → Made.nameC[i]? = some (.string (Lab.nameL.getD i ⟨#[]⟩)) := by
    intro i hi
    show (Lab.nameL.map Value.string).toArray[i]? = _
    rw [List.getElem?_toArray, List.getElem?_map, List.getD, List.getElem?_eq_getElem (show i < Lab.nameL.length from hi)]
    rfl
  exact h _ (Nat.mod_lt _ (by omega))
/-- what stands where, once it has come up -/
structure Sts.I (B : Nat) (W : World) (X xa xb : Nat) (y : Lab.L) (d : Nat → Bool) (t38 t39 t40 t41 t42 t43 t44 t45 t46 t47 t48 t49 t12 : Value) (w : World) : Prop where
  b : Below B W w
  all : d 13 = true → ∀ j, j < 13 → d j = true
  f0 : d 0 = true → d 13 = false → Made.N t38 w
  f1 : d 1 = true → t39 = .pointer (some ⟨X, 0, none⟩)
  f2 : d 2 = true → t40 = .int .u8 (xa : Int)
  f3 : d 3 = true → t41 = .int .u8 ((xa : Int) % 16)
  f4 : d 4 = true → d 13 = false → Made.NP (xa % 16) t42 w
  f5 : d 5 = true → t43 = .string y.n
  f6 : d 6 = true → t44 = .pointer (some ⟨X, 1, none⟩)
  f7 : d 7 = true → t45 = .int .u8 (xb : Int)
  f8 : d 8 = true → t46 = .int .u8 ((xb : Int) % 3)
  f9 : d 9 = true → t47 = .int .i64 ((xb : Int) % 3)
  f10 : d 10 = true → t48 = .string y.v
  f11 : d 11 = true → t49 = .agg #[.string y.n, .string y.v]
  f12 : d 12 = true → d 13 = false → Made.Z B t12 w
  f13 : d 13 = true → Made.Y B y t12 w
theorem Sts.start (W : World) (X xa xb : Nat) (y : Lab.L) (t38 t39 t40 t41 t42 t43 t44 t45 t46 t47 t48 t49 t12 : Value) : Sts.I W.heap.size W X xa xb y (fun _ => false) t38 t39 t40 t41 t42 t43 t44 t45 t46 t47 t48 t49 t12 W.drew where
  b := (Below.refl _ _).drew
  all := fun q => by cases q
  f0 := fun q => by cases q
  f1 := fun q => by cases q
  f2 := fun q => by cases q
  f3 := fun q => by cases q
  f4 := fun q => by cases q
  f5 := fun q => by cases q
  f6 := fun q => by cases q
  f7 := fun q => by cases q
  f8 := fun q => by cases q
  f9 := fun q => by cases q
  f10 := fun q => by cases q
  f11 := fun q => by cases q
  f12 := fun q => by cases q
  f13 := fun q => by cases q
theorem Sts.I.notlast {B : Nat} {W : World} {X xa xb : Nat} {y : Lab.L} {d : Nat → Bool} {t38 t39 t40 t41 t42 t43 t44 t45 t46 t47 t48 t49 t12 : Value} {w : World} (h : Sts.I B W X xa xb y d t38 t39 t40 t41 t42 t43 t44 t45 t46 t47 t48 t49 t12 w) (i : Nat) (hi : i < 13) (hd : d i = false) : d 13 = false := by
  cases e : d 13 with
  | false => rfl
  | true => rw [h.all e i hi] at hd; cases hd
theorem Sts.s0 {B : Nat} {W : World} {X xa xb : Nat} {y : Lab.L} {d : Nat → Bool} {t38 t39 t40 t41 t42 t43 t44 t45 t46 t47 t48 t49 t12 : Value} {w w2 : World} {n38 : Value} (h : Sts.I B W X xa xb y d t38 t39 t40 t41 t42 t43 t44 t45 t46 t47 t48 t49 t12 w) (hb : Below B w w2) (up : ∀ (g : Nat) (o : Obj), w.heap[g]? = some o → w2.heap[g]? = some o) (hd : d 0 = false) (hn : Made.N n38 w2) : Sts.I B W X xa xb y (fun j => d j || j == 0) n38 t39 t40 t41 t42 t43 t44 t45 t46 t47 t48 t49 t12 w2 where
  b := h.b.trans hb
  all := fun q => absurd (show d 13 = true by simpa using q) (by rw [h.notlast 0 (by omega) hd]; simp)
  f0 := fun _ _ => hn
  f1 := fun q => h.f1 (by simpa using q)
  f2 := fun q => h.f2 (by simpa using q)
  f3 := fun q => h.f3 (by simpa using q)
  f4 := fun q q2 => (h.f4 (by simpa using q) (by simpa using q2)).up up
  f5 := fun q => h.f5 (by simpa using q)
  f6 := fun q => h.f6 (by simpa using q)
  f7 := fun q => h.f7 (by simpa using q)
  f8 := fun q => h.f8 (by simpa using q)
  f9 := fun q => h.f9 (by simpa using q)
  f10 := fun q => h.f10 (by simpa using q)
  f11 := fun q => h.f11 (by simpa using q)
  f12 := fun q q2 => (h.f12 (by simpa using q) (by simpa using q2)).up up
  f13 := fun q => absurd (show d 13 = true by simpa using q) (by rw [h.notlast 0 (by omega) hd]; simp)
theorem Sts.s1 {B : Nat} {W : World} {X xa xb : Nat} {y : Lab.L} {d : Nat → Bool} {t38 t39 t40 t41 t42 t43 t44 t45 t46 t47 t48 t49 t12 : Value} {w : World} {n39 : Value} (h : Sts.I B W X xa xb y d t38 t39 t40 t41 t42 t43 t44 t45 t46 t47 t48 t49 t12 w) (hd : d 1 = false) (hn : n39 = .pointer (some ⟨X, 0, none⟩)) : Sts.I B W X xa xb y (fun j => d j || j == 1) t38 n39 t40 t41 t42 t43 t44 t45 t46 t47 t48 t49 t12 w where
  b := h.b
  all := fun q => absurd (show d 13 = true by simpa using q) (by rw [h.notlast 1 (by omega) hd]; simp)
  f0 := fun q q2 => h.f0 (by simpa using q) (by simpa using q2)
  f1 := fun _ => hn
  f2 := fun q => h.f2 (by simpa using q)
  f3 := fun q => h.f3 (by simpa using q)
  f4 := fun q q2 => h.f4 (by simpa using q) (by simpa using q2)
  f5 := fun q => h.f5 (by simpa using q)
  f6 := fun q => h.f6 (by simpa using q)
  f7 := fun q => h.f7 (by simpa using q)
  f8 := fun q => h.f8 (by simpa using q)
  f9 := fun q => h.f9 (by simpa using q)
  f10 := fun q => h.f10 (by simpa using q)
  f11 := fun q => h.f11 (by simpa using q)
  f12 := fun q q2 => h.f12 (by simpa using q) (by simpa using q2)
  f13 := fun q => absurd (show d 13 = true by simpa using q) (by rw [h.notlast 1 (by omega) hd]; simp)
theorem Sts.s2 {B : Nat} {W : World} {X xa xb : Nat} {y : Lab.L} {d : Nat → Bool} {t38 t39 t40 t41 t42 t43 t44 t45 t46 t47 t48 t49 t12 : Value} {w : World} {n40 : Value} (h : Sts.I B W X xa xb y d t38 t39 t40 t41 t42 t43 t44 t45 t46 t47 t48 t49 t12 w) (hd : d 2 = false) (hn : n40 = .int .u8 (xa : Int)) : Sts.I B W X xa xb y (fun j => d j || j == 2) t38 t39 n40 t41 t42 t43 t44 t45 t46 t47 t48 t49 t12 w where
  b := h.b
  all := fun q => absurd (show d 13 = true by simpa using q) (by rw [h.notlast 2 (by omega) hd]; simp)
  f0 := fun q q2 => h.f0 (by simpa using q) (by simpa using q2)
  f1 := fun q => h.f1 (by simpa using q)
  f2 := fun _ => hn
  f3 := fun q => h.f3 (by simpa using q)
  f4 := fun q q2 => h.f4 (by simpa using q) (by simpa using q2)
  f5 := fun q => h.f5 (by simpa using q)
  f6 := fun q => h.f6 (by simpa using q)
  f7 := fun q => h.f7 (by simpa using q)
  f8 := fun q => h.f8 (by simpa using q)
  f9 := fun q => h.f9 (by simpa using q)
  f10 := fun q => h.f10 (by simpa using q)
  f11 := fun q => h.f11 (by simpa using q)
  f12 := fun q q2 => h.f12 (by simpa using q) (by simpa using q2)
  f13 := fun q => absurd (show d 13 = true by simpa using q) (by rw [h.notlast 2 (by omega) hd]; simp)
theorem Sts.s3 {B : Nat} {W : World} {X xa xb : Nat} {y : Lab.L} {d : Nat → Bool} {t38 t39 t40 t41 t42 t43 t44 t45 t46 t47 t48 t49 t12 : Value} {w : World} {n41 : Value} (h : Sts.I B W X xa xb y d t38 t39 t40 t41 t42 t43 t44 t45 t46 t47 t48 t49 t12 w) (hd : d 3 = false) (hn : n41 = .int .u8 ((xa : Int) % 16)) : Sts.I B W X xa xb y (fun j => d j || j == 3) t38 t39 t40 n41 t42 t43 t44 t45 t46 t47 t48 t49 t12 w where
  b := h.b
  all := fun q => absurd (show d 13 = true by simpa using q) (by rw [h.notlast 3 (by omega) hd]; simp)
  f0 := fun q q2 => h.f0 (by simpa using q) (by simpa using q2)
  f1 := fun q => h.f1 (by simpa using q)
  f2 := fun q => h.f2 (by simpa using q)
  f3 := fun _ => hn
  f4 := fun q q2 => h.f4 (by simpa using q) (by simpa using q2)
  f5 := fun q => h.f5 (by simpa using q)
  f6 := fun q => h.f6 (by simpa using q)
  f7 := fun q => h.f7 (by simpa using q)
  f8 := fun q => h.f8 (by simpa using q)
  f9 := fun q => h.f9 (by simpa using q)
  f10 := fun q => h.f10 (by simpa using q)
  f11 := fun q => h.f11 (by simpa using q)
  f12 := fun q q2 => h.f12 (by simpa using q) (by simpa using q2)
  f13 := fun q => absurd (show d 13 = true by simpa using q) (by rw [h.notlast 3 (by omega) hd]; simp)
theorem Sts.s4 {B : Nat} {W : World} {X xa xb : Nat} {y : Lab.L} {d : Nat → Bool} {t38 t39 t40 t41 t42 t43 t44 t45 t46 t47 t48 t49 t12 : Value} {w : World} {n42 : Value} (h : Sts.I B W X xa xb y d t38 t39 t40 t41 t42 t43 t44 t45 t46 t47 t48 t49 t12 w) (hd : d 4 = false) (hn : Made.NP (xa % 16) n42 w) : Sts.I B W X xa xb y (fun j => d j || j == 4) t38 t39 t40 t41 n42 t43 t44 t45 t46 t47 t48 t49 t12 w where
  b := h.b
  all := fun q => absurd (show d 13 = true by simpa using q) (by rw [h.notlast 4 (by omega) hd]; simp)
  f0 := fun q q2 => h.f0 (by simpa using q) (by simpa using q2)
  f1 := fun q => h.f1 (by simpa using q)
  f2 := fun q => h.f2 (by simpa using q)
  f3 := fun q => h.f3 (by simpa using q)
  f4 := fun _ _ => hn
  f5 := fun q => h.f5 (by simpa using q)
  f6 := fun q => h.f6 (by simpa using q)
  f7 := fun q => h.f7 (by simpa using q)
  f8 := fun q => h.f8 (by simpa using q)
  f9 := fun q => h.f9 (by simpa using q)
  f10 := fun q => h.f10 (by simpa using q)
  f11 := fun q => h.f11 (by simpa using q)
  f12 := fun q q2 => h.f12 (by simpa using q) (by simpa using q2)
  f13 := fun q => absurd (show d 13 = true by simpa using q) (by rw [h.notlast 4 (by omega) hd]; simp)
theorem Sts.s5 {B : Nat} {W : World} {X xa xb : Nat} {y : Lab.L} {d : Nat → Bool} {t38 t39 t40 t41 t42 t43 t44 t45 t46 t47 t48 t49 t12 : Value} {w : World} {n43 : Value} (h : Sts.I B W X xa xb y d t38 t39 t40 t41 t42 t43 t44 t45 t46 t47 t48 t49 t12 w) (hd : d 5 = false) (hn : n43 = .string y.n) : Sts.I B W X xa xb y (fun j => d j || j == 5) t38 t39 t40 t41 t42 n43 t44 t45 t46 t47 t48 t49 t12 w where
  b := h.b
  all := fun q => absurd (show d 13 = true by simpa using q) (by rw [h.notlast 5 (by omega) hd]; simp)
  f0 := fun q q2 => h.f0 (by simpa using q) (by simpa using q2)
  f1 := fun q => h.f1 (by simpa using q)
  f2 := fun q => h.f2 (by simpa using q)
  f3 := fun q => h.f3 (by simpa using q)
  f4 := fun q q2 => h.f4 (by simpa using q) (by simpa using q2)
  f5 := fun _ => hn
  f6 := fun q => h.f6 (by simpa using q)
  f7 := fun q => h.f7 (by simpa using q)
  f8 := fun q => h.f8 (by simpa using q)
  f9 := fun q => h.f9 (by simpa using q)
  f10 := fun q => h.f10 (by simpa using q)
  f11 := fun q => h.f11 (by simpa using q)
  f12 := fun q q2 => h.f12 (by simpa using q) (by simpa using q2)
  f13 := fun q => absurd (show d 13 = true by simpa using q) (by rw [h.notlast 5 (by omega) hd]; simp)
theorem Sts.s6 {B : Nat} {W : World} {X xa xb : Nat} {y : Lab.L} {d : Nat → Bool} {t38 t39 t40 t41 t42 t43 t44 t45 t46 t47 t48 t49 t12 : Value} {w : World} {n44 : Value} (h : Sts.I B W X xa xb y d t38 t39 t40 t41 t42 t43 t44 t45 t46 t47 t48 t49 t12 w) (hd : d 6 = false) (hn : n44 = .pointer (some ⟨X, 1, none⟩)) : Sts.I B W X xa xb y (fun j => d j || j == 6) t38 t39 t40 t41 t42 t43 n44 t45 t46 t47 t48 t49 t12 w where
  b := h.b
  all := fun q => absurd (show d 13 = true by simpa using q) (by rw [h.notlast 6 (by omega) hd]; simp)
  f0 := fun q q2 => h.f0 (by simpa using q) (by simpa using q2)
  f1 := fun q => h.f1 (by simpa using q)
  f2 := fun q => h.f2 (by simpa using q)
  f3 := fun q => h.f3 (by simpa using q)
  f4 := fun q q2 => h.f4 (by simpa using q) (by simpa using q2)
  f5 := fun q => h.f5 (by simpa using q)
  f6 := fun _ => hn
  f7 := fun q => h.f7 (by simpa using q)
  f8 := fun q => h.f8 (by simpa using q)
  f9 := fun q => h.f9 (by simpa using q)
  f10 := fun q => h.f10 (by simpa using q)
  f11 := fun q => h.f11 (by simpa using q)
  f12 := fun q q2 => h.f12 (by simpa using q) (by simpa using q2)
  f13 := fun q => absurd (show d 13 = true by simpa using q) (by rw [h.notlast 6 (by omega) hd]; simp)
theorem Sts.s7 {B : Nat} {W : World} {X xa xb : Nat} {y : Lab.L} {d : Nat → Bool} {t38 t39 t40 t41 t42 t43 t44 t45 t46 t47 t48 t49 t12 : Value} {w : World} {n45 : Value} (h : Sts.I B W X xa xb y d t38 t39 t40 t41 t42 t43 t44 t45 t46 t47 t48 t49 t12 w) (hd : d 7 = false) (hn : n45 = .int .u8 (xb : Int)) : Sts.I B W X xa xb y (fun j => d j || j == 7) t38 t39 t40 t41 t42 t43 t44 n45 t46 t47 t48 t49 t12 w where
  b := h.b
  all := fun q => absurd (show d 13 = true by simpa using q) (by rw [h.notlast 7 (by omega) hd]; simp)
  f0 := fun q q2 => h.f0 (by simpa using q) (by simpa using q2)
  f1 := fun q => h.f1 (by simpa using q)
  f2 := fun q => h.f2 (by simpa using q)
  f3 := fun q => h.f3 (by simpa using q)
  f4 := fun q q2 => h.f4 (by simpa using q) (by simpa using q2)
  f5 := fun q => h.f5 (by simpa using q)
  f6 := fun q => h.f6 (by simpa using q)
  f7 := fun _ => hn
  f8 := fun q => h.f8 (by simpa using q)
  f9 := fun q => h.f9 (by simpa using q)
  f10 := fun q => h.f10 (by simpa using q)
  f11 := fun q => h.f11 (by simpa using q)
  f12 := fun q q2 => h.f12 (by simpa using q) (by simpa using q2)
  f13 := fun q => absurd (show d 13 = true by simpa using q) (by rw [h.notlast 7 (by omega) hd]; simp)
theorem Sts.s8 {B : Nat} {W : World} {X xa xb : Nat} {y : Lab.L} {d : Nat → Bool} {t38 t39 t40 t41 t42 t43 t44 t45 t46 t47 t48 t49 t12 : Value} {w : World} {n46 : Value} (h : Sts.I B W X xa xb y d t38 t39 t40 t41 t42 t43 t44 t45 t46 t47 t48 t49 t12 w) (hd : d 8 = false) (hn : n46 = .int .u8 ((xb : Int) % 3)) : Sts.I B W X xa xb y (fun j => d j || j == 8) t38 t39 t40 t41 t42 t43 t44 t45 n46 t47 t48 t49 t12 w where
  b := h.b
  all := fun q => absurd (show d 13 = true by simpa using q) (by rw [h.notlast 8 (by omega) hd]; simp)
  f0 := fun q q2 => h.f0 (by simpa using q) (by simpa using q2)
  f1 := fun q => h.f1 (by simpa using q)
  f2 := fun q => h.f2 (by simpa using q)
  f3 := fun q => h.f3 (by simpa using q)
  f4 := fun q q2 => h.f4 (by simpa using q) (by simpa using q2)
  f5 := fun q => h.f5 (by simpa using q)
  f6 := fun q => h.f6 (by simpa using q)
  f7 := fun q => h.f7 (by simpa using q)
  f8 := fun _ => hn
  f9 := fun q => h.f9 (by simpa using q)
  f10 := fun q => h.f10 (by simpa using q)
  f11 := fun q => h.f11 (by simpa using q)
  f12 := fun q q2 => h.f12 (by simpa using q) (by simpa using q2)
  f13 := fun q => absurd (show d 13 = true by simpa using q) (by rw [h.notlast 8 (by omega) hd]; simp)
theorem Sts.s9 {B : Nat} {W : World} {X xa xb : Nat} {y : Lab.L} {d : Nat → Bool} {t38 t39 t40 t41 t42 t43 t44 t45 t46 t47 t48 t49 t12 : Value} {w : World} {n47 : Value} (h : Sts.I B W X xa xb y d t38 t39 t40 t41 t42 t43 t44 t45 t46 t47 t48 t49 t12 w) (hd : d 9 = false) (hn : n47 = .int .i64 ((xb : Int) % 3)) : Sts.I B W X xa xb y (fun j => d j || j == 9) t38 t39 t40 t41 t42 t43 t44 t45 t46 n47 t48 t49 t12 w where
  b := h.b
  all := fun q => absurd (show d 13 = true by simpa using q) (by rw [h.notlast 9 (by omega) hd]; simp)
  f0 := fun q q2 => h.f0 (by simpa using q) (by simpa using q2)
  f1 := fun q => h.f1 (by simpa using q)
  f2 := fun q => h.f2 (by simpa using q)
  f3 := fun q => h.f3 (by simpa using q)
  f4 := fun q q2 => h.f4 (by simpa using q) (by simpa using q2)
  f5 := fun q => h.f5 (by simpa using q)
  f6 := fun q => h.f6 (by simpa using q)
  f7 := fun q => h.f7 (by simpa using q)
  f8 := fun q => h.f8 (by simpa using q)
  f9 := fun _ => hn
  f10 := fun q => h.f10 (by simpa using q)
  f11 := fun q => h.f11 (by simpa using q)
  f12 := fun q q2 => h.f12 (by simpa using q) (by simpa using q2)
  f13 := fun q => absurd (show d 13 = true by simpa using q) (by rw [h.notlast 9 (by omega) hd]; simp)
theorem Sts.s10 {B : Nat} {W : World} {X xa xb : Nat} {y : Lab.L} {d : Nat → Bool} {t38 t39 t40 t41 t42 t43 t44 t45 t46 t47 t48 t49 t12 : Value} {w w2 : World} {n48 : Value} (h : Sts.I B W X xa xb y d t38 t39 t40 t41 t42 t43 t44 t45 t46 t47 t48 t49 t12 w) (hb : Below B w w2) (up : ∀ (g : Nat) (o : Obj), w.heap[g]? = some o → w2.heap[g]? = some o) (hd : d 10 = false) (hn : n48 = .string y.v) : Sts.I B W X xa xb y (fun j => d j || j == 10) t38 t39 t40 t41 t42 t43 t44 t45 t46 t47 n48 t49 t12 w2 where
  b := h.b.trans hb
  all := fun q => absurd (show d 13 = true by simpa using q) (by rw [h.notlast 10 (by omega) hd]; simp)
  f0 := fun q q2 => (h.f0 (by simpa using q) (by simpa using q2)).up up
  f1 := fun q => h.f1 (by simpa using q)
  f2 := fun q => h.f2 (by simpa using q)
  f3 := fun q => h.f3 (by simpa using q)
  f4 := fun q q2 => (h.f4 (by simpa using q) (by simpa using q2)).up up
  f5 := fun q => h.f5 (by simpa using q)
  f6 := fun q => h.f6 (by simpa using q)
  f7 := fun q => h.f7 (by simpa using q)
  f8 := fun q => h.f8 (by simpa using q)
  f9 := fun q => h.f9 (by simpa using q)
  f10 := fun _ => hn
  f11 := fun q => h.f11 (by simpa using q)
  f12 := fun q q2 => (h.f12 (by simpa using q) (by simpa using q2)).up up
  f13 := fun q => absurd (show d 13 = true by simpa using q) (by rw [h.notlast 10 (by omega) hd]; simp)
theorem Sts.s11 {B : Nat} {W : World} {X xa xb : Nat} {y : Lab.L} {d : Nat → Bool} {t38 t39 t40 t41 t42 t43 t44 t45 t46 t47 t48 t49 t12 : Value} {w : World} {n49 : Value} (h : Sts.I B W X xa xb y d t38 t39 t40 t41 t42 t43 t44 t45 t46 t47 t48 t49 t12 w) (hd : d 11 = false) (hn : n49 = .agg #[.string y.n, .string y.v]) : Sts.I B W X xa xb y (fun j => d j || j == 11) t38 t39 t40 t41 t42 t43 t44 t45 t46 t47 t48 n49 t12 w where
  b := h.b
  all := fun q => absurd (show d 13 = true by simpa using q) (by rw [h.notlast 11 (by omega) hd]; simp)
  f0 := fun q q2 => h.f0 (by simpa using q) (by simpa using q2)
  f1 := fun q => h.f1 (by simpa using q)
  f2 := fun q => h.f2 (by simpa using q)
  f3 := fun q => h.f3 (by simpa using q)
  f4 := fun q q2 => h.f4 (by simpa using q) (by simpa using q2)
  f5 := fun q => h.f5 (by simpa using q)
  f6 := fun q => h.f6 (by simpa using q)
  f7 := fun q => h.f7 (by simpa using q)
  f8 := fun q => h.f8 (by simpa using q)
  f9 := fun q => h.f9 (by simpa using q)
  f10 := fun q => h.f10 (by simpa using q)
  f11 := fun _ => hn
  f12 := fun q q2 => h.f12 (by simpa using q) (by simpa using q2)
  f13 := fun q => absurd (show d 13 = true by simpa using q) (by rw [h.notlast 11 (by omega) hd]; simp)
theorem Sts.s12 {B : Nat} {W : World} {X xa xb : Nat} {y : Lab.L} {d : Nat → Bool} {t38 t39 t40 t41 t42 t43 t44 t45 t46 t47 t48 t49 t12 : Value} {w w2 : World} {n12 : Value} (h : Sts.I B W X xa xb y d t38 t39 t40 t41 t42 t43 t44 t45 t46 t47 t48 t49 t12 w) (hb : Below B w w2) (up : ∀ (g : Nat) (o : Obj), w.heap[g]? = some o → w2.heap[g]? = some o) (hd : d 12 = false) (hn : Made.Z B n12 w2) : Sts.I B W X xa xb y (fun j => d j || j == 12) t38 t39 t40 t41 t42 t43 t44 t45 t46 t47 t48 t49 n12 w2 where
  b := h.b.trans hb
  all := fun q => absurd (show d 13 = true by simpa using q) (by rw [h.notlast 12 (by omega) hd]; simp)
  f0 := fun q q2 => (h.f0 (by simpa using q) (by simpa using q2)).up up
  f1 := fun q => h.f1 (by simpa using q)
  f2 := fun q => h.f2 (by simpa using q)
  f3 := fun q => h.f3 (by simpa using q)
  f4 := fun q q2 => (h.f4 (by simpa using q) (by simpa using q2)).up up
  f5 := fun q => h.f5 (by simpa using q)
  f6 := fun q => h.f6 (by simpa using q)
  f7 := fun q => h.f7 (by simpa using q)
  f8 := fun q => h.f8 (by simpa using q)
  f9 := fun q => h.f9 (by simpa using q)
  f10 := fun q => h.f10 (by simpa using q)
  f11 := fun q => h.f11 (by simpa using q)
  f12 := fun _ _ => hn
  f13 := fun q => absurd (show d 13 = true by simpa using q) (by rw [h.notlast 12 (by omega) hd]; simp)
theorem Sts.s13 {B : Nat} {W : World} {X xa xb : Nat} {y : Lab.L} {d : Nat → Bool} {t38 t39 t40 t41 t42 t43 t44 t45 t46 t47 t48 t49 t12 : Value} {w w2 : World} (h : Sts.I B W X xa xb y d t38 t39 t40 t41 t42 t43 t44 t45 t46 t47 t48 t49 t12 w) (hb : Below B w w2) (hall : ∀ j, j < 13 → d j = true) (hn : Made.Y B y t12 w2) : Sts.I B W X xa xb y (fun j => d j || j == 13) t38 t39 t40 t41 t42 t43 t44 t45 t46 t47 t48 t49 t12 w2 where
  b := h.b.trans hb
  all := fun _ j hj => by simp [hall j hj]
  f0 := fun _ q2 => absurd q2 (by simp)
  f1 := fun q => h.f1 (by simpa using q)
  f2 := fun q => h.f2 (by simpa using q)
  f3 := fun q => h.f3 (by simpa using q)
  f4 := fun _ q2 => absurd q2 (by simp)
  f5 := fun q => h.f5 (by simpa using q)
  f6 := fun q => h.f6 (by simpa using q)
  f7 := fun q => h.f7 (by simpa using q)
  f8 := fun q => h.f8 (by simpa using q)
  f9 := fun q => h.f9 (by simpa using q)
  f10 := fun q => h.f10 (by simpa using q)
  f11 := fun q => h.f11 (by simpa using q)
  f12 := fun _ q2 => absurd q2 (by simp)
  f13 := fun _ => hn

end Go.Proofs.Ytflmojjpdmbnaaa
