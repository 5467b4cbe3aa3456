/- The invariant of a region of CanonWrong that draws its order (printed by gen_inv3.py). -/
import Derived.Test.YthnaninhbofeoaaGreatDoorFst
import Derived.Test.YthnaninhbofeoaaGreatDoorReg
namespace Go.Proofs.YthnaninhbofeoaaGreatDoor
open Go.RowKit

/-- an empty slice of targets that was made -/
def Wr.E (B : Nat) (t : Value) (w : World) : Prop := ∃ g, t = .slice (some ⟨g, 0, none⟩) 0 0 ∧ B ≤ g ∧ w.heap[g]? = some (.cells #[] 37)
/-- a target in its box -/
def Wr.X (b : Can.T) (t : Value) (w : World) : Prop := ∃ g, t = .slice (some ⟨g, 0, none⟩) 1 1 ∧ w.heap[g]? = some (.cells #[.string b.job, .slice b.p b.n b.c] 37)
theorem Wr.E.alloc {B : Nat} {t : Value} {w : World} (h : Wr.E B t w) (o : Obj) : Wr.E B t (w.alloc o) := by
  obtain ⟨g, h1, h2, h3⟩ := h
  exact ⟨g, h1, h2, (Below.heap_alloc _ _ _ (lt_of_heap h3)).trans h3⟩
theorem Wr.X.alloc {b : Can.T} {t : Value} {w : World} (h : Wr.X b t w) (o : Obj) : Wr.X b t (w.alloc o) := by
  obtain ⟨g, h1, h3⟩ := h
  exact ⟨g, h1, (Below.heap_alloc _ _ _ (lt_of_heap h3)).trans h3⟩
theorem Wr.E.row {B : Nat} {t : Value} {w : World} (h : Wr.E B t w) : RowTs B t [] w := by
  obtain ⟨g, rfl, h2, h3⟩ := h
  exact ⟨rfl, .inr ⟨g, 0, #[], rfl, h2, h3, Nat.le_refl _, Nat.zero_le _, rfl, rfl⟩⟩
/-- the box stays while the other slice grows -/
theorem Wr.X.grown {B : Nat} {b : Can.T} {t t9 : Value} {w w' : World} (h : Wr.X b t w) (h9 : Wr.E B t9 w) (hg : w.grownBy w' t9.ownBlock) : Wr.X b t w' := by
  obtain ⟨g, h1, h3⟩ := h
  obtain ⟨g9, rfl, _, h4⟩ := h9
  refine ⟨g, h1, (hg.block g (lt_of_heap h3) (fun e => ?_)).trans h3⟩
  simp [Value.ownBlock] at e
  subst e
  rw [h4] at h3
  simp at h3
/-- what stands where, once it has come up -/
structure Wr.I (B : Nat) (W : World) (v s1 s2 : Value) (k : Nat) (bad : Can.T) (l1 l3 : List Can.T) (d : Nat → Bool) (t99 t100 t101 t102 t103 t104 t105 t106 t107 t108 t109 t110 t18 : Value) (w : World) : Prop where
  b : Below B W w
  c4_0 : d 4 = true → d 0 = true
  c7_0 : d 7 = true → d 0 = true
  c7_4 : d 7 = true → d 4 = true
  c7_6 : d 7 = true → d 6 = true
  c11_0 : d 11 = true → d 0 = true
  c11_4 : d 11 = true → d 4 = true
  c11_6 : d 11 = true → d 6 = true
  c11_7 : d 11 = true → d 7 = true
  c12_0 : d 12 = true → d 0 = true
  c12_4 : d 12 = true → d 4 = true
  c12_6 : d 12 = true → d 6 = true
  c12_7 : d 12 = true → d 7 = true
  c12_11 : d 12 = true → d 11 = true
  f0 : d 0 = true → d 4 = false → Wr.E B t99 w
  f1 : d 1 = true → t100 = v
  f2 : d 2 = true → t101 = .int .i64 (k : Int)
  f3 : d 3 = true → t102 = s1
  f4 : d 4 = true → d 7 = false → RowTs B t103 ([] ++ l1) w
  f5 : d 5 = true → t104 = .agg #[.string bad.job, .slice bad.p bad.n bad.c]
  f6 : d 6 = true → d 7 = false → Wr.X bad t105 w
  f7 : d 7 = true → d 11 = false → RowTs B t106 ([] ++ l1 ++ [bad]) w
  f8 : d 8 = true → t107 = v
  f9 : d 9 = true → t108 = .int .i64 (k : Int)
  f10 : d 10 = true → t109 = s2
  f11 : d 11 = true → RowTs B t110 ([] ++ l1 ++ [bad] ++ l3) w
  f12 : d 12 = true → t18 = t110
theorem Wr.start (W : World) (v s1 s2 : Value) (k : Nat) (bad : Can.T) (l1 l3 : List Can.T) (t99 t100 t101 t102 t103 t104 t105 t106 t107 t108 t109 t110 t18 : Value) : Wr.I W.heap.size W v s1 s2 k bad l1 l3 (fun _ => false) t99 t100 t101 t102 t103 t104 t105 t106 t107 t108 t109 t110 t18 W.drew where
  b := (Below.refl _ _).drew
  c4_0 := fun q => by cases q
  c7_0 := fun q => by cases q
  c7_4 := fun q => by cases q
  c7_6 := fun q => by cases q
  c11_0 := fun q => by cases q
  c11_4 := fun q => by cases q
  c11_6 := fun q => by cases q
  c11_7 := fun q => by cases q
  c12_0 := fun q => by cases q
  c12_4 := fun q => by cases q
  c12_6 := fun q => by cases q
  c12_7 := fun q => by cases q
  c12_11 := fun q => by cases q
  f0 := fun q => by cases q
  f1 := fun q => by cases q
  f2 := fun q => by cases q
  f3 := fun q => by cases q
  f4 := fun q => by cases q
  f5 := fun q => by cases q
  f6 := fun q => by cases q
  f7 := fun q => by cases q
  f8 := fun q => by cases q
  f9 := fun q => by cases q
  f10 := fun q => by cases q
  f11 := fun q => by cases q
  f12 := fun q => by cases q
theorem Wr.s0 {B : Nat} {W : World} {v s1 s2 : Value} {k : Nat} {bad : Can.T} {l1 l3 : List Can.T} {d : Nat → Bool} {t99 t100 t101 t102 t103 t104 t105 t106 t107 t108 t109 t110 t18 : Value} {w w2 : World} {n99 : Value} (h : Wr.I B W v s1 s2 k bad l1 l3 d t99 t100 t101 t102 t103 t104 t105 t106 t107 t108 t109 t110 t18 w) (hb : Below B w w2) (up6 : Wr.X bad t105 w → Wr.X bad t105 w2) (hd : d 0 = false) (hn : Wr.E B n99 w2) : Wr.I B W v s1 s2 k bad l1 l3 (fun j => d j || j == 0) n99 t100 t101 t102 t103 t104 t105 t106 t107 t108 t109 t110 t18 w2 where
  b := h.b.trans hb
  c4_0 := fun _ => by simp
  c7_0 := fun _ => by simp
  c7_4 := fun q => by have := h.c7_4 (by simpa using q); simp [this]
  c7_6 := fun q => by have := h.c7_6 (by simpa using q); simp [this]
  c11_0 := fun _ => by simp
  c11_4 := fun q => by have := h.c11_4 (by simpa using q); simp [this]
  c11_6 := fun q => by have := h.c11_6 (by simpa using q); simp [this]
  c11_7 := fun q => by have := h.c11_7 (by simpa using q); simp [this]
  c12_0 := fun _ => by simp
  c12_4 := fun q => by have := h.c12_4 (by simpa using q); simp [this]
  c12_6 := fun q => by have := h.c12_6 (by simpa using q); simp [this]
  c12_7 := fun q => by have := h.c12_7 (by simpa using q); simp [this]
  c12_11 := fun q => by have := h.c12_11 (by simpa using q); simp [this]
  f0 := fun _ _ => hn
  f1 := fun q => h.f1 (by simpa using q)
  f2 := fun q => h.f2 (by simpa using q)
  f3 := fun q => h.f3 (by simpa using q)
  f4 := fun q => absurd (h.c4_0 (by simpa using q)) (by rw [hd]; simp)
  f5 := fun q => h.f5 (by simpa using q)
  f6 := fun q q2 => up6 (h.f6 (by simpa using q) (by simpa using q2))
  f7 := fun q => absurd (h.c7_0 (by simpa using q)) (by rw [hd]; simp)
  f8 := fun q => h.f8 (by simpa using q)
  f9 := fun q => h.f9 (by simpa using q)
  f10 := fun q => h.f10 (by simpa using q)
  f11 := fun q => absurd (h.c11_0 (by simpa using q)) (by rw [hd]; simp)
  f12 := fun q => absurd (h.c12_0 (by simpa using q)) (by rw [hd]; simp)
theorem Wr.s1 {B : Nat} {W : World} {v s1 s2 : Value} {k : Nat} {bad : Can.T} {l1 l3 : List Can.T} {d : Nat → Bool} {t99 t100 t101 t102 t103 t104 t105 t106 t107 t108 t109 t110 t18 : Value} {w : World} {n100 : Value} (h : Wr.I B W v s1 s2 k bad l1 l3 d t99 t100 t101 t102 t103 t104 t105 t106 t107 t108 t109 t110 t18 w) (_hd : d 1 = false) (hn : n100 = v) : Wr.I B W v s1 s2 k bad l1 l3 (fun j => d j || j == 1) t99 n100 t101 t102 t103 t104 t105 t106 t107 t108 t109 t110 t18 w where
  b := h.b
  c4_0 := fun q => by have := h.c4_0 (by simpa using q); simp [this]
  c7_0 := fun q => by have := h.c7_0 (by simpa using q); simp [this]
  c7_4 := fun q => by have := h.c7_4 (by simpa using q); simp [this]
  c7_6 := fun q => by have := h.c7_6 (by simpa using q); simp [this]
  c11_0 := fun q => by have := h.c11_0 (by simpa using q); simp [this]
  c11_4 := fun q => by have := h.c11_4 (by simpa using q); simp [this]
  c11_6 := fun q => by have := h.c11_6 (by simpa using q); simp [this]
  c11_7 := fun q => by have := h.c11_7 (by simpa using q); simp [this]
  c12_0 := fun q => by have := h.c12_0 (by simpa using q); simp [this]
  c12_4 := fun q => by have := h.c12_4 (by simpa using q); simp [this]
  c12_6 := fun q => by have := h.c12_6 (by simpa using q); simp [this]
  c12_7 := fun q => by have := h.c12_7 (by simpa using q); simp [this]
  c12_11 := fun q => by have := h.c12_11 (by simpa using q); simp [this]
  f0 := fun q q2 => h.f0 (by simpa using q) (by simpa using q2)
  f1 := fun _ => hn
  f2 := fun q => h.f2 (by simpa using q)
  f3 := fun q => h.f3 (by simpa using q)
  f4 := fun q q2 => h.f4 (by simpa using q) (by simpa using q2)
  f5 := fun q => h.f5 (by simpa using q)
  f6 := fun q q2 => h.f6 (by simpa using q) (by simpa using q2)
  f7 := fun q q2 => h.f7 (by simpa using q) (by simpa using q2)
  f8 := fun q => h.f8 (by simpa using q)
  f9 := fun q => h.f9 (by simpa using q)
  f10 := fun q => h.f10 (by simpa using q)
  f11 := fun q => h.f11 (by simpa using q)
  f12 := fun q => h.f12 (by simpa using q)
theorem Wr.s2 {B : Nat} {W : World} {v s1 s2 : Value} {k : Nat} {bad : Can.T} {l1 l3 : List Can.T} {d : Nat → Bool} {t99 t100 t101 t102 t103 t104 t105 t106 t107 t108 t109 t110 t18 : Value} {w : World} {n101 : Value} (h : Wr.I B W v s1 s2 k bad l1 l3 d t99 t100 t101 t102 t103 t104 t105 t106 t107 t108 t109 t110 t18 w) (_hd : d 2 = false) (hn : n101 = .int .i64 (k : Int)) : Wr.I B W v s1 s2 k bad l1 l3 (fun j => d j || j == 2) t99 t100 n101 t102 t103 t104 t105 t106 t107 t108 t109 t110 t18 w where
  b := h.b
  c4_0 := fun q => by have := h.c4_0 (by simpa using q); simp [this]
  c7_0 := fun q => by have := h.c7_0 (by simpa using q); simp [this]
  c7_4 := fun q => by have := h.c7_4 (by simpa using q); simp [this]
  c7_6 := fun q => by have := h.c7_6 (by simpa using q); simp [this]
  c11_0 := fun q => by have := h.c11_0 (by simpa using q); simp [this]
  c11_4 := fun q => by have := h.c11_4 (by simpa using q); simp [this]
  c11_6 := fun q => by have := h.c11_6 (by simpa using q); simp [this]
  c11_7 := fun q => by have := h.c11_7 (by simpa using q); simp [this]
  c12_0 := fun q => by have := h.c12_0 (by simpa using q); simp [this]
  c12_4 := fun q => by have := h.c12_4 (by simpa using q); simp [this]
  c12_6 := fun q => by have := h.c12_6 (by simpa using q); simp [this]
  c12_7 := fun q => by have := h.c12_7 (by simpa using q); simp [this]
  c12_11 := fun q => by have := h.c12_11 (by simpa using q); simp [this]
  f0 := fun q q2 => h.f0 (by simpa using q) (by simpa using q2)
  f1 := fun q => h.f1 (by simpa using q)
  f2 := fun _ => hn
  f3 := fun q => h.f3 (by simpa using q)
  f4 := fun q q2 => h.f4 (by simpa using q) (by simpa using q2)
  f5 := fun q => h.f5 (by simpa using q)
  f6 := fun q q2 => h.f6 (by simpa using q) (by simpa using q2)
  f7 := fun q q2 => h.f7 (by simpa using q) (by simpa using q2)
  f8 := fun q => h.f8 (by simpa using q)
  f9 := fun q => h.f9 (by simpa using q)
  f10 := fun q => h.f10 (by simpa using q)
  f11 := fun q => h.f11 (by simpa using q)
  f12 := fun q => h.f12 (by simpa using q)
theorem Wr.s3 {B : Nat} {W : World} {v s1 s2 : Value} {k : Nat} {bad : Can.T} {l1 l3 : List Can.T} {d : Nat → Bool} {t99 t100 t101 t102 t103 t104 t105 t106 t107 t108 t109 t110 t18 : Value} {w : World} {n102 : Value} (h : Wr.I B W v s1 s2 k bad l1 l3 d t99 t100 t101 t102 t103 t104 t105 t106 t107 t108 t109 t110 t18 w) (_hd : d 3 = false) (hn : n102 = s1) : Wr.I B W v s1 s2 k bad l1 l3 (fun j => d j || j == 3) t99 t100 t101 n102 t103 t104 t105 t106 t107 t108 t109 t110 t18 w where
  b := h.b
  c4_0 := fun q => by have := h.c4_0 (by simpa using q); simp [this]
  c7_0 := fun q => by have := h.c7_0 (by simpa using q); simp [this]
  c7_4 := fun q => by have := h.c7_4 (by simpa using q); simp [this]
  c7_6 := fun q => by have := h.c7_6 (by simpa using q); simp [this]
  c11_0 := fun q => by have := h.c11_0 (by simpa using q); simp [this]
  c11_4 := fun q => by have := h.c11_4 (by simpa using q); simp [this]
  c11_6 := fun q => by have := h.c11_6 (by simpa using q); simp [this]
  c11_7 := fun q => by have := h.c11_7 (by simpa using q); simp [this]
  c12_0 := fun q => by have := h.c12_0 (by simpa using q); simp [this]
  c12_4 := fun q => by have := h.c12_4 (by simpa using q); simp [this]
  c12_6 := fun q => by have := h.c12_6 (by simpa using q); simp [this]
  c12_7 := fun q => by have := h.c12_7 (by simpa using q); simp [this]
  c12_11 := fun q => by have := h.c12_11 (by simpa using q); simp [this]
  f0 := fun q q2 => h.f0 (by simpa using q) (by simpa using q2)
  f1 := fun q => h.f1 (by simpa using q)
  f2 := fun q => h.f2 (by simpa using q)
  f3 := fun _ => hn
  f4 := fun q q2 => h.f4 (by simpa using q) (by simpa using q2)
  f5 := fun q => h.f5 (by simpa using q)
  f6 := fun q q2 => h.f6 (by simpa using q) (by simpa using q2)
  f7 := fun q q2 => h.f7 (by simpa using q) (by simpa using q2)
  f8 := fun q => h.f8 (by simpa using q)
  f9 := fun q => h.f9 (by simpa using q)
  f10 := fun q => h.f10 (by simpa using q)
  f11 := fun q => h.f11 (by simpa using q)
  f12 := fun q => h.f12 (by simpa using q)
theorem Wr.s4 {B : Nat} {W : World} {v s1 s2 : Value} {k : Nat} {bad : Can.T} {l1 l3 : List Can.T} {d : Nat → Bool} {t99 t100 t101 t102 t103 t104 t105 t106 t107 t108 t109 t110 t18 : Value} {w w2 : World} {n103 : Value} (h : Wr.I B W v s1 s2 k bad l1 l3 d t99 t100 t101 t102 t103 t104 t105 t106 t107 t108 t109 t110 t18 w) (hb : Below B w w2) (up6 : Wr.X bad t105 w → Wr.X bad t105 w2) (hd : d 4 = false) (ha0 : d 0 = true) (hn : RowTs B n103 ([] ++ l1) w2) : Wr.I B W v s1 s2 k bad l1 l3 (fun j => d j || j == 4) t99 t100 t101 t102 n103 t104 t105 t106 t107 t108 t109 t110 t18 w2 where
  b := h.b.trans hb
  c4_0 := fun _ => by simp [ha0]
  c7_0 := fun q => by have := h.c7_0 (by simpa using q); simp [this]
  c7_4 := fun _ => by simp
  c7_6 := fun q => by have := h.c7_6 (by simpa using q); simp [this]
  c11_0 := fun q => by have := h.c11_0 (by simpa using q); simp [this]
  c11_4 := fun _ => by simp
  c11_6 := fun q => by have := h.c11_6 (by simpa using q); simp [this]
  c11_7 := fun q => by have := h.c11_7 (by simpa using q); simp [this]
  c12_0 := fun q => by have := h.c12_0 (by simpa using q); simp [this]
  c12_4 := fun _ => by simp
  c12_6 := fun q => by have := h.c12_6 (by simpa using q); simp [this]
  c12_7 := fun q => by have := h.c12_7 (by simpa using q); simp [this]
  c12_11 := fun q => by have := h.c12_11 (by simpa using q); simp [this]
  f0 := fun _ q2 => absurd q2 (by simp)
  f1 := fun q => h.f1 (by simpa using q)
  f2 := fun q => h.f2 (by simpa using q)
  f3 := fun q => h.f3 (by simpa using q)
  f4 := fun _ _ => hn
  f5 := fun q => h.f5 (by simpa using q)
  f6 := fun q q2 => up6 (h.f6 (by simpa using q) (by simpa using q2))
  f7 := fun q => absurd (h.c7_4 (by simpa using q)) (by rw [hd]; simp)
  f8 := fun q => h.f8 (by simpa using q)
  f9 := fun q => h.f9 (by simpa using q)
  f10 := fun q => h.f10 (by simpa using q)
  f11 := fun q => absurd (h.c11_4 (by simpa using q)) (by rw [hd]; simp)
  f12 := fun q => absurd (h.c12_4 (by simpa using q)) (by rw [hd]; simp)
theorem Wr.s5 {B : Nat} {W : World} {v s1 s2 : Value} {k : Nat} {bad : Can.T} {l1 l3 : List Can.T} {d : Nat → Bool} {t99 t100 t101 t102 t103 t104 t105 t106 t107 t108 t109 t110 t18 : Value} {w : World} {n104 : Value} (h : Wr.I B W v s1 s2 k bad l1 l3 d t99 t100 t101 t102 t103 t104 t105 t106 t107 t108 t109 t110 t18 w) (_hd : d 5 = false) (hn : n104 = .agg #[.string bad.job, .slice bad.p bad.n bad.c]) : Wr.I B W v s1 s2 k bad l1 l3 (fun j => d j || j == 5) t99 t100 t101 t102 t103 n104 t105 t106 t107 t108 t109 t110 t18 w where
  b := h.b
  c4_0 := fun q => by have := h.c4_0 (by simpa using q); simp [this]
  c7_0 := fun q => by have := h.c7_0 (by simpa using q); simp [this]
  c7_4 := fun q => by have := h.c7_4 (by simpa using q); simp [this]
  c7_6 := fun q => by have := h.c7_6 (by simpa using q); simp [this]
  c11_0 := fun q => by have := h.c11_0 (by simpa using q); simp [this]
  c11_4 := fun q => by have := h.c11_4 (by simpa using q); simp [this]
  c11_6 := fun q => by have := h.c11_6 (by simpa using q); simp [this]
  c11_7 := fun q => by have := h.c11_7 (by simpa using q); simp [this]
  c12_0 := fun q => by have := h.c12_0 (by simpa using q); simp [this]
  c12_4 := fun q => by have := h.c12_4 (by simpa using q); simp [this]
  c12_6 := fun q => by have := h.c12_6 (by simpa using q); simp [this]
  c12_7 := fun q => by have := h.c12_7 (by simpa using q); simp [this]
  c12_11 := fun q => by have := h.c12_11 (by simpa using q); simp [this]
  f0 := fun q q2 => h.f0 (by simpa using q) (by simpa using q2)
  f1 := fun q => h.f1 (by simpa using q)
  f2 := fun q => h.f2 (by simpa using q)
  f3 := fun q => h.f3 (by simpa using q)
  f4 := fun q q2 => h.f4 (by simpa using q) (by simpa using q2)
  f5 := fun _ => hn
  f6 := fun q q2 => h.f6 (by simpa using q) (by simpa using q2)
  f7 := fun q q2 => h.f7 (by simpa using q) (by simpa using q2)
  f8 := fun q => h.f8 (by simpa using q)
  f9 := fun q => h.f9 (by simpa using q)
  f10 := fun q => h.f10 (by simpa using q)
  f11 := fun q => h.f11 (by simpa using q)
  f12 := fun q => h.f12 (by simpa using q)
theorem Wr.s6 {B : Nat} {W : World} {v s1 s2 : Value} {k : Nat} {bad : Can.T} {l1 l3 : List Can.T} {d : Nat → Bool} {t99 t100 t101 t102 t103 t104 t105 t106 t107 t108 t109 t110 t18 : Value} {w w2 : World} {n105 : Value} (h : Wr.I B W v s1 s2 k bad l1 l3 d t99 t100 t101 t102 t103 t104 t105 t106 t107 t108 t109 t110 t18 w) (hb : Below B w w2) (up0 : Wr.E B t99 w → Wr.E B t99 w2) (up4 : RowTs B t103 ([] ++ l1) w → RowTs B t103 ([] ++ l1) w2) (hd : d 6 = false) (hn : Wr.X bad n105 w2) : Wr.I B W v s1 s2 k bad l1 l3 (fun j => d j || j == 6) t99 t100 t101 t102 t103 t104 n105 t106 t107 t108 t109 t110 t18 w2 where
  b := h.b.trans hb
  c4_0 := fun q => by have := h.c4_0 (by simpa using q); simp [this]
  c7_0 := fun q => by have := h.c7_0 (by simpa using q); simp [this]
  c7_4 := fun q => by have := h.c7_4 (by simpa using q); simp [this]
  c7_6 := fun _ => by simp
  c11_0 := fun q => by have := h.c11_0 (by simpa using q); simp [this]
  c11_4 := fun q => by have := h.c11_4 (by simpa using q); simp [this]
  c11_6 := fun _ => by simp
  c11_7 := fun q => by have := h.c11_7 (by simpa using q); simp [this]
  c12_0 := fun q => by have := h.c12_0 (by simpa using q); simp [this]
  c12_4 := fun q => by have := h.c12_4 (by simpa using q); simp [this]
  c12_6 := fun _ => by simp
  c12_7 := fun q => by have := h.c12_7 (by simpa using q); simp [this]
  c12_11 := fun q => by have := h.c12_11 (by simpa using q); simp [this]
  f0 := fun q q2 => up0 (h.f0 (by simpa using q) (by simpa using q2))
  f1 := fun q => h.f1 (by simpa using q)
  f2 := fun q => h.f2 (by simpa using q)
  f3 := fun q => h.f3 (by simpa using q)
  f4 := fun q q2 => up4 (h.f4 (by simpa using q) (by simpa using q2))
  f5 := fun q => h.f5 (by simpa using q)
  f6 := fun _ _ => hn
  f7 := fun q => absurd (h.c7_6 (by simpa using q)) (by rw [hd]; simp)
  f8 := fun q => h.f8 (by simpa using q)
  f9 := fun q => h.f9 (by simpa using q)
  f10 := fun q => h.f10 (by simpa using q)
  f11 := fun q => absurd (h.c11_6 (by simpa using q)) (by rw [hd]; simp)
  f12 := fun q => absurd (h.c12_6 (by simpa using q)) (by rw [hd]; simp)
theorem Wr.s7 {B : Nat} {W : World} {v s1 s2 : Value} {k : Nat} {bad : Can.T} {l1 l3 : List Can.T} {d : Nat → Bool} {t99 t100 t101 t102 t103 t104 t105 t106 t107 t108 t109 t110 t18 : Value} {w w2 : World} {n106 : Value} (h : Wr.I B W v s1 s2 k bad l1 l3 d t99 t100 t101 t102 t103 t104 t105 t106 t107 t108 t109 t110 t18 w) (hb : Below B w w2) (hd : d 7 = false) (ha0 : d 0 = true) (ha4 : d 4 = true) (ha6 : d 6 = true) (hn : RowTs B n106 ([] ++ l1 ++ [bad]) w2) : Wr.I B W v s1 s2 k bad l1 l3 (fun j => d j || j == 7) t99 t100 t101 t102 t103 t104 t105 n106 t107 t108 t109 t110 t18 w2 where
  b := h.b.trans hb
  c4_0 := fun q => by have := h.c4_0 (by simpa using q); simp [this]
  c7_0 := fun _ => by simp [ha0]
  c7_4 := fun _ => by simp [ha4]
  c7_6 := fun _ => by simp [ha6]
  c11_0 := fun q => by have := h.c11_0 (by simpa using q); simp [this]
  c11_4 := fun q => by have := h.c11_4 (by simpa using q); simp [this]
  c11_6 := fun q => by have := h.c11_6 (by simpa using q); simp [this]
  c11_7 := fun _ => by simp
  c12_0 := fun q => by have := h.c12_0 (by simpa using q); simp [this]
  c12_4 := fun q => by have := h.c12_4 (by simpa using q); simp [this]
  c12_6 := fun q => by have := h.c12_6 (by simpa using q); simp [this]
  c12_7 := fun _ => by simp
  c12_11 := fun q => by have := h.c12_11 (by simpa using q); simp [this]
  f0 := fun _ q2 => absurd q2 (by simp [ha4])
  f1 := fun q => h.f1 (by simpa using q)
  f2 := fun q => h.f2 (by simpa using q)
  f3 := fun q => h.f3 (by simpa using q)
  f4 := fun _ q2 => absurd q2 (by simp)
  f5 := fun q => h.f5 (by simpa using q)
  f6 := fun _ q2 => absurd q2 (by simp)
  f7 := fun _ _ => hn
  f8 := fun q => h.f8 (by simpa using q)
  f9 := fun q => h.f9 (by simpa using q)
  f10 := fun q => h.f10 (by simpa using q)
  f11 := fun q => absurd (h.c11_7 (by simpa using q)) (by rw [hd]; simp)
  f12 := fun q => absurd (h.c12_7 (by simpa using q)) (by rw [hd]; simp)
theorem Wr.s8 {B : Nat} {W : World} {v s1 s2 : Value} {k : Nat} {bad : Can.T} {l1 l3 : List Can.T} {d : Nat → Bool} {t99 t100 t101 t102 t103 t104 t105 t106 t107 t108 t109 t110 t18 : Value} {w : World} {n107 : Value} (h : Wr.I B W v s1 s2 k bad l1 l3 d t99 t100 t101 t102 t103 t104 t105 t106 t107 t108 t109 t110 t18 w) (_hd : d 8 = false) (hn : n107 = v) : Wr.I B W v s1 s2 k bad l1 l3 (fun j => d j || j == 8) t99 t100 t101 t102 t103 t104 t105 t106 n107 t108 t109 t110 t18 w where
  b := h.b
  c4_0 := fun q => by have := h.c4_0 (by simpa using q); simp [this]
  c7_0 := fun q => by have := h.c7_0 (by simpa using q); simp [this]
  c7_4 := fun q => by have := h.c7_4 (by simpa using q); simp [this]
  c7_6 := fun q => by have := h.c7_6 (by simpa using q); simp [this]
  c11_0 := fun q => by have := h.c11_0 (by simpa using q); simp [this]
  c11_4 := fun q => by have := h.c11_4 (by simpa using q); simp [this]
  c11_6 := fun q => by have := h.c11_6 (by simpa using q); simp [this]
  c11_7 := fun q => by have := h.c11_7 (by simpa using q); simp [this]
  c12_0 := fun q => by have := h.c12_0 (by simpa using q); simp [this]
  c12_4 := fun q => by have := h.c12_4 (by simpa using q); simp [this]
  c12_6 := fun q => by have := h.c12_6 (by simpa using q); simp [this]
  c12_7 := fun q => by have := h.c12_7 (by simpa using q); simp [this]
  c12_11 := fun q => by have := h.c12_11 (by simpa using q); simp [this]
  f0 := fun q q2 => h.f0 (by simpa using q) (by simpa using q2)
  f1 := fun q => h.f1 (by simpa using q)
  f2 := fun q => h.f2 (by simpa using q)
  f3 := fun q => h.f3 (by simpa using q)
  f4 := fun q q2 => h.f4 (by simpa using q) (by simpa using q2)
  f5 := fun q => h.f5 (by simpa using q)
  f6 := fun q q2 => h.f6 (by simpa using q) (by simpa using q2)
  f7 := fun q q2 => h.f7 (by simpa using q) (by simpa using q2)
  f8 := fun _ => hn
  f9 := fun q => h.f9 (by simpa using q)
  f10 := fun q => h.f10 (by simpa using q)
  f11 := fun q => h.f11 (by simpa using q)
  f12 := fun q => h.f12 (by simpa using q)
theorem Wr.s9 {B : Nat} {W : World} {v s1 s2 : Value} {k : Nat} {bad : Can.T} {l1 l3 : List Can.T} {d : Nat → Bool} {t99 t100 t101 t102 t103 t104 t105 t106 t107 t108 t109 t110 t18 : Value} {w : World} {n108 : Value} (h : Wr.I B W v s1 s2 k bad l1 l3 d t99 t100 t101 t102 t103 t104 t105 t106 t107 t108 t109 t110 t18 w) (_hd : d 9 = false) (hn : n108 = .int .i64 (k : Int)) : Wr.I B W v s1 s2 k bad l1 l3 (fun j => d j || j == 9) t99 t100 t101 t102 t103 t104 t105 t106 t107 n108 t109 t110 t18 w where
  b := h.b
  c4_0 := fun q => by have := h.c4_0 (by simpa using q); simp [this]
  c7_0 := fun q => by have := h.c7_0 (by simpa using q); simp [this]
  c7_4 := fun q => by have := h.c7_4 (by simpa using q); simp [this]
  c7_6 := fun q => by have := h.c7_6 (by simpa using q); simp [this]
  c11_0 := fun q => by have := h.c11_0 (by simpa using q); simp [this]
  c11_4 := fun q => by have := h.c11_4 (by simpa using q); simp [this]
  c11_6 := fun q => by have := h.c11_6 (by simpa using q); simp [this]
  c11_7 := fun q => by have := h.c11_7 (by simpa using q); simp [this]
  c12_0 := fun q => by have := h.c12_0 (by simpa using q); simp [this]
  c12_4 := fun q => by have := h.c12_4 (by simpa using q); simp [this]
  c12_6 := fun q => by have := h.c12_6 (by simpa using q); simp [this]
  c12_7 := fun q => by have := h.c12_7 (by simpa using q); simp [this]
  c12_11 := fun q => by have := h.c12_11 (by simpa using q); simp [this]
  f0 := fun q q2 => h.f0 (by simpa using q) (by simpa using q2)
  f1 := fun q => h.f1 (by simpa using q)
  f2 := fun q => h.f2 (by simpa using q)
  f3 := fun q => h.f3 (by simpa using q)
  f4 := fun q q2 => h.f4 (by simpa using q) (by simpa using q2)
  f5 := fun q => h.f5 (by simpa using q)
  f6 := fun q q2 => h.f6 (by simpa using q) (by simpa using q2)
  f7 := fun q q2 => h.f7 (by simpa using q) (by simpa using q2)
  f8 := fun q => h.f8 (by simpa using q)
  f9 := fun _ => hn
  f10 := fun q => h.f10 (by simpa using q)
  f11 := fun q => h.f11 (by simpa using q)
  f12 := fun q => h.f12 (by simpa using q)
theorem Wr.s10 {B : Nat} {W : World} {v s1 s2 : Value} {k : Nat} {bad : Can.T} {l1 l3 : List Can.T} {d : Nat → Bool} {t99 t100 t101 t102 t103 t104 t105 t106 t107 t108 t109 t110 t18 : Value} {w : World} {n109 : Value} (h : Wr.I B W v s1 s2 k bad l1 l3 d t99 t100 t101 t102 t103 t104 t105 t106 t107 t108 t109 t110 t18 w) (_hd : d 10 = false) (hn : n109 = s2) : Wr.I B W v s1 s2 k bad l1 l3 (fun j => d j || j == 10) t99 t100 t101 t102 t103 t104 t105 t106 t107 t108 n109 t110 t18 w where
  b := h.b
  c4_0 := fun q => by have := h.c4_0 (by simpa using q); simp [this]
  c7_0 := fun q => by have := h.c7_0 (by simpa using q); simp [this]
  c7_4 := fun q => by have := h.c7_4 (by simpa using q); simp [this]
  c7_6 := fun q => by have := h.c7_6 (by simpa using q); simp [this]
  c11_0 := fun q => by have := h.c11_0 (by simpa using q); simp [this]
  c11_4 := fun q => by have := h.c11_4 (by simpa using q); simp [this]
  c11_6 := fun q => by have := h.c11_6 (by simpa using q); simp [this]
  c11_7 := fun q => by have := h.c11_7 (by simpa using q); simp [this]
  c12_0 := fun q => by have := h.c12_0 (by simpa using q); simp [this]
  c12_4 := fun q => by have := h.c12_4 (by simpa using q); simp [this]
  c12_6 := fun q => by have := h.c12_6 (by simpa using q); simp [this]
  c12_7 := fun q => by have := h.c12_7 (by simpa using q); simp [this]
  c12_11 := fun q => by have := h.c12_11 (by simpa using q); simp [this]
  f0 := fun q q2 => h.f0 (by simpa using q) (by simpa using q2)
  f1 := fun q => h.f1 (by simpa using q)
  f2 := fun q => h.f2 (by simpa using q)
  f3 := fun q => h.f3 (by simpa using q)
  f4 := fun q q2 => h.f4 (by simpa using q) (by simpa using q2)
  f5 := fun q => h.f5 (by simpa using q)
  f6 := fun q q2 => h.f6 (by simpa using q) (by simpa using q2)
  f7 := fun q q2 => h.f7 (by simpa using q) (by simpa using q2)
  f8 := fun q => h.f8 (by simpa using q)
  f9 := fun q => h.f9 (by simpa using q)
  f10 := fun _ => hn
  f11 := fun q => h.f11 (by simpa using q)
  f12 := fun q => h.f12 (by simpa using q)
theorem Wr.s11 {B : Nat} {W : World} {v s1 s2 : Value} {k : Nat} {bad : Can.T} {l1 l3 : List Can.T} {d : Nat → Bool} {t99 t100 t101 t102 t103 t104 t105 t106 t107 t108 t109 t110 t18 : Value} {w w2 : World} {n110 : Value} (h : Wr.I B W v s1 s2 k bad l1 l3 d t99 t100 t101 t102 t103 t104 t105 t106 t107 t108 t109 t110 t18 w) (hb : Below B w w2) (hd : d 11 = false) (ha0 : d 0 = true) (ha4 : d 4 = true) (ha6 : d 6 = true) (ha7 : d 7 = true) (hn : RowTs B n110 ([] ++ l1 ++ [bad] ++ l3) w2) : Wr.I B W v s1 s2 k bad l1 l3 (fun j => d j || j == 11) t99 t100 t101 t102 t103 t104 t105 t106 t107 t108 t109 n110 t18 w2 where
  b := h.b.trans hb
  c4_0 := fun q => by have := h.c4_0 (by simpa using q); simp [this]
  c7_0 := fun q => by have := h.c7_0 (by simpa using q); simp [this]
  c7_4 := fun q => by have := h.c7_4 (by simpa using q); simp [this]
  c7_6 := fun q => by have := h.c7_6 (by simpa using q); simp [this]
  c11_0 := fun _ => by simp [ha0]
  c11_4 := fun _ => by simp [ha4]
  c11_6 := fun _ => by simp [ha6]
  c11_7 := fun _ => by simp [ha7]
  c12_0 := fun q => by have := h.c12_0 (by simpa using q); simp [this]
  c12_4 := fun q => by have := h.c12_4 (by simpa using q); simp [this]
  c12_6 := fun q => by have := h.c12_6 (by simpa using q); simp [this]
  c12_7 := fun q => by have := h.c12_7 (by simpa using q); simp [this]
  c12_11 := fun _ => by simp
  f0 := fun _ q2 => absurd q2 (by simp [ha4])
  f1 := fun q => h.f1 (by simpa using q)
  f2 := fun q => h.f2 (by simpa using q)
  f3 := fun q => h.f3 (by simpa using q)
  f4 := fun _ q2 => absurd q2 (by simp [ha7])
  f5 := fun q => h.f5 (by simpa using q)
  f6 := fun _ q2 => absurd q2 (by simp [ha7])
  f7 := fun _ q2 => absurd q2 (by simp)
  f8 := fun q => h.f8 (by simpa using q)
  f9 := fun q => h.f9 (by simpa using q)
  f10 := fun q => h.f10 (by simpa using q)
  f11 := fun _ => hn
  f12 := fun q => absurd (h.c12_11 (by simpa using q)) (by rw [hd]; simp)
theorem Wr.s12 {B : Nat} {W : World} {v s1 s2 : Value} {k : Nat} {bad : Can.T} {l1 l3 : List Can.T} {d : Nat → Bool} {t99 t100 t101 t102 t103 t104 t105 t106 t107 t108 t109 t110 t18 : Value} {w : World} {n18 : Value} (h : Wr.I B W v s1 s2 k bad l1 l3 d t99 t100 t101 t102 t103 t104 t105 t106 t107 t108 t109 t110 t18 w) (_hd : d 12 = false) (ha0 : d 0 = true) (ha4 : d 4 = true) (ha6 : d 6 = true) (ha7 : d 7 = true) (ha11 : d 11 = true) (hn : n18 = t110) : Wr.I B W v s1 s2 k bad l1 l3 (fun j => d j || j == 12) t99 t100 t101 t102 t103 t104 t105 t106 t107 t108 t109 t110 n18 w where
  b := h.b
  c4_0 := fun q => by have := h.c4_0 (by simpa using q); simp [this]
  c7_0 := fun q => by have := h.c7_0 (by simpa using q); simp [this]
  c7_4 := fun q => by have := h.c7_4 (by simpa using q); simp [this]
  c7_6 := fun q => by have := h.c7_6 (by simpa using q); simp [this]
  c11_0 := fun q => by have := h.c11_0 (by simpa using q); simp [this]
  c11_4 := fun q => by have := h.c11_4 (by simpa using q); simp [this]
  c11_6 := fun q => by have := h.c11_6 (by simpa using q); simp [this]
  c11_7 := fun q => by have := h.c11_7 (by simpa using q); simp [this]
  c12_0 := fun _ => by simp [ha0]
  c12_4 := fun _ => by simp [ha4]
  c12_6 := fun _ => by simp [ha6]
  c12_7 := fun _ => by simp [ha7]
  c12_11 := fun _ => by simp [ha11]
  f0 := fun _ q2 => absurd q2 (by simp [ha4])
  f1 := fun q => h.f1 (by simpa using q)
  f2 := fun q => h.f2 (by simpa using q)
  f3 := fun q => h.f3 (by simpa using q)
  f4 := fun _ q2 => absurd q2 (by simp [ha7])
  f5 := fun q => h.f5 (by simpa using q)
  f6 := fun _ q2 => absurd q2 (by simp [ha7])
  f7 := fun _ q2 => absurd q2 (by simp [ha11])
  f8 := fun q => h.f8 (by simpa using q)
  f9 := fun q => h.f9 (by simpa using q)
  f10 := fun q => h.f10 (by simpa using q)
  f11 := fun q => h.f11 (by simpa using q)
  f12 := fun _ => hn
end Go.Proofs.YthnaninhbofeoaaGreatDoor
