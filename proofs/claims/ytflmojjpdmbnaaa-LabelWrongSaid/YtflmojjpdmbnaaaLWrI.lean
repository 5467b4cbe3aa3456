/- The region of LabelWrong that makes labels with a defect; the switch. (Printed by gen_wr.py.) -/
import Derived.Test.YtflmojjpdmbnaaaLWrC
namespace Go.Proofs.Ytflmojjpdmbnaaa
open Go.RowKit
set_option linter.unusedVariables false
/-- an empty slice of labels that was made -/
def Wz.E (B : Nat) (t : Value) (w : World) : Prop := ∃ g, t = .slice (some ⟨g, 0, none⟩) 0 0 ∧ B ≤ g ∧ w.heap[g]? = some (.cells #[] 36)
/-- a label in its box -/
def Wz.X (b : Lab.L) (t : Value) (w : World) : Prop := ∃ g, t = .slice (some ⟨g, 0, none⟩) 1 1 ∧ w.heap[g]? = some (.cells #[.string b.n, .string b.v] 36)
/-- a new variable for labels -/
def Wz.Z (B : Nat) (t : Value) (w : World) : Prop := ∃ g, t = .pointer (some ⟨g, 0, none⟩) ∧ B ≤ g ∧ w.heap[g]? = some (.cells #[.slice none 0 0] 27)
def Wz.Y (B : Nat) (A : List Lab.L) (bad : Lab.L) (t : Value) (w : World) : Prop := ∃ g q m, t = .pointer (some ⟨g, 0, none⟩) ∧ B ≤ g ∧ w.cell? ⟨g, 0, none⟩ = some (.slice q (A.length + 1) m) ∧ Lab.At q (A ++ [bad]) w
theorem Wz.E.alloc {B : Nat} {t : Value} {w : World} (h : Wz.E B t w) (o : Obj) : Wz.E B t (w.alloc o) := by
  obtain ⟨g, h1, h2, h3⟩ := h
  exact ⟨g, h1, h2, alloc_kept h3⟩
theorem Wz.X.alloc {b : Lab.L} {t : Value} {w : World} (h : Wz.X b t w) (o : Obj) : Wz.X b t (w.alloc o) := by
  obtain ⟨g, h1, h3⟩ := h
  exact ⟨g, h1, alloc_kept h3⟩
theorem Wz.Z.alloc {B : Nat} {t : Value} {w : World} (h : Wz.Z B t w) (o : Obj) : Wz.Z B t (w.alloc o) := by
  obtain ⟨g, h1, h2, h3⟩ := h
  exact ⟨g, h1, h2, alloc_kept h3⟩
theorem Wz.E.row {B : Nat} {t : Value} {w : World} (h : Wz.E B t w) : OwnLabels B t [] w := by
  obtain ⟨g, rfl, h2, h3⟩ := h
  exact ⟨rfl, .inr ⟨g, 0, #[], rfl, h2, h3, Nat.le_refl _, Nat.zero_le _, rfl, rfl⟩⟩
theorem Wz.X.grown {B : Nat} {b : Lab.L} {t t9 : Value} {w w' : World} (h : Wz.X b t w) (h9 : Wz.E B t9 w) (hg : w.grownBy w' t9.ownBlock) : Wz.X b t w' := by
  obtain ⟨g, h1, h3⟩ := h
  obtain ⟨g9, rfl, _, h4⟩ := h9
  refine ⟨g, h1, (hg.block g (lt_of_heap h3) (fun e => ?_)).trans h3⟩
  simp [Value.ownBlock] at e
  subst e
  rw [h4] at h3
  simp at h3
theorem Wz.Z.grown {B B' : Nat} {t v : Value} {ls : List Lab.L} {w w' : World} (h : Wz.Z B t w) (h9 : OwnLabels B' v ls w) (hg : w.grownBy w' v.ownBlock) : Wz.Z B t w' := by
  obtain ⟨g, h1, h2, h3⟩ := h
  refine ⟨g, h1, h2, (hg.block g (lt_of_heap h3) (fun e => ?_)).trans h3⟩
  rcases h9.2 with ⟨rfl, _⟩ | ⟨g9, cap, cur, rfl, _, h4, _⟩
  · cases e
  · simp [Value.ownBlock] at e
    subst e
    rw [h4] at h3
    simp at h3
/-- 'append(v, labels..)' at a step, of labels at whatever address -/
theorem step_catA {ops : Array Oper} {o : Oper} {a : Act} {K : Act → World → Prop} {Q : Exit → Act → World → Prop} {E : Prop} {w : World} (T T2 : TypeId) (hT : Try.prog.underlying T = some (.slice 36)) (hTT : T = T2) (hgd : o.guard = none) (s x : Operand)
    (ho : o.op = .call { callee := .builtin .append, args := #[s, x], argTypes := #[T, T2] })
    (B : Nat) (v : Value) (l : List Lab.L) (hs : a.eval s = v) (hown : OwnLabels B v l w) (r : List Lab.L) (p : Option Addr) (n c : Nat) (hx : a.eval x = .slice p n c) (hn : r.length = n) (hf : (p = none ∧ n = 0 ∧ c = 0) ∨ ∃ b, p = some ⟨b, 0, none⟩)
    (hA : Lab.At p r w) (hlen : l.length + n ≤ 100000) (hB : B ≤ w.heap.size)
    (h : ∀ v' w', OwnLabels B v' (l ++ r) w' → w.grownBy w' v.ownBlock → K (a.put o.dst v') w') :
    if Region.wanted o (yielded ops a.tmps) = true then Oper.wp Try.prog o a w K Q else E := by
  subst hTT
  rcases hf with ⟨rfl, rfl, rfl⟩ | ⟨b, rfl⟩
  · obtain rfl : r = [] := List.length_eq_zero_iff.1 hn
    refine step_cat_noneL T hT hgd s x ho B v l hs hown hx ?_
    exact h v w (by rw [List.append_nil]; exact hown) ⟨rfl, rfl, rfl, Nat.le_refl _, fun _ _ _ => rfl⟩
  · refine step_catL T hT hgd s x ho B v l hs hown r b 0 n c hx hn (fun i hi => ?_) hlen hB h
    have := hA.cellsAt i hi
    rw [Nat.zero_add]
    exact this
theorem openedF {f : FuncId} {args : Array Value} {w : World} {r : List Lab.L} {n B : Nat} {er : Value} (hn : r.length = n) (h : Calls Try.prog f args w fun e w' => (∃ v, e = .returned (.tuple #[v, er]) ∧ OwnLabels B v r w') ∧ Below w.heap.size w w') :
    Calls Try.prog f args w fun e w' => (∃ p c, e = .returned (.tuple #[.slice p n c, er]) ∧ Lab.At p r w' ∧ ((p = none ∧ n = 0 ∧ c = 0) ∨ ∃ b, p = some ⟨b, 0, none⟩)) ∧ Below w.heap.size w w' :=
  h.mono fun e w' ⟨⟨v, he, hv⟩, hb⟩ => by
    have h2 := hv
    obtain ⟨p, c, rfl, hA, _⟩ := OwnLabels.open hv
    rw [hn] at he
    refine ⟨⟨p, c, he, hA, ?_⟩, hb⟩
    rcases h2.2 with ⟨e, h0⟩ | ⟨g, cap, cur, e, hg, _⟩
    · simp only [Value.slice.injEq] at e
      exact .inl ⟨e.1, by omega, e.2.2⟩
    · simp only [Value.slice.injEq] at e
      exact .inr ⟨g, e.1⟩
def Lab.sp : Value → Option Addr
  | .slice p _ _ => p
  | _ => none
def Lab.sn : Value → Nat
  | .slice _ n _ => n
  | _ => 0
def Lab.sc : Value → Nat
  | .slice _ _ c => c
  | _ => 0
theorem Lab.sp_own {B n : Nat} {v : Value} {ls : List Lab.L} {w : World} (h : OwnLabels B v ls w) (hn : ls.length = n) : v = .slice (Lab.sp v) n (Lab.sc v) := by
  obtain ⟨p, c, rfl, _⟩ := OwnLabels.open h
  rw [hn]
  rfl
theorem own_store {B : Nat} {v x : Value} {ls : List Lab.L} {w : World} {g : Nat} (h : OwnLabels B v ls w) (hg : w.heap[g]? = some (.cells #[.slice none 0 0] 27)) : OwnLabels B v ls (w.setCell ⟨g, 0, none⟩ x) := by
  obtain ⟨h1, h2⟩ := h
  refine ⟨h1, ?_⟩
  rcases h2 with h2 | ⟨g9, cap, cur, hv, hB, hh, r⟩
  · exact .inl h2
  · refine .inr ⟨g9, cap, cur, hv, hB, ?_, r⟩
    have hne : ¬ g9 = g := fun e => by
      subst e
      rw [hg] at hh
      simp at hh
    exact (Below.heap_setCell w ⟨g, 0, none⟩ x g9 (by first | exact hne | exact Ne.symm hne | (show _; omega))).trans hh
theorem check_is (p : Option Addr) (ls : List Lab.L) (n c : Nat) (w : World) (hn : ls.length = n) (hA : Lab.At p ls w) (hF : Lab.Fit maxLen ls) (hl : n ≤ maxLen) (i er : Int) (h : Lab.check ls = (i, er)) :
    Calls Try.prog 31 #[.slice p n c] w fun e w' => e = .returned (.tuple #[.int .i64 i, .int .i64 er]) ∧ Below w.heap.size w w' := by
  have := check_any p ls n c w hn hA hF hl
  rw [h] at this
  exact this
theorem Lab.at_box {G : Nat} {y : Lab.L} {W : World} (h : W.heap[G]? = some (.cells #[.string y.n, .string y.v] 36)) : Lab.At (some ⟨G, 0, none⟩) [y] W := by
  refine .inr ⟨G, 0, rfl, fun i hi => ?_⟩
  obtain rfl : i = 0 := by simpa using hi
  exact ⟨by rw [Lib.cell_of_heap h]; rfl, by rw [Lib.cell_of_heap h]; rfl⟩
theorem Lab.at_from {g k : Nat} {ls : List Lab.L} {w : World} (h : Lab.At (some ⟨g, 0, none⟩) ls w) (m : List Lab.L) (hm : ls.drop k = m) : Lab.At (some ⟨g, k * 2, none⟩) m w := by
  subst hm
  exact .inr ⟨g, k * 2, rfl, Lab.at_drop h k⟩
/-- the box of the label with a defect, when one of its cells is written -/
theorem Wz.put0 (W3 w5 W : World) (a b c : ByteArray) (o : Obj) (hk : w5.heap[W3.heap.size]? = some (.cells #[.string a, .string b] 36)) (hB : Below W3.heap.size W3 w5) (hW : W = (w5.setCell ⟨W3.heap.size, 0, none⟩ (.string c)).alloc o) :
    W.cell? ⟨W3.heap.size, 0, none⟩ = some (.string c) ∧ W.cell? ⟨W3.heap.size, 1, none⟩ = some (.string b) ∧ Below W3.heap.size W3 W := by
  subst hW
  have c0 : w5.cell? ⟨W3.heap.size, 0, none⟩ = some (.string a) := by rw [Lib.cell_of_heap hk]; rfl
  have c1 : w5.cell? ⟨W3.heap.size, 1, none⟩ = some (.string b) := by rw [Lib.cell_of_heap hk]; rfl
  have hb := (Below.refl (w5.setCell ⟨W3.heap.size, 0, none⟩ (.string c)).heap.size (w5.setCell ⟨W3.heap.size, 0, none⟩ (.string c))).alloc (Nat.le_refl _) o
  refine ⟨cell_later hb (World.cell?_setCell_same' _ _ _ (by rw [c0]; rfl)) (Nat.le_refl _), cell_later hb ((World.cell?_setCell_other _ _ _ _ (by intro e; cases e)).trans c1) (Nat.le_refl _), ?_⟩
  exact (hB.setCell (p := ⟨W3.heap.size, 0, none⟩) (Nat.le_refl _) _).alloc (by rw [World.size_setCell]; exact hB.size) o
theorem Wz.put1 (W3 w5 W : World) (a b c : ByteArray) (o : Obj) (hk : w5.heap[W3.heap.size]? = some (.cells #[.string a, .string b] 36)) (hB : Below W3.heap.size W3 w5) (hW : W = (w5.setCell ⟨W3.heap.size, 1, none⟩ (.string c)).alloc o) :
    W.cell? ⟨W3.heap.size, 0, none⟩ = some (.string a) ∧ W.cell? ⟨W3.heap.size, 1, none⟩ = some (.string c) ∧ Below W3.heap.size W3 W := by
  subst hW
  have c0 : w5.cell? ⟨W3.heap.size, 0, none⟩ = some (.string a) := by rw [Lib.cell_of_heap hk]; rfl
  have c1 : w5.cell? ⟨W3.heap.size, 1, none⟩ = some (.string b) := by rw [Lib.cell_of_heap hk]; rfl
  have hb := (Below.refl (w5.setCell ⟨W3.heap.size, 1, none⟩ (.string c)).heap.size (w5.setCell ⟨W3.heap.size, 1, none⟩ (.string c))).alloc (Nat.le_refl _) o
  refine ⟨cell_later hb ((World.cell?_setCell_other _ _ _ _ (by intro e; cases e)).trans c0) (Nat.le_refl _), cell_later hb (World.cell?_setCell_same' _ _ _ (by rw [c1]; rfl)) (Nat.le_refl _), ?_⟩
  exact (hB.setCell (p := ⟨W3.heap.size, 1, none⟩) (Nat.le_refl _) _).alloc (by rw [World.size_setCell]; exact hB.size) o
theorem run_append_types {P : Program} {w : World} (t t2 ty e e2 : TypeId) (i : TypeInfo) (ht : P.underlying t = some (.slice e)) (ht2 : P.underlying t2 = some (.slice e2)) (hi : P.info? e = some i) (b : Option Addr) (n c : Nat) (x : Value) :
    (Builtin.append_ #[t, t2] ty #[.slice b n c, x]).run P w = (Builtin.append_ #[t, t] ty #[.slice b n c, x]).run P w := by
  unfold Builtin.append_
  simp [run_underlying ht, run_underlying ht2, sizeOf, typeInfo, hi]
/-- 'append(v, labels..)' onto an empty slice that was made, of labels at whatever address; the two types may differ -/
theorem wpList_catA {ops : Array Oper} {rest : List Oper} {o : Oper} {a : Act} {w : World} {Q : Exit → Act → World → Prop} (hgd : o.guard = none) (s x : Operand) (T T2 : TypeId) (hT : Try.prog.underlying T = some (.slice 36)) (hT2 : Try.prog.underlying T2 = some (.slice 36))
    (ho : o.op = .call { callee := .builtin .append, args := #[s, x], argTypes := #[T, T2] })
    (B : Nat) (b : Option Addr) (vn vc : Nat) (l : List Lab.L) (hs : a.eval s = .slice b vn vc) (hown : OwnLabels B (.slice b vn vc) l w) (r : List Lab.L) (p : Option Addr) (n c : Nat) (hx : a.eval x = .slice p n c) (hn : r.length = n) (hf : (p = none ∧ n = 0 ∧ c = 0) ∨ ∃ b, p = some ⟨b, 0, none⟩)
    (hA : Lab.At p r w) (hlen : l.length + n ≤ 100000) (hB : B ≤ w.heap.size)
    (h : ∀ v' w', OwnLabels B v' (l ++ r) w' → w.grownBy w' (Value.slice b vn vc).ownBlock → wpList Try.prog ops Q rest (a.put o.dst v') w') : wpList Try.prog ops Q (o :: rest) a w := by
  obtain ⟨i0, hi, hz0, hz1, hz2⟩ := info_parts infoLab
  refine wpList_plain hgd fun K hK => ?_
  have key : ∃ v' w', (Builtin.append_ #[T, T2] o.type #[.slice b vn vc, .slice p n c]).run Try.prog w = .ok v' w' ∧ OwnLabels B v' (l ++ r) w' ∧ w.grownBy w' (Value.slice b vn vc).ownBlock := by
    rcases hf with ⟨rfl, rfl, rfl⟩ | ⟨g, rfl⟩
    · obtain rfl : r = [] := List.length_eq_zero_iff.1 hn
      have hrun := run_append_owned_none (P := Try.prog) (w := w) B T o.type 36 i0 2 hT hi (.slice b vn vc) l.length (Lab.cells l) hown
      exact ⟨_, w, (run_append_types T T2 o.type _ _ i0 hT hT2 hi b vn vc _).trans hrun, by rw [List.append_nil]; exact hown, rfl, rfl, rfl, Nat.le_refl _, fun _ _ _ => rfl⟩
    · subst hn
      have hr : ∀ i (h : i < r.length), w.cell? ⟨g, 0 + i * 2, none⟩ = some (.string r[i].n) ∧ w.cell? ⟨g, 0 + i * 2 + 1, none⟩ = some (.string r[i].v) := fun i hi => by
        have := hA.cellsAt i hi
        rw [Nat.zero_add]
        exact this
      obtain ⟨v', w', h1, h2, h3, _⟩ := run_append_own (P := Try.prog) w B T o.type 36 i0 _ 2 32 hT hi hz0 hz1 hz2 rfl (by decide) (.slice b vn vc) l.length (Lab.cells l) hown ⟨g, 0, none⟩ r.length c (Lab.cells r) (Lab.cells_length r) (Lab.At.news hr rfl) (Lab.cells_one _) (by unfold maxLen; omega) (by omega) hB
      refine ⟨v', w', (run_append_types T T2 o.type _ _ i0 hT hT2 hi b vn vc _).trans h1, ?_, h3⟩
      unfold OwnLabels
      rw [Lab.cells_append, List.length_append]
      exact h2
  obtain ⟨v', w', hr, h2, h3⟩ := key
  unfold Oper.wp
  simp [execOp, ho, resolve, invoke, builtin, hs, hx, hr, Result.andThen]
  exact hK _ _ (h v' w' h2 h3)
/-- what stands where, once it has come up -/
structure Wz.I (B : Nat) (W : World) (B0 : Nat) (p : Option Addr) (n c : Nat) (A : List Lab.L) (bad : Lab.L) (d : Nat → Bool) (t139 t140 t141 t142 t143 t144 t20 : Value) (w : World) : Prop where
  b : Below B W w
  c2_0 : d 2 = true → d 0 = true
  c5_0 : d 5 = true → d 0 = true
  c5_2 : d 5 = true → d 2 = true
  c5_4 : d 5 = true → d 4 = true
  c7_0 : d 7 = true → d 0 = true
  c7_2 : d 7 = true → d 2 = true
  c7_4 : d 7 = true → d 4 = true
  c7_5 : d 7 = true → d 5 = true
  c7_6 : d 7 = true → d 6 = true
  f0 : d 0 = true → d 2 = false → Wz.E B0 t139 w
  f1 : d 1 = true → t140 = .slice p n c
  f2 : d 2 = true → d 5 = false → OwnLabels B0 t141 ([] ++ A) w
  f3 : d 3 = true → t142 = .agg #[.string bad.n, .string bad.v]
  f4 : d 4 = true → d 5 = false → Wz.X bad t143 w
  f5 : d 5 = true → d 7 = false → OwnLabels B0 t144 ([] ++ A ++ [bad]) w
  f6 : d 6 = true → d 7 = false → Wz.Z B0 t20 w
  f7 : d 7 = true → Wz.Y B0 A bad t20 w
theorem Wz.start (W : World) (B0 : Nat) (p : Option Addr) (n c : Nat) (A : List Lab.L) (bad : Lab.L) (t139 t140 t141 t142 t143 t144 t20 : Value) : Wz.I W.heap.size W B0 p n c A bad (fun _ => false) t139 t140 t141 t142 t143 t144 t20 W.drew where
  b := (Below.refl _ _).drew
  c2_0 := fun q => by cases q
  c5_0 := fun q => by cases q
  c5_2 := fun q => by cases q
  c5_4 := fun q => by cases q
  c7_0 := fun q => by cases q
  c7_2 := fun q => by cases q
  c7_4 := fun q => by cases q
  c7_5 := fun q => by cases q
  c7_6 := fun q => by cases q
  f0 := fun q => by cases q
  f1 := fun q => by cases q
  f2 := fun q => by cases q
  f3 := fun q => by cases q
  f4 := fun q => by cases q
  f5 := fun q => by cases q
  f6 := fun q => by cases q
  f7 := fun q => by cases q
theorem Wz.s0 {B : Nat} {W : World} {B0 : Nat} {p : Option Addr} {n c : Nat} {A : List Lab.L} {bad : Lab.L} {d : Nat → Bool} {t139 t140 t141 t142 t143 t144 t20 : Value} {w w2 : World} {n139 : Value} (h : Wz.I B W B0 p n c A bad d t139 t140 t141 t142 t143 t144 t20 w) (hb : Below B w w2) (up4 : Wz.X bad t143 w → Wz.X bad t143 w2) (up6 : Wz.Z B0 t20 w → Wz.Z B0 t20 w2) (hd : d 0 = false) (hn : Wz.E B0 n139 w2) : Wz.I B W B0 p n c A bad (fun j => d j || j == 0) n139 t140 t141 t142 t143 t144 t20 w2 where
  b := h.b.trans hb
  c2_0 := fun _ => by simp
  c5_0 := fun _ => by simp
  c5_2 := fun q => by have := h.c5_2 (by simpa using q); simp [this]
  c5_4 := fun q => by have := h.c5_4 (by simpa using q); simp [this]
  c7_0 := fun _ => by simp
  c7_2 := fun q => by have := h.c7_2 (by simpa using q); simp [this]
  c7_4 := fun q => by have := h.c7_4 (by simpa using q); simp [this]
  c7_5 := fun q => by have := h.c7_5 (by simpa using q); simp [this]
  c7_6 := fun q => by have := h.c7_6 (by simpa using q); simp [this]
  f0 := fun _ _ => hn
  f1 := fun q => h.f1 (by simpa using q)
  f2 := fun q => absurd (h.c2_0 (by simpa using q)) (by rw [hd]; simp)
  f3 := fun q => h.f3 (by simpa using q)
  f4 := fun q q2 => up4 (h.f4 (by simpa using q) (by simpa using q2))
  f5 := fun q => absurd (h.c5_0 (by simpa using q)) (by rw [hd]; simp)
  f6 := fun q q2 => up6 (h.f6 (by simpa using q) (by simpa using q2))
  f7 := fun q => absurd (h.c7_0 (by simpa using q)) (by rw [hd]; simp)
theorem Wz.s1 {B : Nat} {W : World} {B0 : Nat} {p : Option Addr} {n c : Nat} {A : List Lab.L} {bad : Lab.L} {d : Nat → Bool} {t139 t140 t141 t142 t143 t144 t20 : Value} {w : World} {n140 : Value} (h : Wz.I B W B0 p n c A bad d t139 t140 t141 t142 t143 t144 t20 w) (hd : d 1 = false) (hn : n140 = .slice p n c) : Wz.I B W B0 p n c A bad (fun j => d j || j == 1) t139 n140 t141 t142 t143 t144 t20 w where
  b := h.b
  c2_0 := fun q => by have := h.c2_0 (by simpa using q); simp [this]
  c5_0 := fun q => by have := h.c5_0 (by simpa using q); simp [this]
  c5_2 := fun q => by have := h.c5_2 (by simpa using q); simp [this]
  c5_4 := fun q => by have := h.c5_4 (by simpa using q); simp [this]
  c7_0 := fun q => by have := h.c7_0 (by simpa using q); simp [this]
  c7_2 := fun q => by have := h.c7_2 (by simpa using q); simp [this]
  c7_4 := fun q => by have := h.c7_4 (by simpa using q); simp [this]
  c7_5 := fun q => by have := h.c7_5 (by simpa using q); simp [this]
  c7_6 := fun q => by have := h.c7_6 (by simpa using q); simp [this]
  f0 := fun q q2 => h.f0 (by simpa using q) (by simpa using q2)
  f1 := fun _ => hn
  f2 := fun q q2 => h.f2 (by simpa using q) (by simpa using q2)
  f3 := fun q => h.f3 (by simpa using q)
  f4 := fun q q2 => h.f4 (by simpa using q) (by simpa using q2)
  f5 := fun q q2 => h.f5 (by simpa using q) (by simpa using q2)
  f6 := fun q q2 => h.f6 (by simpa using q) (by simpa using q2)
  f7 := fun q => h.f7 (by simpa using q)
theorem Wz.s2 {B : Nat} {W : World} {B0 : Nat} {p : Option Addr} {n c : Nat} {A : List Lab.L} {bad : Lab.L} {d : Nat → Bool} {t139 t140 t141 t142 t143 t144 t20 : Value} {w w2 : World} {n141 : Value} (h : Wz.I B W B0 p n c A bad d t139 t140 t141 t142 t143 t144 t20 w) (hb : Below B w w2) (up4 : Wz.X bad t143 w → Wz.X bad t143 w2) (up6 : Wz.Z B0 t20 w → Wz.Z B0 t20 w2) (hd : d 2 = false) (ha0 : d 0 = true) (hn : OwnLabels B0 n141 ([] ++ A) w2) : Wz.I B W B0 p n c A bad (fun j => d j || j == 2) t139 t140 n141 t142 t143 t144 t20 w2 where
  b := h.b.trans hb
  c2_0 := fun _ => by simp [ha0]
  c5_0 := fun q => by have := h.c5_0 (by simpa using q); simp [this]
  c5_2 := fun _ => by simp
  c5_4 := fun q => by have := h.c5_4 (by simpa using q); simp [this]
  c7_0 := fun q => by have := h.c7_0 (by simpa using q); simp [this]
  c7_2 := fun _ => by simp
  c7_4 := fun q => by have := h.c7_4 (by simpa using q); simp [this]
  c7_5 := fun q => by have := h.c7_5 (by simpa using q); simp [this]
  c7_6 := fun q => by have := h.c7_6 (by simpa using q); simp [this]
  f0 := fun _ q2 => absurd q2 (by simp)
  f1 := fun q => h.f1 (by simpa using q)
  f2 := fun _ _ => hn
  f3 := fun q => h.f3 (by simpa using q)
  f4 := fun q q2 => up4 (h.f4 (by simpa using q) (by simpa using q2))
  f5 := fun q => absurd (h.c5_2 (by simpa using q)) (by rw [hd]; simp)
  f6 := fun q q2 => up6 (h.f6 (by simpa using q) (by simpa using q2))
  f7 := fun q => absurd (h.c7_2 (by simpa using q)) (by rw [hd]; simp)
theorem Wz.s3 {B : Nat} {W : World} {B0 : Nat} {p : Option Addr} {n c : Nat} {A : List Lab.L} {bad : Lab.L} {d : Nat → Bool} {t139 t140 t141 t142 t143 t144 t20 : Value} {w : World} {n142 : Value} (h : Wz.I B W B0 p n c A bad d t139 t140 t141 t142 t143 t144 t20 w) (hd : d 3 = false) (hn : n142 = .agg #[.string bad.n, .string bad.v]) : Wz.I B W B0 p n c A bad (fun j => d j || j == 3) t139 t140 t141 n142 t143 t144 t20 w where
  b := h.b
  c2_0 := fun q => by have := h.c2_0 (by simpa using q); simp [this]
  c5_0 := fun q => by have := h.c5_0 (by simpa using q); simp [this]
  c5_2 := fun q => by have := h.c5_2 (by simpa using q); simp [this]
  c5_4 := fun q => by have := h.c5_4 (by simpa using q); simp [this]
  c7_0 := fun q => by have := h.c7_0 (by simpa using q); simp [this]
  c7_2 := fun q => by have := h.c7_2 (by simpa using q); simp [this]
  c7_4 := fun q => by have := h.c7_4 (by simpa using q); simp [this]
  c7_5 := fun q => by have := h.c7_5 (by simpa using q); simp [this]
  c7_6 := fun q => by have := h.c7_6 (by simpa using q); simp [this]
  f0 := fun q q2 => h.f0 (by simpa using q) (by simpa using q2)
  f1 := fun q => h.f1 (by simpa using q)
  f2 := fun q q2 => h.f2 (by simpa using q) (by simpa using q2)
  f3 := fun _ => hn
  f4 := fun q q2 => h.f4 (by simpa using q) (by simpa using q2)
  f5 := fun q q2 => h.f5 (by simpa using q) (by simpa using q2)
  f6 := fun q q2 => h.f6 (by simpa using q) (by simpa using q2)
  f7 := fun q => h.f7 (by simpa using q)
theorem Wz.s4 {B : Nat} {W : World} {B0 : Nat} {p : Option Addr} {n c : Nat} {A : List Lab.L} {bad : Lab.L} {d : Nat → Bool} {t139 t140 t141 t142 t143 t144 t20 : Value} {w w2 : World} {n143 : Value} (h : Wz.I B W B0 p n c A bad d t139 t140 t141 t142 t143 t144 t20 w) (hb : Below B w w2) (up0 : Wz.E B0 t139 w → Wz.E B0 t139 w2) (up2 : OwnLabels B0 t141 ([] ++ A) w → OwnLabels B0 t141 ([] ++ A) w2) (up6 : Wz.Z B0 t20 w → Wz.Z B0 t20 w2) (hd : d 4 = false) (hn : Wz.X bad n143 w2) : Wz.I B W B0 p n c A bad (fun j => d j || j == 4) t139 t140 t141 t142 n143 t144 t20 w2 where
  b := h.b.trans hb
  c2_0 := fun q => by have := h.c2_0 (by simpa using q); simp [this]
  c5_0 := fun q => by have := h.c5_0 (by simpa using q); simp [this]
  c5_2 := fun q => by have := h.c5_2 (by simpa using q); simp [this]
  c5_4 := fun _ => by simp
  c7_0 := fun q => by have := h.c7_0 (by simpa using q); simp [this]
  c7_2 := fun q => by have := h.c7_2 (by simpa using q); simp [this]
  c7_4 := fun _ => by simp
  c7_5 := fun q => by have := h.c7_5 (by simpa using q); simp [this]
  c7_6 := fun q => by have := h.c7_6 (by simpa using q); simp [this]
  f0 := fun q q2 => up0 (h.f0 (by simpa using q) (by simpa using q2))
  f1 := fun q => h.f1 (by simpa using q)
  f2 := fun q q2 => up2 (h.f2 (by simpa using q) (by simpa using q2))
  f3 := fun q => h.f3 (by simpa using q)
  f4 := fun _ _ => hn
  f5 := fun q => absurd (h.c5_4 (by simpa using q)) (by rw [hd]; simp)
  f6 := fun q q2 => up6 (h.f6 (by simpa using q) (by simpa using q2))
  f7 := fun q => absurd (h.c7_4 (by simpa using q)) (by rw [hd]; simp)
theorem Wz.s5 {B : Nat} {W : World} {B0 : Nat} {p : Option Addr} {n c : Nat} {A : List Lab.L} {bad : Lab.L} {d : Nat → Bool} {t139 t140 t141 t142 t143 t144 t20 : Value} {w w2 : World} {n144 : Value} (h : Wz.I B W B0 p n c A bad d t139 t140 t141 t142 t143 t144 t20 w) (hb : Below B w w2) (up6 : Wz.Z B0 t20 w → Wz.Z B0 t20 w2) (hd : d 5 = false) (ha0 : d 0 = true) (ha2 : d 2 = true) (ha4 : d 4 = true) (hn : OwnLabels B0 n144 ([] ++ A ++ [bad]) w2) : Wz.I B W B0 p n c A bad (fun j => d j || j == 5) t139 t140 t141 t142 t143 n144 t20 w2 where
  b := h.b.trans hb
  c2_0 := fun q => by have := h.c2_0 (by simpa using q); simp [this]
  c5_0 := fun _ => by simp [ha0]
  c5_2 := fun _ => by simp [ha2]
  c5_4 := fun _ => by simp [ha4]
  c7_0 := fun q => by have := h.c7_0 (by simpa using q); simp [this]
  c7_2 := fun q => by have := h.c7_2 (by simpa using q); simp [this]
  c7_4 := fun q => by have := h.c7_4 (by simpa using q); simp [this]
  c7_5 := fun _ => by simp
  c7_6 := fun q => by have := h.c7_6 (by simpa using q); simp [this]
  f0 := fun _ q2 => absurd q2 (by simp [ha2])
  f1 := fun q => h.f1 (by simpa using q)
  f2 := fun _ q2 => absurd q2 (by simp)
  f3 := fun q => h.f3 (by simpa using q)
  f4 := fun _ q2 => absurd q2 (by simp)
  f5 := fun _ _ => hn
  f6 := fun q q2 => up6 (h.f6 (by simpa using q) (by simpa using q2))
  f7 := fun q => absurd (h.c7_5 (by simpa using q)) (by rw [hd]; simp)
theorem Wz.s6 {B : Nat} {W : World} {B0 : Nat} {p : Option Addr} {n c : Nat} {A : List Lab.L} {bad : Lab.L} {d : Nat → Bool} {t139 t140 t141 t142 t143 t144 t20 : Value} {w w2 : World} {n20 : Value} (h : Wz.I B W B0 p n c A bad d t139 t140 t141 t142 t143 t144 t20 w) (hb : Below B w w2) (up0 : Wz.E B0 t139 w → Wz.E B0 t139 w2) (up2 : OwnLabels B0 t141 ([] ++ A) w → OwnLabels B0 t141 ([] ++ A) w2) (up4 : Wz.X bad t143 w → Wz.X bad t143 w2) (up5 : OwnLabels B0 t144 ([] ++ A ++ [bad]) w → OwnLabels B0 t144 ([] ++ A ++ [bad]) w2) (hd : d 6 = false) (hn : Wz.Z B0 n20 w2) : Wz.I B W B0 p n c A bad (fun j => d j || j == 6) t139 t140 t141 t142 t143 t144 n20 w2 where
  b := h.b.trans hb
  c2_0 := fun q => by have := h.c2_0 (by simpa using q); simp [this]
  c5_0 := fun q => by have := h.c5_0 (by simpa using q); simp [this]
  c5_2 := fun q => by have := h.c5_2 (by simpa using q); simp [this]
  c5_4 := fun q => by have := h.c5_4 (by simpa using q); simp [this]
  c7_0 := fun q => by have := h.c7_0 (by simpa using q); simp [this]
  c7_2 := fun q => by have := h.c7_2 (by simpa using q); simp [this]
  c7_4 := fun q => by have := h.c7_4 (by simpa using q); simp [this]
  c7_5 := fun q => by have := h.c7_5 (by simpa using q); simp [this]
  c7_6 := fun _ => by simp
  f0 := fun q q2 => up0 (h.f0 (by simpa using q) (by simpa using q2))
  f1 := fun q => h.f1 (by simpa using q)
  f2 := fun q q2 => up2 (h.f2 (by simpa using q) (by simpa using q2))
  f3 := fun q => h.f3 (by simpa using q)
  f4 := fun q q2 => up4 (h.f4 (by simpa using q) (by simpa using q2))
  f5 := fun q q2 => up5 (h.f5 (by simpa using q) (by simpa using q2))
  f6 := fun _ _ => hn
  f7 := fun q => absurd (h.c7_6 (by simpa using q)) (by rw [hd]; simp)
theorem Wz.s7 {B : Nat} {W : World} {B0 : Nat} {p : Option Addr} {n c : Nat} {A : List Lab.L} {bad : Lab.L} {d : Nat → Bool} {t139 t140 t141 t142 t143 t144 t20 : Value} {w w2 : World} (h : Wz.I B W B0 p n c A bad d t139 t140 t141 t142 t143 t144 t20 w) (hb : Below B w w2) (hd : d 7 = false) (ha0 : d 0 = true) (ha2 : d 2 = true) (ha4 : d 4 = true) (ha5 : d 5 = true) (ha6 : d 6 = true) (hn : Wz.Y B0 A bad t20 w2) : Wz.I B W B0 p n c A bad (fun j => d j || j == 7) t139 t140 t141 t142 t143 t144 t20 w2 where
  b := h.b.trans hb
  c2_0 := fun q => by have := h.c2_0 (by simpa using q); simp [this]
  c5_0 := fun q => by have := h.c5_0 (by simpa using q); simp [this]
  c5_2 := fun q => by have := h.c5_2 (by simpa using q); simp [this]
  c5_4 := fun q => by have := h.c5_4 (by simpa using q); simp [this]
  c7_0 := fun _ => by simp [ha0]
  c7_2 := fun _ => by simp [ha2]
  c7_4 := fun _ => by simp [ha4]
  c7_5 := fun _ => by simp [ha5]
  c7_6 := fun _ => by simp [ha6]
  f0 := fun _ q2 => absurd q2 (by simp [ha2])
  f1 := fun q => h.f1 (by simpa using q)
  f2 := fun _ q2 => absurd q2 (by simp [ha5])
  f3 := fun q => h.f3 (by simpa using q)
  f4 := fun _ q2 => absurd q2 (by simp [ha5])
  f5 := fun _ q2 => absurd q2 (by simp)
  f6 := fun _ q2 => absurd q2 (by simp)
  f7 := fun _ => hn

end Go.Proofs.Ytflmojjpdmbnaaa
