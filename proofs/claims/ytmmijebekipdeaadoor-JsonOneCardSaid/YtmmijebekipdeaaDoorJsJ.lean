/- Values that are copied item by item: what the loop keeps; the region in which an item is copied and appended. -/
import Derived.Test.YtmmijebekipdeaaDoorJsS
import Derived.Test.YtmmijebekipdeaaDoorReg
namespace Go.Proofs.YtmmijebekipdeaaDoor
open Go.RowKit
set_option maxRecDepth 100000

/-- items of the reference's type -/
def Js.jR : Rec Js.It := { T := 68, k := 4, bytes := 72, z := .agg #[.int .u8 0, .string ByteArray.empty, .slice none 0 0, .slice none 0 0], enc := fun t => [.int .u8 t.x.kind, .string t.x.text, .slice t.n.1 t.n.2.1 t.n.2.2, .slice t.i.1 t.i.2.1 t.i.2.2] }
theorem Js.jOk : Js.jR.Ok where
  len := fun _ => rfl
  one := fun t u hu => by
    simp [Js.jR] at hu
    rcases hu with rfl | rfl | rfl | rfl <;> rfl
  pos := by decide
  small := by decide
  info := by kernel_rfl
  zs := rfl
/-- blocks that are free: from B on, not the value's own, not its items' -/
def Js.Fr (B O : Nat) (iv : Value) (k : Nat) : Prop := B ≤ k ∧ k ≠ O ∧ iv.ownBlock ≠ some k
/-- what the loop keeps: the value made so far, in block O -/
structure Js.CI (R : Rec Js.It) (B O kd : Nat) (t : ByteArray) (ns : List ByteArray) (nv : Value) (its : List Js.It) (iv : Value) (wB wr : World) : Prop where
  v : wr.heap[O]? = some (.cells #[.int .u8 kd, .string t, nv, iv] R.T)
  bl : Below B wB wr
  hO : B ≤ O
  ne : iv.ownBlock ≠ some O
  hns : Js.NsAt (Js.Fr B O iv) wr ns nv
  hits : OwnR R B iv its wr
  all : ∀ t : Js.It, t ∈ its → Js.VAt (Js.Fr B O iv) wr t.x t.nv t.iv
section
variable {R : Rec Js.It} {B O kd : Nat} {t : ByteArray} {ns : List ByteArray} {nv : Value} {its : List Js.It} {iv : Value} {wB wr : World}
theorem Js.CI.later (h : Js.CI R B O kd t ns nv its iv wB wr) {w' : World} (b : Below wr.heap.size wr w') (hB : B ≤ wr.heap.size) : Js.CI R B O kd t ns nv its iv wB w' where
  v := (b.block _ (lt_of_heap h.v)).trans h.v
  bl := h.bl.trans (b.mono hB)
  hO := h.hO
  ne := h.ne
  hns := h.hns.move ⟨fun k _ hk => b.block k hk, fun _ hk _ => hk⟩
  hits := h.hits.below b (Nat.le_refl _)
  all := fun t ht => Js.VAt.move ⟨fun k _ hk => b.block k hk, fun _ hk _ => hk⟩ _ _ _ (h.all t ht)
/-- what a callee has made since is free -/
theorem Js.CI.item (h : Js.CI R B O kd t ns nv its iv wB wr) {w1 : World} {x : Js.V} {xn xi : Value} (hv : Js.VAt (fun k => wr.heap.size ≤ k) w1 x xn xi) : Js.VAt (Js.Fr B O iv) w1 x xn xi := by
  have hO := lt_of_heap h.v
  have h2 := h.hO
  refine Js.VAt.move ⟨fun _ _ _ => rfl, fun j hj hl => ⟨by have := hj; omega, by have := hj; omega, fun e => ?_⟩⟩ _ _ _ hv
  have := (h.hits.block_lt e).2; have := hj; omega
theorem Js.CI.push (h : Js.CI R B O kd t ns nv its iv wB wr) (i : Js.It) (hi : Js.VAt (Js.Fr B O iv) wr i.x i.nv i.iv) {g cap : Nat} {w3 : World}
    (ho : OwnR R B (.slice (some ⟨g, 0, none⟩) (its.length + 1) cap) (its ++ [i]) w3) (hg : wr.grownBy w3 iv.ownBlock) (hf : iv.ownBlock = some g ∨ g = wr.heap.size) :
    Js.CI R B O kd t ns nv (its ++ [i]) (.slice (some ⟨g, 0, none⟩) (its.length + 1) cap) wB (w3.setCell ⟨O, 3, none⟩ (.slice (some ⟨g, 0, none⟩) (its.length + 1) cap)) := by
  have hO := lt_of_heap h.v
  have h2 := h.hO
  have hgO : g ≠ O := by
    rcases hf with hf | hf
    · exact fun e => h.ne (by rw [hf, e])
    · omega
  have kO : ∀ k, k ≠ O → (w3.setCell ⟨O, 3, none⟩ (.slice (some ⟨g, 0, none⟩) (its.length + 1) cap)).heap[k]? = w3.heap[k]? := fun k hk => Below.heap_setCell w3 ⟨O, 3, none⟩ _ k hk
  have hfr : Js.Moves (Js.Fr B O iv) (Js.Fr B O (.slice (some ⟨g, 0, none⟩) (its.length + 1) cap)) wr (w3.setCell ⟨O, 3, none⟩ (.slice (some ⟨g, 0, none⟩) (its.length + 1) cap)) := by
    refine ⟨fun k hk hl => ?_, fun k hk hl => ⟨hk.1, hk.2.1, fun e => ?_⟩⟩
    · rw [kO k hk.2.1]
      exact hg.block k hl (fun e => hk.2.2 e.symm)
    · simp only [Value.ownBlock, Option.some.injEq] at e
      subst e
      rcases hf with hf | hf
      · exact hk.2.2 hf
      · omega
  refine ⟨?_, ?_, h2, ?_, h.hns.move hfr, ?_, ?_⟩
  · exact heap_setCell_same w3 O 3 _ _ _ ((hg.block O hO (fun e => h.ne e.symm)).trans h.v)
  · exact (h.bl.grown hg (by have := h.bl.size; have := lt_of_heap h.v; omega) (fun k e => (h.hits.block_lt e).1)).setCell (p := ⟨O, 3, none⟩) h2 _
  · simp only [Value.ownBlock, ne_eq, Option.some.injEq]; exact hgO
  · obtain ⟨a1, a2⟩ := ho
    refine ⟨a1, ?_⟩
    rcases a2 with a2 | ⟨g2, cap2, cur, e, hgB, hh, r⟩
    · exact .inl a2
    · simp only [Value.slice.injEq, Option.some.injEq, Addr.mk.injEq] at e
      refine .inr ⟨g2, cap2, cur, by rw [e.1.1, e.2.2, List.length_append]; rfl, hgB, ?_, r⟩
      rw [kO g2 (by rw [← e.1.1]; exact hgO)]
      exact hh
  · intro t0 ht0
    have h0 : Js.VAt (Js.Fr B O iv) wr t0.x t0.nv t0.iv := by
      rcases List.mem_append.1 ht0 with h1 | h1
      · exact h.all t0 h1
      · rw [List.mem_singleton.1 h1]; exact hi
    exact Js.VAt.move hfr _ _ _ h0
/-- the value that is handed back -/
theorem Js.CI.done (ok : R.Ok) (hk4 : R.k = 4) (henc : R.enc = Js.iR.enc) (h : Js.CI R B O kd t ns nv its iv wB wr) :
    ∃ i : Js.It, i.x = .mk kd t ns (its.map Js.It.x) ∧ i.nv = nv ∧ i.iv = iv ∧ Js.VAt (fun k => B ≤ k) wr i.x i.nv i.iv := by
  obtain ⟨p, c, hnv, hc1, hc2, hcc⟩ := h.hns
  obtain ⟨q, d, hiv, hd1, hd2, _⟩ := h.hits.shape
  have hli := (show OwnR R B (.slice q its.length d) its wr from hiv ▸ h.hits)
  refine ⟨⟨.mk kd t ns (its.map Js.It.x), (p, ns.length, c), (q, its.length, d)⟩, rfl, hnv.symm, hiv.symm, ?_⟩
  show Js.VAt _ wr (.mk kd t ns (its.map Js.It.x)) (.slice p ns.length c) (.slice q its.length d)
  unfold Js.VAt
  refine ⟨⟨p, c, rfl, hc1, hc2, ?_⟩, q, d, by rw [List.length_map], by rw [List.length_map]; exact hd1, hd2, ?_⟩
  · rcases hcc with h0 | ⟨b, o, hp, hS, hA⟩
    · exact .inl h0
    · exact .inr ⟨b, o, hp, hS.1, hA⟩
  · rcases hli.open ok with ⟨_, h0⟩ | ⟨g, c2, e, hB, _, _, _, hA⟩
    · exact .inl (by rw [h0]; rfl)
    · simp only [Value.slice.injEq] at e
      refine .inr ⟨g, 0, e.1, hB, Js.LAt.of its g 0 (fun j hj k hk => by rw [Nat.zero_add]; have h9 := hA j hj k (by rw [hk4]; exact hk); rw [hk4, henc] at h9; exact h9) fun t ht => ?_⟩
      exact Js.VAt.move ⟨fun _ _ _ => rfl, fun k hk _ => hk.1⟩ _ _ _ (h.all t ht)
end
/-- what a function hands back that makes a value anew -/
def Js.Made (x : Js.V) (w : World) (e : Ending) (w' : World) : Prop :=
  ∃ t : Js.It, t.x = x ∧ e = .returned (.agg #[.int .u8 t.x.kind, .string t.x.text, t.nv, t.iv]) ∧ Below w.heap.size w w' ∧ Js.VAt (fun k => w.heap.size ≤ k) w' t.x t.nv t.iv

/-- how far the region has come in which an item is copied and appended -/
def Js.CPh (R : Rec Js.It) (B O kd : Nat) (t : ByteArray) (ns : List ByteArray) (nv : Value) (its : List Js.It) (iv : Value) (wB : World) (X : Nat) (C : Array Value) (y : Js.V) (d3 d4 d5 d7 : Bool) (t3 t4 t5 : Value) (w' : World) : Prop :=
  match d3, d4, d5, d7 with
  | false, false, false, false => Js.CI R B O kd t ns nv its iv wB w' ∧ w'.heap[X]? = some (.cells C 27)
  | true, false, false, false => ∃ i : Js.It, i.x = y ∧ t3 = .agg #[.int .u8 i.x.kind, .string i.x.text, i.nv, i.iv] ∧ Js.CI R B O kd t ns nv its iv wB w' ∧ Js.VAt (Js.Fr B O iv) w' i.x i.nv i.iv
  | true, true, false, false => ∃ (i : Js.It) (G c : Nat), i.x = y ∧ t4 = .slice (some ⟨G, 0, none⟩) 1 c ∧ w'.heap[G]? = some (.cells (R.enc i).toArray R.T) ∧ Js.CI R B O kd t ns nv its iv wB w' ∧ Js.VAt (Js.Fr B O iv) w' i.x i.nv i.iv
  | true, true, true, false => ∃ (i : Js.It) (p : Option Addr) (n c : Nat), i.x = y ∧ t5 = .slice p n c ∧ w'.heap[O]? = some (.cells #[.int .u8 kd, .string t, nv, iv] R.T) ∧ Js.CI R B O kd t ns nv (its ++ [i]) t5 wB (w'.setCell ⟨O, 3, none⟩ t5)
  | true, true, true, true => ∃ (i : Js.It) (iv' : Value), i.x = y ∧ Js.CI R B O kd t ns nv (its ++ [i]) iv' wB w'
  | _, _, _, _ => False
structure Js.CR (R : Rec Js.It) (B O kd : Nat) (t : ByteArray) (ns : List ByteArray) (nv : Value) (its : List Js.It) (iv : Value) (wB : World) (X : Nat) (C : Array Value) (y : Js.V) (d : Nat → Bool) (t0 t1 t2 t3 t4 t5 t6 : Value) (w' : World) : Prop where
  f0 : d 0 = true → t0 = .pointer (some ⟨O, 3, none⟩)
  f1 : d 1 = true → t1 = iv
  f2 : d 2 = true → t2 = .agg C
  f6 : d 6 = true → t6 = .pointer (some ⟨O, 3, none⟩)
  ord : d 5 = true → d 1 = true
  ord2 : d 3 = true → d 2 = true
  ph : Js.CPh R B O kd t ns nv its iv wB X C y (d 3) (d 4) (d 5) (d 7) t3 t4 t5 w'
section
variable {R : Rec Js.It} {B O kd : Nat} {t : ByteArray} {ns : List ByteArray} {nv : Value} {its : List Js.It} {iv : Value} {wB : World} {X : Nat} {C : Array Value} {y : Js.V} {d : Nat → Bool} {t0 t1 t2 t3 t4 t5 t6 : Value} {w' : World}
theorem Js.CR.s0 (h : Js.CR R B O kd t ns nv its iv wB X C y d t0 t1 t2 t3 t4 t5 t6 w') {n : Value} (hn : n = .pointer (some ⟨O, 3, none⟩)) : Js.CR R B O kd t ns nv its iv wB X C y (fun j => d j || j == 0) n t1 t2 t3 t4 t5 t6 w' where
  f0 := fun _ => hn
  f1 := fun q => h.f1 (by simpa using q)
  f2 := fun q => h.f2 (by simpa using q)
  f6 := fun q => h.f6 (by simpa using q)
  ord := fun q => by have := h.ord (by simpa using q); simp [this]
  ord2 := fun q => by have := h.ord2 (by simpa using q); simp [this]
  ph := by simpa using h.ph
theorem Js.CR.s1 (h : Js.CR R B O kd t ns nv its iv wB X C y d t0 t1 t2 t3 t4 t5 t6 w') {n : Value} (hn : n = iv) : Js.CR R B O kd t ns nv its iv wB X C y (fun j => d j || j == 1) t0 n t2 t3 t4 t5 t6 w' where
  f0 := fun q => h.f0 (by simpa using q)
  f1 := fun _ => hn
  f2 := fun q => h.f2 (by simpa using q)
  f6 := fun q => h.f6 (by simpa using q)
  ord := fun q => by have := h.ord (by simpa using q); simp [this]
  ord2 := fun q => by have := h.ord2 (by simpa using q); simp [this]
  ph := by simpa using h.ph
theorem Js.CR.s2 (h : Js.CR R B O kd t ns nv its iv wB X C y d t0 t1 t2 t3 t4 t5 t6 w') {n : Value} (hn : n = .agg C) : Js.CR R B O kd t ns nv its iv wB X C y (fun j => d j || j == 2) t0 t1 n t3 t4 t5 t6 w' where
  f0 := fun q => h.f0 (by simpa using q)
  f1 := fun q => h.f1 (by simpa using q)
  f2 := fun _ => hn
  f6 := fun q => h.f6 (by simpa using q)
  ord := fun q => by have := h.ord (by simpa using q); simp [this]
  ord2 := fun q => by have := h.ord2 (by simpa using q); simp [this]
  ph := by simpa using h.ph
theorem Js.CR.s6 (h : Js.CR R B O kd t ns nv its iv wB X C y d t0 t1 t2 t3 t4 t5 t6 w') {n : Value} (hn : n = .pointer (some ⟨O, 3, none⟩)) : Js.CR R B O kd t ns nv its iv wB X C y (fun j => d j || j == 6) t0 t1 t2 t3 t4 t5 n w' where
  f0 := fun q => h.f0 (by simpa using q)
  f1 := fun q => h.f1 (by simpa using q)
  f2 := fun q => h.f2 (by simpa using q)
  f6 := fun _ => hn
  ord := fun q => by have := h.ord (by simpa using q); simp [this]
  ord2 := fun q => by have := h.ord2 (by simpa using q); simp [this]
  ph := by simpa using h.ph
theorem Js.CR.at3 (h : Js.CR R B O kd t ns nv its iv wB X C y d t0 t1 t2 t3 t4 t5 t6 w') (hd : d 3 = false) : d 4 = false ∧ d 5 = false ∧ d 7 = false ∧ Js.CI R B O kd t ns nv its iv wB w' ∧ w'.heap[X]? = some (.cells C 27) := by
  have h9 := h.ph
  rw [hd] at h9
  revert h9
  cases d 4 <;> cases d 5 <;> cases d 7 <;> intro h9 <;> first | exact ⟨rfl, rfl, rfl, h9⟩ | exact h9.elim
theorem Js.CR.at4 (h : Js.CR R B O kd t ns nv its iv wB X C y d t0 t1 t2 t3 t4 t5 t6 w') (h3 : d 3 = true) (hd : d 4 = false) : d 5 = false ∧ d 7 = false ∧ ∃ i : Js.It, i.x = y ∧ t3 = .agg #[.int .u8 i.x.kind, .string i.x.text, i.nv, i.iv] ∧ Js.CI R B O kd t ns nv its iv wB w' ∧ Js.VAt (Js.Fr B O iv) w' i.x i.nv i.iv := by
  have h9 := h.ph
  rw [h3, hd] at h9
  revert h9
  cases d 5 <;> cases d 7 <;> intro h9 <;> first | exact ⟨rfl, rfl, h9⟩ | exact h9.elim
theorem Js.CR.at5 (h : Js.CR R B O kd t ns nv its iv wB X C y d t0 t1 t2 t3 t4 t5 t6 w') (h3 : d 3 = true) (h4 : d 4 = true) (hd : d 5 = false) : d 7 = false ∧ ∃ (i : Js.It) (G c : Nat), i.x = y ∧ t4 = .slice (some ⟨G, 0, none⟩) 1 c ∧ w'.heap[G]? = some (.cells (R.enc i).toArray R.T) ∧ Js.CI R B O kd t ns nv its iv wB w' ∧ Js.VAt (Js.Fr B O iv) w' i.x i.nv i.iv := by
  have h9 := h.ph
  rw [h3, h4, hd] at h9
  revert h9
  cases d 7 <;> intro h9 <;> first | exact ⟨rfl, h9⟩ | exact h9.elim
theorem Js.CR.at7 (h : Js.CR R B O kd t ns nv its iv wB X C y d t0 t1 t2 t3 t4 t5 t6 w') (h5 : d 5 = true) (hd : d 7 = false) : d 3 = true ∧ d 4 = true ∧ ∃ (i : Js.It) (p : Option Addr) (n c : Nat), i.x = y ∧ t5 = .slice p n c ∧ w'.heap[O]? = some (.cells #[.int .u8 kd, .string t, nv, iv] R.T) ∧ Js.CI R B O kd t ns nv (its ++ [i]) t5 wB (w'.setCell ⟨O, 3, none⟩ t5) := by
  have h9 := h.ph
  rw [h5, hd] at h9
  revert h9
  cases d 3 <;> cases d 4 <;> intro h9 <;> first | exact ⟨rfl, rfl, h9⟩ | exact h9.elim
/-- as long as nothing has been appended, the items stand in their cell -/
theorem Js.CR.cell (h : Js.CR R B O kd t ns nv its iv wB X C y d t0 t1 t2 t3 t4 t5 t6 w') (hd : d 5 = false) : w'.heap[O]? = some (.cells #[.int .u8 kd, .string t, nv, iv] R.T) := by
  have h9 := h.ph
  rw [hd] at h9
  revert h9
  cases d 3 <;> cases d 4 <;> cases d 7 <;> intro h9 <;> first | exact h9.elim | exact h9.1.v | (obtain ⟨i, _, _, h8, _⟩ := h9; exact h8.v) | (obtain ⟨i, G, c, _, _, _, h8, _⟩ := h9; exact h8.v)
theorem Js.CR.s3 (h : Js.CR R B O kd t ns nv its iv wB X C y d t0 t1 t2 t3 t4 t5 t6 w') {n : Value} {w2 : World} (hd2 : d 2 = true) (hd : d 3 = false) (hn : ∃ i : Js.It, i.x = y ∧ n = .agg #[.int .u8 i.x.kind, .string i.x.text, i.nv, i.iv] ∧ Js.CI R B O kd t ns nv its iv wB w2 ∧ Js.VAt (Js.Fr B O iv) w2 i.x i.nv i.iv) : Js.CR R B O kd t ns nv its iv wB X C y (fun j => d j || j == 3) t0 t1 t2 n t4 t5 t6 w2 where
  f0 := fun q => h.f0 (by simpa using q)
  f1 := fun q => h.f1 (by simpa using q)
  f2 := fun q => h.f2 (by simpa using q)
  f6 := fun q => h.f6 (by simpa using q)
  ord := fun q => by have := h.ord (by simpa using q); simp [this]
  ord2 := fun _ => by simp [hd2]
  ph := by
    obtain ⟨h4, h5, h7, _⟩ := h.at3 hd
    simp only [h4, h5, h7, hd]
    exact hn
theorem Js.CR.s4 (h : Js.CR R B O kd t ns nv its iv wB X C y d t0 t1 t2 t3 t4 t5 t6 w') {n : Value} {w2 : World} (h3 : d 3 = true) (hd : d 4 = false) (hn : ∃ (i : Js.It) (G c : Nat), i.x = y ∧ n = .slice (some ⟨G, 0, none⟩) 1 c ∧ w2.heap[G]? = some (.cells (R.enc i).toArray R.T) ∧ Js.CI R B O kd t ns nv its iv wB w2 ∧ Js.VAt (Js.Fr B O iv) w2 i.x i.nv i.iv) : Js.CR R B O kd t ns nv its iv wB X C y (fun j => d j || j == 4) t0 t1 t2 t3 n t5 t6 w2 where
  f0 := fun q => h.f0 (by simpa using q)
  f1 := fun q => h.f1 (by simpa using q)
  f2 := fun q => h.f2 (by simpa using q)
  f6 := fun q => h.f6 (by simpa using q)
  ord := fun q => by have := h.ord (by simpa using q); simp [this]
  ord2 := fun q => by have := h.ord2 (by simpa using q); simp [this]
  ph := by
    obtain ⟨h5, h7, _⟩ := h.at4 h3 hd
    simp only [h3, h5, h7, hd]
    exact hn
theorem Js.CR.s5 (h : Js.CR R B O kd t ns nv its iv wB X C y d t0 t1 t2 t3 t4 t5 t6 w') {n : Value} {w2 : World} (hd1 : d 1 = true) (h3 : d 3 = true) (h4 : d 4 = true) (hd : d 5 = false) (hn : ∃ (i : Js.It) (p : Option Addr) (m c : Nat), i.x = y ∧ n = .slice p m c ∧ w2.heap[O]? = some (.cells #[.int .u8 kd, .string t, nv, iv] R.T) ∧ Js.CI R B O kd t ns nv (its ++ [i]) n wB (w2.setCell ⟨O, 3, none⟩ n)) : Js.CR R B O kd t ns nv its iv wB X C y (fun j => d j || j == 5) t0 t1 t2 t3 t4 n t6 w2 where
  f0 := fun q => h.f0 (by simpa using q)
  f1 := fun q => h.f1 (by simpa using q)
  f2 := fun q => h.f2 (by simpa using q)
  f6 := fun q => h.f6 (by simpa using q)
  ord := fun _ => by simp [hd1]
  ord2 := fun q => by have := h.ord2 (by simpa using q); simp [this]
  ph := by
    obtain ⟨h7, _⟩ := h.at5 h3 h4 hd
    simp only [h3, h4, h7, hd]
    exact hn
theorem Js.CR.s7 (h : Js.CR R B O kd t ns nv its iv wB X C y d t0 t1 t2 t3 t4 t5 t6 w') {w2 : World} (h5 : d 5 = true) (hd : d 7 = false) (hn : ∃ (i : Js.It) (iv' : Value), i.x = y ∧ Js.CI R B O kd t ns nv (its ++ [i]) iv' wB w2) : Js.CR R B O kd t ns nv its iv wB X C y (fun j => d j || j == 7) t0 t1 t2 t3 t4 t5 t6 w2 where
  f0 := fun q => h.f0 (by simpa using q)
  f1 := fun q => h.f1 (by simpa using q)
  f2 := fun q => h.f2 (by simpa using q)
  f6 := fun q => h.f6 (by simpa using q)
  ord := fun q => by have := h.ord (by simpa using q); simp [this]
  ord2 := fun q => by have := h.ord2 (by simpa using q); simp [this]
  ph := by
    obtain ⟨h3, h4, _⟩ := h.at7 h5 hd
    simp only [h3, h4, h5, hd]
    exact hn
theorem Js.CR.start (h : Js.CI R B O kd t ns nv its iv wB w') (hX : w'.heap[X]? = some (.cells C 27)) : Js.CR R B O kd t ns nv its iv wB X C y (fun _ => false) t0 t1 t2 t3 t4 t5 t6 w' :=
  ⟨fun q => (by cases q), fun q => (by cases q), fun q => (by cases q), fun q => (by cases q), fun q => (by cases q), fun q => (by cases q), ⟨h, hX⟩⟩
theorem Js.CR.fin (h : Js.CR R B O kd t ns nv its iv wB X C y (fun j => decide (j < 8)) t0 t1 t2 t3 t4 t5 t6 w') : ∃ (i : Js.It) (iv' : Value), i.x = y ∧ Js.CI R B O kd t ns nv (its ++ [i]) iv' wB w' := h.ph
end
end Go.Proofs.YtmmijebekipdeaaDoor
