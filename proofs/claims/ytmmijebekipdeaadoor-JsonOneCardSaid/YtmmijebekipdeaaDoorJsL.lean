/- Rows of values that grow: what list keeps at each round. -/
import Derived.Test.YtmmijebekipdeaaDoorJsD
import Derived.Test.YtmmijebekipdeaaDoorJsV
namespace Go.Proofs.YtmmijebekipdeaaDoor
open Go.RowKit

abbrev Js.vObj (kd : Nat) (nv iv : Value) : Obj := .cells #[.int .u8 kd, .string ⟨#[]⟩, nv, iv] 27
/-- the blocks of items -/
def Js.Free (B : Nat) (nv iv : Value) (k : Nat) : Prop := B ≤ k ∧ nv.ownBlock ≠ some k ∧ iv.ownBlock ≠ some k
structure Js.LInv (R : Nat) (s : ByteArray) (o kd : Nat) (w : World) (ns : List ByteArray) (nv : Value) (its : List Js.It) (iv : Value) (i b : Nat) (wr : World) : Prop where
  r : wr.heap[R]? = some (Js.obj s i o b)
  res : wr.heap[w.heap.size]? = some (Js.vObj 0 (.slice none 0 0) (.slice none 0 0))
  v : wr.heap[w.heap.size + 1]? = some (Js.vObj kd nv iv)
  kp : Kp R w wr
  hns : OwnR Js.sR (w.heap.size + 2) nv ns wr
  hits : OwnR Js.iR (w.heap.size + 2) iv its wr
  all : ∀ t : Js.It, t ∈ its → Js.VAt (Js.Free (w.heap.size + 2) nv iv) wr t.x t.nv t.iv
section
variable {R : Nat} {s : ByteArray} {o kd : Nat} {w : World} {ns : List ByteArray} {nv : Value} {its : List Js.It} {iv : Value} {i b : Nat} {wr : World}

theorem Js.LInv.move (h : Js.LInv R s o kd w ns nv its iv i b wr) {w' : World} (k : Kp R wr w') (hR : R < w.heap.size) {i' b' : Nat} (r : w'.heap[R]? = some (Js.obj s i' o b')) : Js.LInv R s o kd w ns nv its iv i' b' w' where
  r := r
  res := (k.block _ (lt_of_heap h.res) (by omega)).trans h.res
  v := (k.block _ (lt_of_heap h.v) (by omega)).trans h.v
  kp := h.kp.trans k
  hns := Kp.own h.hns k (by omega)
  hits := Kp.own h.hits k (by omega)
  all := fun t ht => Js.VAt.move ⟨fun j hj hl => k.block j hl (by have := hj.1; omega), fun j hj _ => hj⟩ _ _ _ (h.all t ht)

/-- the kind is laid -/
theorem Js.LInv.kind (hR : R < w.heap.size) (kd' : Nat) (h : Js.LInv R s o kd w ns nv its iv i b wr) : Js.LInv R s o kd' w ns nv its iv i b (wr.setCell ⟨w.heap.size + 1, 0, none⟩ (.int .u8 kd')) := by
  have hV := lt_of_heap h.v
  have kV : Kp (w.heap.size + 1) wr (wr.setCell ⟨w.heap.size + 1, 0, none⟩ (.int .u8 kd')) := (Kp.refl _ wr).set 0 _
  refine ⟨(kV.block R (by omega) (by omega)).trans h.r, (kV.block _ (by omega) (by omega)).trans h.res, heap_setCell_same wr (w.heap.size + 1) 0 _ _ _ h.v, ?_, Kp.own h.hns kV (by omega), Kp.own h.hits kV (by omega), fun t ht => ?_⟩
  · exact ⟨h.kp.os, h.kp.tape, h.kp.output, by have := h.kp.size; simpa using this, fun k hk hr => (kV.block k (by omega) (by omega)).trans (h.kp.block k hk hr)⟩
  · exact Js.VAt.move ⟨fun j hj hl => kV.block j hl (by have := hj.1; omega), fun j hj _ => hj⟩ _ _ _ (h.all t ht)

/-- what a callee has made since is free -/
theorem Js.LInv.item (h : Js.LInv R s o kd w ns nv its iv i b wr) {w1 w2 : World} {x : Js.V} {xn xi : Value} (hv : Js.VAt (fun k => wr.heap.size ≤ k) w1 x xn xi) (k2 : Kp R w1 w2) (hR : R < w.heap.size) :
    Js.VAt (Js.Free (w.heap.size + 2) nv iv) w2 x xn xi := by
  have hs := lt_of_heap h.v
  refine Js.VAt.move ⟨fun j hj hl => k2.block j hl (by have := hj; omega), fun j hj _ => ⟨by have := hj; omega, fun e => ?_, fun e => ?_⟩⟩ _ _ _ hv
  · have := (h.hns.block_lt e).2; have := hj; omega
  · have := (h.hits.block_lt e).2; have := hj; omega

theorem Kp.grown {a w w' : World} {ob : Option Nat} (h : Kp R a w) (hg : w.grownBy w' ob) (ho : ∀ k, ob = some k → a.heap.size ≤ k) : Kp R a w' :=
  ⟨hg.os.trans h.os, hg.tape.trans h.tape, hg.output.trans h.output, Nat.le_trans h.size hg.size, fun k hk hr => (hg.block k (Nat.lt_of_lt_of_le hk h.size) (fun e => by have := ho k e.symm; omega)).trans (h.block k hk hr)⟩
theorem Kp.setOther {a w : World} (h : Kp R a w) {V : Nat} (hV : a.heap.size ≤ V) (j : Nat) (v : Value) : Kp R a (w.setCell ⟨V, j, none⟩ v) :=
  ⟨h.os, h.tape, h.output, by simpa using h.size, fun k hk hr => (Below.heap_setCell w ⟨V, j, none⟩ v k (by show k ≠ V; omega)).trans (h.block k hk hr)⟩

theorem Js.LInv.push (h : Js.LInv R s o kd w ns nv its iv i b wr) (hR : R < w.heap.size) (t : Js.It) (ht : Js.VAt (Js.Free (w.heap.size + 2) nv iv) wr t.x t.nv t.iv) {g cap : Nat} {w3 : World}
    (ho : OwnR Js.iR (w.heap.size + 2) (.slice (some ⟨g, 0, none⟩) (its.length + 1) cap) (its ++ [t]) w3) (hg : wr.grownBy w3 iv.ownBlock) (hf : iv.ownBlock = some g ∨ g = wr.heap.size) :
    Js.LInv R s o kd w ns nv (its ++ [t]) (.slice (some ⟨g, 0, none⟩) (its.length + 1) cap) i b (w3.setCell ⟨w.heap.size + 1, 3, none⟩ (.slice (some ⟨g, 0, none⟩) (its.length + 1) cap)) := by
  have hob : ∀ k, iv.ownBlock = some k → w.heap.size + 2 ≤ k := fun k e => (h.hits.block_lt e).1
  have hV := lt_of_heap h.v
  have hk : ∀ k, k < w.heap.size + 2 → w3.heap[k]? = wr.heap[k]? := fun k hk => hg.block k (by omega) (fun e => by have := hob k e.symm; omega)
  have kV : Kp (w.heap.size + 1) w3 (w3.setCell ⟨w.heap.size + 1, 3, none⟩ (.slice (some ⟨g, 0, none⟩) (its.length + 1) cap)) := (Kp.refl _ w3).set 3 _
  have hs3 := hg.size
  refine ⟨?_, ?_, ?_, ?_, Kp.own (h.hns.far h.hits (by decide) hg) kV (by omega), Kp.own ho kV (by omega), ?_⟩
  · rw [kV.block R (by omega) (by omega), hk R (by omega)]; exact h.r
  · rw [kV.block w.heap.size (by omega) (by omega), hk w.heap.size (by omega)]; exact h.res
  · exact heap_setCell_same w3 (w.heap.size + 1) 3 _ _ _ ((hk _ (by omega)).trans h.v)
  · exact (h.kp.grown hg (fun k e => by have := hob k e; omega)).setOther (by omega) _ _
  · intro t0 ht0
    have h0 : Js.VAt (Js.Free (w.heap.size + 2) nv iv) wr t0.x t0.nv t0.iv := by
      rcases List.mem_append.1 ht0 with h1 | h1
      · exact h.all t0 h1
      · rw [List.mem_singleton.1 h1]; exact ht
    refine Js.VAt.move ⟨fun j hj hl => ?_, fun j hj hl => ⟨hj.1, hj.2.1, fun e => ?_⟩⟩ _ _ _ h0
    · rw [kV.block j (by omega) (by have := hj.1; omega)]
      exact hg.block j hl (fun e => hj.2.2 e.symm)
    · simp only [Value.ownBlock, Option.some.injEq] at e
      subst e
      rcases hf with hf | hf
      · exact hj.2.2 hf
      · omega

theorem Js.LInv.name (h : Js.LInv R s o kd w ns nv its iv i b wr) (hR : R < w.heap.size) (x : ByteArray) {g cap : Nat} {w3 : World}
    (ho : OwnR Js.sR (w.heap.size + 2) (.slice (some ⟨g, 0, none⟩) (ns.length + 1) cap) (ns ++ [x]) w3) (hg : wr.grownBy w3 nv.ownBlock) (hf : nv.ownBlock = some g ∨ g = wr.heap.size) :
    Js.LInv R s o kd w (ns ++ [x]) (.slice (some ⟨g, 0, none⟩) (ns.length + 1) cap) its iv i b (w3.setCell ⟨w.heap.size + 1, 2, none⟩ (.slice (some ⟨g, 0, none⟩) (ns.length + 1) cap)) := by
  have hob : ∀ k, nv.ownBlock = some k → w.heap.size + 2 ≤ k := fun k e => (h.hns.block_lt e).1
  have hV := lt_of_heap h.v
  have hk : ∀ k, k < w.heap.size + 2 → w3.heap[k]? = wr.heap[k]? := fun k hk => hg.block k (by omega) (fun e => by have := hob k e.symm; omega)
  have kV : Kp (w.heap.size + 1) w3 (w3.setCell ⟨w.heap.size + 1, 2, none⟩ (.slice (some ⟨g, 0, none⟩) (ns.length + 1) cap)) := (Kp.refl _ w3).set 2 _
  have hs3 := hg.size
  refine ⟨?_, ?_, ?_, ?_, Kp.own ho kV (by omega), Kp.own (h.hits.far h.hns (by decide) hg) kV (by omega), ?_⟩
  · rw [kV.block R (by omega) (by omega), hk R (by omega)]; exact h.r
  · rw [kV.block w.heap.size (by omega) (by omega), hk w.heap.size (by omega)]; exact h.res
  · exact heap_setCell_same w3 (w.heap.size + 1) 2 _ _ _ ((hk _ (by omega)).trans h.v)
  · exact (h.kp.grown hg (fun k e => by have := hob k e; omega)).setOther (by omega) _ _
  · intro t0 ht0
    refine Js.VAt.move ⟨fun j hj hl => ?_, fun j hj hl => ⟨hj.1, fun e => ?_, hj.2.2⟩⟩ _ _ _ (h.all t0 ht0)
    · rw [kV.block j (by omega) (by have := hj.1; omega)]
      exact hg.block j hl (fun e => hj.2.1 e.symm)
    · simp only [Value.ownBlock, Option.some.injEq] at e
      subst e
      rcases hf with hf | hf
      · exact hj.2.1 hf
      · omega

/-- items in a row are values one behind another -/
theorem Js.LAt.of {S : Nat → Prop} {w : World} : ∀ (its : List Js.It) (b o : Nat), (∀ i (h : i < its.length), ∀ j, j < 4 → w.cell? ⟨b, o + i * 4 + j, none⟩ = (Js.iR.enc its[i])[j]?) → (∀ t ∈ its, Js.VAt S w t.x t.nv t.iv) → Js.LAt S w (its.map Js.It.x) b o
  | [], _, _, _, _ => by unfold Js.LAt; trivial
  | t :: r, b, o, h, hall => by
    rw [List.map_cons]
    unfold Js.LAt
    have h0 : ∀ j, j < 4 → w.cell? ⟨b, o + j, none⟩ = (Js.iR.enc t)[j]? := fun j hj => by have := h 0 (by simp) j hj; simpa using this
    refine ⟨⟨t.nv, t.iv, h0 0 (by omega), h0 1 (by omega), h0 2 (by omega), h0 3 (by omega), hall t List.mem_cons_self⟩, Js.LAt.of r b (o + 4) (fun i hi j hj => ?_) (fun t2 h2 => hall t2 (List.mem_cons_of_mem _ h2))⟩
    have := h (i + 1) (by simpa using hi) j hj
    rw [show o + 4 + i * 4 + j = o + (i + 1) * 4 + j by omega]
    simpa using this

/-- the value that list hands back -/
theorem Js.LInv.done (h : Js.LInv R s o kd w ns nv its iv i b wr) :
    ∃ t : Js.It, t.x = .mk kd ⟨#[]⟩ ns (its.map Js.It.x) ∧ t.nv = nv ∧ t.iv = iv ∧ Js.VAt (fun k => w.heap.size + 2 ≤ k) wr t.x t.nv t.iv := by
  obtain ⟨p, c, hnv, hc1, hc2, _⟩ := h.hns.shape
  obtain ⟨q, d, hiv, hd1, hd2, _⟩ := h.hits.shape
  have hln := (show OwnR Js.sR (w.heap.size + 2) (.slice p ns.length c) ns wr from hnv ▸ h.hns)
  have hli := (show OwnR Js.iR (w.heap.size + 2) (.slice q its.length d) its wr from hiv ▸ h.hits)
  refine ⟨⟨.mk kd ⟨#[]⟩ ns (its.map Js.It.x), (p, ns.length, c), (q, its.length, d)⟩, rfl, hnv.symm, hiv.symm, ?_⟩
  show Js.VAt _ wr (.mk kd ⟨#[]⟩ ns (its.map Js.It.x)) (.slice p ns.length c) (.slice q its.length d)
  unfold Js.VAt
  refine ⟨⟨p, c, rfl, hc1, hc2, ?_⟩, q, d, by rw [List.length_map], by rw [List.length_map]; exact hd1, hd2, ?_⟩
  · rcases hln.open Js.sOk with ⟨_, h0⟩ | ⟨g, c2, e, hB, _, _, _, hA⟩
    · exact .inl h0
    · simp only [Value.slice.injEq] at e
      exact .inr ⟨g, 0, e.1, by omega, fun j hj => by have := hA j hj 0 (by decide); rw [Nat.zero_add]; simpa [Js.sR] using this⟩
  · rcases hli.open Js.iOk with ⟨_, h0⟩ | ⟨g, c2, e, hB, _, _, _, hA⟩
    · exact .inl (by rw [h0]; rfl)
    · simp only [Value.slice.injEq] at e
      refine .inr ⟨g, 0, e.1, by omega, Js.LAt.of its g 0 (fun j hj k hk => by rw [Nat.zero_add]; exact hA j hj k hk) fun t ht => ?_⟩
      exact Js.VAt.move ⟨fun _ _ _ => rfl, fun k hk _ => by have := hk.1; omega⟩ _ _ _ (h.all t ht)
theorem Js.LInv.ret (h : Js.LInv R s o kd w ns nv its iv i b wr) (hR : R < w.heap.size) {w' : World} (kV : Kp w.heap.size wr w') :
    Js.VGoes R s i o b (.mk kd ⟨#[]⟩ ns (its.map Js.It.x)) w (.returned (.agg #[.int .u8 kd, .string ⟨#[]⟩, nv, iv])) w' := by
  obtain ⟨t, hx, hn, hi, hv⟩ := h.done
  have hs := lt_of_heap h.v
  refine ⟨t, hx, by rw [hn, hi, hx]; rfl, (kV.block R (by omega) (by omega)).trans h.r, ?_, ?_⟩
  · exact ⟨kV.os.trans h.kp.os, kV.tape.trans h.kp.tape, kV.output.trans h.kp.output, Nat.le_trans h.kp.size kV.size, fun k hk hr => (kV.block k (by omega) (by omega)).trans (h.kp.block k hk hr)⟩
  · exact Js.VAt.move ⟨fun k hk hl => kV.block k hl (by have := hk; omega), fun k hk _ => by have := hk; omega⟩ _ _ _ hv
/-- the result is laid in its block, and handed back -/
theorem Js.ret_store {fn : Func} {Q : Ending → World → Prop} {a : Act} {w : World} {V n : Nat} {x0 x1 x2 x3 y0 y1 y2 y3 : Value} (hres : fn.results = #[.cell n 27]) (ht : a.tmps[n]? = some (.pointer (some ⟨V, 0, none⟩)))
    (hh : w.heap[V]? = some (.cells #[y0, y1, y2, y3] 27)) (hd : a.defers = []) (h : ∀ w', Kp V w w' → Q (.returned (.agg #[x0, x1, x2, x3])) w') :
    bodyPost Tryd.prog fn Q .ret a ((((w.setCell ⟨V, 0, none⟩ x0).setCell ⟨V, 1, none⟩ x1).setCell ⟨V, 2, none⟩ x2).setCell ⟨V, 3, none⟩ x3) := by
  have k0 := heap_setCell_same _ V 0 _ _ x0 hh
  have k1 := heap_setCell_same _ V 1 _ _ x1 k0
  have k2 := heap_setCell_same _ V 2 _ _ x2 k1
  have k3 := heap_setCell_same _ V 3 _ _ x3 k2
  exact Js.ret_cell hres ht k3 hd (h _ (((((Kp.refl V w).set 0 _).set 1 _).set 2 _).set 3 _))
end

/-- how far the region has come in which an item is read and appended -/
def Js.Ph (R : Nat) (s : ByteArray) (o kd : Nat) (w : World) (ns : List ByteArray) (nv : Value) (its : List Js.It) (iv : Value) (i b : Nat) (E : Js.R (Js.V × Nat × Nat)) (d3 d4 d5 d7 : Bool) (t66 t67 t68 : Value) (w' : World) : Prop :=
  match d3, d4, d5, d7 with
  | false, false, false, false => Js.LInv R s o kd w ns nv its iv i b w'
  | true, false, false, false => ∃ (t : Js.It) (x : Js.V) (j b2 : Nat), E = .ok (x, j, b2) ∧ t.x = x ∧ t66 = .agg #[.int .u8 t.x.kind, .string t.x.text, t.nv, t.iv] ∧ Js.LInv R s o kd w ns nv its iv j b2 w' ∧ Js.VAt (Js.Free (w.heap.size + 2) nv iv) w' t.x t.nv t.iv
  | true, true, false, false => ∃ (t : Js.It) (x : Js.V) (j b2 G c : Nat), E = .ok (x, j, b2) ∧ t.x = x ∧ t67 = .slice (some ⟨G, 0, none⟩) 1 c ∧ w'.heap[G]? = some (.cells (Js.iR.enc t).toArray 27) ∧ Js.LInv R s o kd w ns nv its iv j b2 w' ∧ Js.VAt (Js.Free (w.heap.size + 2) nv iv) w' t.x t.nv t.iv
  | true, true, true, false => ∃ (t : Js.It) (x : Js.V) (j b2 : Nat) (p : Option Addr) (n c : Nat), E = .ok (x, j, b2) ∧ t.x = x ∧ t68 = .slice p n c ∧ w'.heap[w.heap.size + 1]? = some (Js.vObj kd nv iv) ∧ Js.LInv R s o kd w ns nv (its ++ [t]) t68 j b2 (w'.setCell ⟨w.heap.size + 1, 3, none⟩ t68)
  | true, true, true, true => ∃ (t : Js.It) (x : Js.V) (j b2 : Nat) (iv' : Value), E = .ok (x, j, b2) ∧ t.x = x ∧ Js.LInv R s o kd w ns nv (its ++ [t]) iv' j b2 w'
  | _, _, _, _ => False
structure Js.RI (R : Nat) (s : ByteArray) (o kd : Nat) (w : World) (ns : List ByteArray) (nv : Value) (its : List Js.It) (iv : Value) (i b : Nat) (E : Js.R (Js.V × Nat × Nat)) (d : Nat → Bool) (t63 t64 t65 t66 t67 t68 t69 : Value) (w' : World) : Prop where
  f0 : d 0 = true → t63 = .pointer (some ⟨w.heap.size + 1, 3, none⟩)
  f1 : d 1 = true → t64 = iv
  f2 : d 2 = true → t65 = .pointer (some ⟨R, 0, none⟩)
  f6 : d 6 = true → t69 = .pointer (some ⟨w.heap.size + 1, 3, none⟩)
  ord : d 5 = true → d 1 = true
  ph : Js.Ph R s o kd w ns nv its iv i b E (d 3) (d 4) (d 5) (d 7) t66 t67 t68 w'
section
variable {R : Nat} {s : ByteArray} {o kd : Nat} {w : World} {ns : List ByteArray} {nv : Value} {its : List Js.It} {iv : Value} {i b : Nat} {E : Js.R (Js.V × Nat × Nat)} {d : Nat → Bool} {t63 t64 t65 t66 t67 t68 t69 : Value} {w' : World}
theorem Js.RI.s0 (h : Js.RI R s o kd w ns nv its iv i b E d t63 t64 t65 t66 t67 t68 t69 w') {n : Value} (hn : n = .pointer (some ⟨w.heap.size + 1, 3, none⟩)) : Js.RI R s o kd w ns nv its iv i b E (fun j => d j || j == 0) n t64 t65 t66 t67 t68 t69 w' where
  f0 := fun _ => hn
  f1 := fun q => h.f1 (by simpa using q)
  f2 := fun q => h.f2 (by simpa using q)
  f6 := fun q => h.f6 (by simpa using q)
  ord := fun q => by have := h.ord (by simpa using q); simp [this]
  ph := by simpa using h.ph
theorem Js.RI.s1 (h : Js.RI R s o kd w ns nv its iv i b E d t63 t64 t65 t66 t67 t68 t69 w') {n : Value} (hn : n = iv) : Js.RI R s o kd w ns nv its iv i b E (fun j => d j || j == 1) t63 n t65 t66 t67 t68 t69 w' where
  f0 := fun q => h.f0 (by simpa using q)
  f1 := fun _ => hn
  f2 := fun q => h.f2 (by simpa using q)
  f6 := fun q => h.f6 (by simpa using q)
  ord := fun q => by have := h.ord (by simpa using q); simp [this]
  ph := by simpa using h.ph
theorem Js.RI.s2 (h : Js.RI R s o kd w ns nv its iv i b E d t63 t64 t65 t66 t67 t68 t69 w') {n : Value} (hn : n = .pointer (some ⟨R, 0, none⟩)) : Js.RI R s o kd w ns nv its iv i b E (fun j => d j || j == 2) t63 t64 n t66 t67 t68 t69 w' where
  f0 := fun q => h.f0 (by simpa using q)
  f1 := fun q => h.f1 (by simpa using q)
  f2 := fun _ => hn
  f6 := fun q => h.f6 (by simpa using q)
  ord := fun q => by have := h.ord (by simpa using q); simp [this]
  ph := by simpa using h.ph
theorem Js.RI.s6 (h : Js.RI R s o kd w ns nv its iv i b E d t63 t64 t65 t66 t67 t68 t69 w') {n : Value} (hn : n = .pointer (some ⟨w.heap.size + 1, 3, none⟩)) : Js.RI R s o kd w ns nv its iv i b E (fun j => d j || j == 6) t63 t64 t65 t66 t67 t68 n w' where
  f0 := fun q => h.f0 (by simpa using q)
  f1 := fun q => h.f1 (by simpa using q)
  f2 := fun q => h.f2 (by simpa using q)
  f6 := fun _ => hn
  ord := fun q => by have := h.ord (by simpa using q); simp [this]
  ph := by simpa using h.ph
theorem Js.RI.at3 (h : Js.RI R s o kd w ns nv its iv i b E d t63 t64 t65 t66 t67 t68 t69 w') (hd : d 3 = false) : d 4 = false ∧ d 5 = false ∧ d 7 = false ∧ Js.LInv R s o kd w ns nv its iv i b w' := by
  have h9 := h.ph
  rw [hd] at h9
  revert h9
  cases d 4 <;> cases d 5 <;> cases d 7 <;> intro h9 <;> first | exact ⟨rfl, rfl, rfl, h9⟩ | exact h9.elim
theorem Js.RI.at4 (h : Js.RI R s o kd w ns nv its iv i b E d t63 t64 t65 t66 t67 t68 t69 w') (h3 : d 3 = true) (hd : d 4 = false) : d 5 = false ∧ d 7 = false ∧ ∃ (t : Js.It) (x : Js.V) (j b2 : Nat), E = .ok (x, j, b2) ∧ t.x = x ∧ t66 = .agg #[.int .u8 t.x.kind, .string t.x.text, t.nv, t.iv] ∧ Js.LInv R s o kd w ns nv its iv j b2 w' ∧ Js.VAt (Js.Free (w.heap.size + 2) nv iv) w' t.x t.nv t.iv := by
  have h9 := h.ph
  rw [h3, hd] at h9
  revert h9
  cases d 5 <;> cases d 7 <;> intro h9 <;> first | exact ⟨rfl, rfl, h9⟩ | exact h9.elim
theorem Js.RI.at5 (h : Js.RI R s o kd w ns nv its iv i b E d t63 t64 t65 t66 t67 t68 t69 w') (h3 : d 3 = true) (h4 : d 4 = true) (hd : d 5 = false) : d 7 = false ∧ ∃ (t : Js.It) (x : Js.V) (j b2 G c : Nat), E = .ok (x, j, b2) ∧ t.x = x ∧ t67 = .slice (some ⟨G, 0, none⟩) 1 c ∧ w'.heap[G]? = some (.cells (Js.iR.enc t).toArray 27) ∧ Js.LInv R s o kd w ns nv its iv j b2 w' ∧ Js.VAt (Js.Free (w.heap.size + 2) nv iv) w' t.x t.nv t.iv := by
  have h9 := h.ph
  rw [h3, h4, hd] at h9
  revert h9
  cases d 7 <;> intro h9 <;> first | exact ⟨rfl, h9⟩ | exact h9.elim
theorem Js.RI.at7 (h : Js.RI R s o kd w ns nv its iv i b E d t63 t64 t65 t66 t67 t68 t69 w') (h5 : d 5 = true) (hd : d 7 = false) : d 3 = true ∧ d 4 = true ∧ ∃ (t : Js.It) (x : Js.V) (j b2 : Nat) (p : Option Addr) (n c : Nat), E = .ok (x, j, b2) ∧ t.x = x ∧ t68 = .slice p n c ∧ w'.heap[w.heap.size + 1]? = some (Js.vObj kd nv iv) ∧ Js.LInv R s o kd w ns nv (its ++ [t]) t68 j b2 (w'.setCell ⟨w.heap.size + 1, 3, none⟩ t68) := by
  have h9 := h.ph
  rw [h5, hd] at h9
  revert h9
  cases d 3 <;> cases d 4 <;> intro h9 <;> first | exact ⟨rfl, rfl, h9⟩ | exact h9.elim
/-- as long as nothing has been appended, the items stand in their cell -/
theorem Js.RI.cell (h : Js.RI R s o kd w ns nv its iv i b E d t63 t64 t65 t66 t67 t68 t69 w') (hd : d 5 = false) : w'.heap[w.heap.size + 1]? = some (Js.vObj kd nv iv) := by
  have h9 := h.ph
  rw [hd] at h9
  revert h9
  cases d 3 <;> cases d 4 <;> cases d 7 <;> intro h9 <;> first | exact h9.elim | exact h9.v | (obtain ⟨t, x, j, b2, _, _, _, h8, _⟩ := h9; exact h8.v) | (obtain ⟨t, x, j, b2, G, c, _, _, _, _, h8, _⟩ := h9; exact h8.v)
theorem Js.RI.s3 (h : Js.RI R s o kd w ns nv its iv i b E d t63 t64 t65 t66 t67 t68 t69 w') {n : Value} {w2 : World} (hd : d 3 = false) (hn : ∃ (t : Js.It) (x : Js.V) (j b2 : Nat), E = .ok (x, j, b2) ∧ t.x = x ∧ n = .agg #[.int .u8 t.x.kind, .string t.x.text, t.nv, t.iv] ∧ Js.LInv R s o kd w ns nv its iv j b2 w2 ∧ Js.VAt (Js.Free (w.heap.size + 2) nv iv) w2 t.x t.nv t.iv) : Js.RI R s o kd w ns nv its iv i b E (fun j => d j || j == 3) t63 t64 t65 n t67 t68 t69 w2 where
  f0 := fun q => h.f0 (by simpa using q)
  f1 := fun q => h.f1 (by simpa using q)
  f2 := fun q => h.f2 (by simpa using q)
  f6 := fun q => h.f6 (by simpa using q)
  ord := fun q => by have := h.ord (by simpa using q); simp [this]
  ph := by
    obtain ⟨h4, h5, h7, _⟩ := h.at3 hd
    simp only [h4, h5, h7, hd]
    exact hn
theorem Js.RI.s4 (h : Js.RI R s o kd w ns nv its iv i b E d t63 t64 t65 t66 t67 t68 t69 w') {n : Value} {w2 : World} (h3 : d 3 = true) (hd : d 4 = false) (hn : ∃ (t : Js.It) (x : Js.V) (j b2 G c : Nat), E = .ok (x, j, b2) ∧ t.x = x ∧ n = .slice (some ⟨G, 0, none⟩) 1 c ∧ w2.heap[G]? = some (.cells (Js.iR.enc t).toArray 27) ∧ Js.LInv R s o kd w ns nv its iv j b2 w2 ∧ Js.VAt (Js.Free (w.heap.size + 2) nv iv) w2 t.x t.nv t.iv) : Js.RI R s o kd w ns nv its iv i b E (fun j => d j || j == 4) t63 t64 t65 t66 n t68 t69 w2 where
  f0 := fun q => h.f0 (by simpa using q)
  f1 := fun q => h.f1 (by simpa using q)
  f2 := fun q => h.f2 (by simpa using q)
  f6 := fun q => h.f6 (by simpa using q)
  ord := fun q => by have := h.ord (by simpa using q); simp [this]
  ph := by
    obtain ⟨h5, h7, _⟩ := h.at4 h3 hd
    simp only [h3, h5, h7, hd]
    exact hn
theorem Js.RI.s5 (h : Js.RI R s o kd w ns nv its iv i b E d t63 t64 t65 t66 t67 t68 t69 w') {n : Value} {w2 : World} (hd1 : d 1 = true) (h3 : d 3 = true) (h4 : d 4 = true) (hd : d 5 = false) (hn : ∃ (t : Js.It) (x : Js.V) (j b2 : Nat) (p : Option Addr) (m c : Nat), E = .ok (x, j, b2) ∧ t.x = x ∧ n = .slice p m c ∧ w2.heap[w.heap.size + 1]? = some (Js.vObj kd nv iv) ∧ Js.LInv R s o kd w ns nv (its ++ [t]) n j b2 (w2.setCell ⟨w.heap.size + 1, 3, none⟩ n)) : Js.RI R s o kd w ns nv its iv i b E (fun j => d j || j == 5) t63 t64 t65 t66 t67 n t69 w2 where
  f0 := fun q => h.f0 (by simpa using q)
  f1 := fun q => h.f1 (by simpa using q)
  f2 := fun q => h.f2 (by simpa using q)
  f6 := fun q => h.f6 (by simpa using q)
  ord := fun _ => by simp [hd1]
  ph := by
    obtain ⟨h7, _⟩ := h.at5 h3 h4 hd
    simp only [h3, h4, h7, hd]
    exact hn
theorem Js.RI.s7 (h : Js.RI R s o kd w ns nv its iv i b E d t63 t64 t65 t66 t67 t68 t69 w') {w2 : World} (h5 : d 5 = true) (hd : d 7 = false) (hn : ∃ (t : Js.It) (x : Js.V) (j b2 : Nat) (iv' : Value), E = .ok (x, j, b2) ∧ t.x = x ∧ Js.LInv R s o kd w ns nv (its ++ [t]) iv' j b2 w2) : Js.RI R s o kd w ns nv its iv i b E (fun j => d j || j == 7) t63 t64 t65 t66 t67 t68 t69 w2 where
  f0 := fun q => h.f0 (by simpa using q)
  f1 := fun q => h.f1 (by simpa using q)
  f2 := fun q => h.f2 (by simpa using q)
  f6 := fun q => h.f6 (by simpa using q)
  ord := fun q => by have := h.ord (by simpa using q); simp [this]
  ph := by
    obtain ⟨h3, h4, _⟩ := h.at7 h5 hd
    simp only [h3, h4, h5, hd]
    exact hn
theorem Js.RI.start (h : Js.LInv R s o kd w ns nv its iv i b w') : Js.RI R s o kd w ns nv its iv i b E (fun _ => false) t63 t64 t65 t66 t67 t68 t69 w' :=
  ⟨fun q => (by cases q), fun q => (by cases q), fun q => (by cases q), fun q => (by cases q), fun q => (by cases q), h⟩
theorem Js.RI.fin (h : Js.RI R s o kd w ns nv its iv i b E (fun j => decide (j < 8)) t63 t64 t65 t66 t67 t68 t69 w') : ∃ (t : Js.It) (x : Js.V) (j b2 : Nat) (iv' : Value), E = .ok (x, j, b2) ∧ t.x = x ∧ Js.LInv R s o kd w ns nv (its ++ [t]) iv' j b2 w' := h.ph
end
end Go.Proofs.YtmmijebekipdeaaDoor
