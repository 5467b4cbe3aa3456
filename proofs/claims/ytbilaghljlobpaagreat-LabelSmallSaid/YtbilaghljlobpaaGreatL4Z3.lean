/- Contracts in the form the laws' walks want: labels that come out lie at an address. Names in memory. Contracts in the form the laws' walks want (second part): with the capacity; the beginning of labels. 'append(v, labels..)' at a step of a region that draws its order. -/
import Derived.Test.YtbilaghljlobpaaGreatL4N
import Derived.Test.YtbilaghljlobpaaGreatL4Y
import Derived.BigQuiet
import Derived.Deep.RegionHeld3
import Derived.Deep.AppendLies
namespace Go.Proofs.YtbilaghljlobpaaGreat
open Go.RowKit

theorem Lab.Good.fit {ls : List Lab.L} (h : Lab.Good ls) : Lab.Fit maxLen ls := fun x hx => by
  have := (Lab.right_fit ls h.r).1 x hx
  unfold maxLen
  omega
theorem Lab.fit_of_one {ls : List Lab.L} (h : ∀ x ∈ ls, Lab.one x = 0) : Lab.Fit maxLen ls := fun x hx => by
  have := Lab.one_fit x (h x hx)
  unfold maxLen
  omega
theorem OwnLabels.at {B n c : Nat} {p : Option Addr} {ls : List Lab.L} {w : World} (h : OwnLabels B (.slice p n c) ls w) : Lab.At p ls w := by
  obtain ⟨p', c', e, hA, _⟩ := OwnLabels.open h
  simp only [Value.slice.injEq] at e
  rw [e.1]
  exact hA
/-- what comes out, opened -/
theorem opened {f : FuncId} {args : Array Value} {w : World} {r : List Lab.L} {n B : Nat} {er : Value} (hn : r.length = n) (h : Calls Tryz.prog f args w fun e w' => (∃ v, e = .returned (.tuple #[v, er]) ∧ OwnLabels B v r w') ∧ Below w.heap.size w w') :
    Calls Tryz.prog f args w fun e w' => (∃ p c, e = .returned (.tuple #[.slice p n c, er]) ∧ Lab.At p r w') ∧ Below w.heap.size w w' :=
  h.mono fun e w' ⟨⟨v, he, hv⟩, hb⟩ => by
    obtain ⟨p, c, rfl, hA, _⟩ := OwnLabels.open hv
    rw [hn] at he
    exact ⟨⟨p, c, he, hA⟩, hb⟩
theorem opened1 {f : FuncId} {args : Array Value} {w : World} {r : List Lab.L} {n B : Nat} (hn : r.length = n) (h : Calls Tryz.prog f args w fun e w' => (∃ v, e = .returned v ∧ OwnLabels B v r w') ∧ Below w.heap.size w w') :
    Calls Tryz.prog f args w fun e w' => (∃ p c, e = .returned (.slice p n c) ∧ Lab.At p r w') ∧ Below w.heap.size w w' :=
  h.mono fun e w' ⟨⟨v, he, hv⟩, hb⟩ => by
    obtain ⟨p, c, rfl, hA, _⟩ := OwnLabels.open hv
    rw [hn] at he
    exact ⟨⟨p, c, he, hA⟩, hb⟩
/-- SameLabels of the same labels -/
theorem same_below (p1 p2 : Option Addr) (ls : List Lab.L) (n c1 c2 : Nat) (w : World) (hn : ls.length = n) (hA : Lab.At p1 ls w) (hB : Lab.At p2 ls w) (hl : n ≤ maxLen) :
    Calls Tryz.prog 65 #[.slice p1 n c1, .slice p2 n c2] w fun e w' => e = .returned (.bool true) ∧ Below w.heap.size w w' :=
  (same_true p1 p2 ls n c1 c2 w hn hA hB hl).mono fun e w' ⟨he, k, hk⟩ => ⟨he, by rw [hk]; exact below_drewN (Below.refl _ _) k⟩
def Lab.nameC : Array Value := (Lab.nameL.map Value.string).toArray
theorem Lab.name_at {g : Nat} {w : World} (h : w.heap[g]? = some (.cells Lab.nameC 9)) (k : Nat) (hk : k < 16) : w.cell? ⟨g, k, none⟩ = some (.string (Lab.nameL[k]'hk)) := by
  rw [Lib.cell_of_heap h]
  unfold Lab.nameC
  rw [List.getElem?_toArray, List.getElem?_map, List.getElem?_eq_getElem (show k < Lab.nameL.length from hk)]
  rfl
theorem Lab.isEmpty_iff (b : ByteArray) : b.toList.isEmpty = (Lab.bs b).isEmpty := by rw [ByteArray.toList_eq]; rfl
end Go.Proofs.YtbilaghljlobpaaGreat
namespace Go.Proofs.YtbilaghljlobpaaGreat
open Go.RowKit

theorem openedC {f : FuncId} {args : Array Value} {w : World} {r : List Lab.L} {n B : Nat} {er : Value} (hn : r.length = n) (h : Calls Tryz.prog f args w fun e w' => (∃ v, e = .returned (.tuple #[v, er]) ∧ OwnLabels B v r w') ∧ Below w.heap.size w w') :
    Calls Tryz.prog f args w fun e w' => (∃ p c, e = .returned (.tuple #[.slice p n c, er]) ∧ Lab.At p r w' ∧ n ≤ c) ∧ Below w.heap.size w w' :=
  h.mono fun e w' ⟨⟨v, he, hv⟩, hb⟩ => by
    obtain ⟨p, c, rfl, hA, hl, _⟩ := OwnLabels.open hv
    rw [hn] at he hl
    exact ⟨⟨p, c, he, hA, hl⟩, hb⟩
theorem Lab.At.takeN {p : Option Addr} {ls : List Lab.L} {w : World} (h : Lab.At p ls w) (k : Nat) : Lab.At p (ls.take k) w := by
  rcases h with rfl | ⟨b, o, rfl, hc⟩
  · exact .inl (List.take_nil)
  · refine .inr ⟨b, o, rfl, fun i hi => ?_⟩
    have hl : i < ls.length := by rw [List.length_take] at hi; omega
    rw [List.getElem_take]
    exact hc i hl
theorem same_isB (p1 p2 : Option Addr) (a b : List Lab.L) (n m c1 c2 : Nat) (r : Bool) (h : r = true ↔ a = b) (w : World) (hn : a.length = n) (hm : b.length = m) (hA : Lab.At p1 a w) (hB : Lab.At p2 b w) (hl : n ≤ maxLen) (hl2 : m ≤ maxLen) :
    Calls Tryz.prog 65 #[.slice p1 n c1, .slice p2 m c2] w fun e w' => e = .returned (.bool r) ∧ Below w.heap.size w w' :=
  (same_is p1 p2 a b n m c1 c2 r h w hn hm hA hB hl hl2).mono fun e w' ⟨he, k, hk⟩ => ⟨he, by rw [hk]; exact below_drewN (Below.refl _ _) k⟩
/-- three comparisons -/
theorem Lab.cmp_facts (a b c : List Lab.L) (x y z : Int) (hx : Lab.cmpL a b = x) (hy : Lab.cmpL b c = y) (hz : Lab.cmpL a c = z) :
    (x = -1 ∧ decide (x = 0) = false ∨ x = 0 ∧ decide (x = 0) = true ∨ x = 1 ∧ decide (x = 0) = false) ∧ (y = -1 ∨ y = 0 ∨ y = 1) ∧ (x ≤ 0 → y ≤ 0 → decide (0 < z) = false) ∧ (0 ≤ x → 0 ≤ y → decide (z < 0) = false) ∧ Lab.cmpL b a = -x := by
  refine ⟨?_, ?_, fun h1 h2 => ?_, fun h1 h2 => ?_, by rw [← hx]; exact Lab.cmpL_neg a b⟩
  · rcases Lab.cmpL_range a b with h | h | h <;> rw [hx] at h
    · exact .inl ⟨h, decide_eq_false (by omega)⟩
    · exact .inr (.inl ⟨h, decide_eq_true h⟩)
    · exact .inr (.inr ⟨h, decide_eq_false (by omega)⟩)
  · rw [← hy]; exact Lab.cmpL_range b c
  · have := Lab.cmpL_trans a b c (by omega) (by omega)
    exact decide_eq_false (by omega)
  · have h3 := Lab.cmpL_trans c b a (by rw [Lab.cmpL_neg b c]; omega) (by rw [Lab.cmpL_neg a b]; omega)
    rw [Lab.cmpL_neg a c] at h3
    exact decide_eq_false (by omega)
end Go.Proofs.YtbilaghljlobpaaGreat
namespace Go.Proofs.YtbilaghljlobpaaGreat
open Go.RowKit

theorem step_catL {ops : Array Oper} {o : Oper} {a : Act} {K : Act → World → Prop} {Q : Exit → Act → World → Prop} {E : Prop} {w : World} (T : TypeId) (hT : Tryz.prog.underlying T = some (.slice 31)) (hgd : o.guard = none) (s x : Operand)
    (ho : o.op = .call { callee := .builtin .append, args := #[s, x], argTypes := #[T, T] })
    (B : Nat) (v : Value) (l : List Lab.L) (hs : a.eval s = v) (hown : OwnLabels B v l w) (r : List Lab.L) (b off n c : Nat) (hx : a.eval x = .slice (some ⟨b, off, none⟩) n c) (hn : r.length = n)
    (hr : ∀ i (h : i < r.length), w.cell? ⟨b, off + i * 2, none⟩ = some (.string r[i].n) ∧ w.cell? ⟨b, off + i * 2 + 1, none⟩ = some (.string r[i].v)) (hlen : l.length + n ≤ 100000) (hB : B ≤ w.heap.size)
    (h : ∀ v' w', OwnLabels B v' (l ++ r) w' → w.grownBy w' v.ownBlock → K (a.put o.dst v') w') :
    if Region.wanted o (yielded ops a.tmps) = true then Oper.wp Tryz.prog o a w K Q else E := by
  have hw : Region.wanted o (yielded ops a.tmps) = true := by simp [Region.wanted, hgd]
  rw [if_pos hw]
  obtain ⟨i0, hi, hz0, hz1, hz2⟩ := info_parts infoLab
  subst hn
  refine wp_append_own w s x T ho B 31 i0 _ 2 32 hT hi hz0 hz1 hz2 rfl (by decide) v l.length (Lab.cells l) hs hown ⟨b, off, none⟩ r.length c (Lab.cells r) hx (Lab.cells_length r) (Lab.At.news hr rfl) (Lab.cells_one _) (by unfold maxLen; omega) (by omega) hB ?_
  intro v' w' h1 h2 _
  refine h v' w' ?_ h2
  unfold OwnLabels
  rw [Lab.cells_append, List.length_append]
  exact h1
theorem step_catP {ops : Array Oper} {o : Oper} {a : Act} {K : Act → World → Prop} {Q : Exit → Act → World → Prop} {E : Prop} {w : World} (T : TypeId) (hT : Tryz.prog.underlying T = some (.slice 31)) (hgd : o.guard = none) (s x : Operand)
    (ho : o.op = .call { callee := .builtin .append, args := #[s, x], argTypes := #[T, T] })
    (B : Nat) (v : Value) (l : List Lab.L) (hs : a.eval s = v) (hown : OwnLabels B v l w) (r : List Lab.L) (b off n c : Nat) (hx : a.eval x = .slice (some ⟨b, off, none⟩) n c) (hn : r.length = n)
    (hr : ∀ i (h : i < r.length), w.cell? ⟨b, off + i * 2, none⟩ = some (.string r[i].n) ∧ w.cell? ⟨b, off + i * 2 + 1, none⟩ = some (.string r[i].v)) (tot : Nat) (htot : l.length + n = tot) (hlen : tot ≤ 100000) (hB : B ≤ w.heap.size)
    (h : ∀ p' c' w', Lab.At p' (l ++ r) w' → w.grownBy w' v.ownBlock → K (a.put o.dst (.slice p' tot c')) w') :
    if Region.wanted o (yielded ops a.tmps) = true then Oper.wp Tryz.prog o a w K Q else E := by
  refine step_catL T hT hgd s x ho B v l hs hown r b off n c hx hn hr (by omega) hB fun v' w' h1 h2 => ?_
  obtain ⟨p, c', rfl, hA, _⟩ := OwnLabels.open h1
  have e : (l ++ r).length = tot := by rw [List.length_append]; omega
  rw [e]
  exact h p c' w' hA h2
theorem step_cat_noneL {ops : Array Oper} {o : Oper} {a : Act} {K : Act → World → Prop} {Q : Exit → Act → World → Prop} {E : Prop} {w : World} (T : TypeId) (hT : Tryz.prog.underlying T = some (.slice 31)) (hgd : o.guard = none) (s x : Operand)
    (ho : o.op = .call { callee := .builtin .append, args := #[s, x], argTypes := #[T, T] })
    (B : Nat) (v : Value) (l : List Lab.L) (hs : a.eval s = v) (hown : OwnLabels B v l w) (hx : a.eval x = .slice none 0 0)
    (h : K (a.put o.dst v) w) :
    if Region.wanted o (yielded ops a.tmps) = true then Oper.wp Tryz.prog o a w K Q else E := by
  have hw : Region.wanted o (yielded ops a.tmps) = true := by simp [Region.wanted, hgd]
  rw [if_pos hw]
  obtain ⟨i0, hi, _⟩ := info_parts infoLab
  have hrun := run_append_owned_none (P := Tryz.prog) (w := w) B T o.type 31 i0 2 hT hi v l.length (Lab.cells l) hown
  unfold Oper.wp
  simp [execOp, ho, resolve, invoke, builtin, hs, hx, hrun, Result.andThen]
  exact h
theorem OwnLabels.made (w : World) (B : Nat) (hB : B ≤ w.heap.size) : OwnLabels B (.slice (some ⟨w.heap.size, 0, none⟩) 0 0) [] (w.alloc (.cells #[] 31)) :=
  World.ownsRow_made w #[] 0 hB (Nat.zero_le _) rfl
theorem OwnLabels.lt {B g n c : Nat} {ls : List Lab.L} {w : World} (h : OwnLabels B (.slice (some ⟨g, 0, none⟩) n c) ls w) : g < w.heap.size := by
  rcases h.2 with ⟨h0, _⟩ | ⟨g', cap, cur, hv, hg, hh, _⟩
  · cases h0
  · cases hv
    exact lt_of_heap hh
theorem Lab.madeF_pos (xs : List Lab.Sm) : ∀ out : List Lab.L, 0 < out.length + xs.length → 0 < (Lab.madeF out xs).length := by
  induction xs with
  | nil => intro out h; simpa [Lab.madeF] using h
  | cons y r ih =>
    intro out _
    refine ih (Lab.push1 out (Lab.made1 y)) ?_
    unfold Lab.push1
    rw [List.length_append]
    simp only [List.length_cons]
    omega
theorem Lab.made_pos (xs : List Lab.Sm) (h : 0 < xs.length) : 0 < (Lab.made xs).length := by
  refine Lab.madeF_pos _ [] ?_
  rw [List.length_take, List.length_nil]
  omega
/-- the names that have values, as they are counted -/
def Lab.cnt (ls : List Lab.L) (k : Nat) : Nat := ((Lab.nameL.take k).filter fun n => !(Lab.bs (Lab.get ls n)).isEmpty).length
theorem Lab.cnt_le (ls : List Lab.L) (k : Nat) : Lab.cnt ls k ≤ k := by
  unfold Lab.cnt
  have := List.length_filter_le (fun n => !(Lab.bs (Lab.get ls n)).isEmpty) (Lab.nameL.take k)
  rw [List.length_take] at this
  omega
theorem Lab.cnt_succ (ls : List Lab.L) (k : Nat) (h : k < Lab.nameL.length) : Lab.cnt ls (k + 1) = Lab.cnt ls k + if (Lab.bs (Lab.get ls (Lab.nameL[k]'h))).isEmpty = true then 0 else 1 := by
  unfold Lab.cnt
  rw [List.take_succ_eq_append_getElem h, List.filter_append, List.length_append]
  congr 1
  cases he : (Lab.bs (Lab.get ls (Lab.nameL[k]'h))).isEmpty <;> simp [he]
theorem Lab.cnt_all (ls : List Lab.L) (h : Lab.Good ls) : Lab.cnt ls 16 = ls.length := Lab.count_names ls h.r h.f
end Go.Proofs.YtbilaghljlobpaaGreat
