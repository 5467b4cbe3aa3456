/- Slices of targets that a call makes itself by append. Contract of canon: Compare. (Printed by gen_cmp.py.) -/
import Derived.Test.YtpnpgjjbincigaaAwkB
import Derived.Test.YtpnpgjjbincigaaKeyK
import Derived.Deep.AppendLies
import Derived.BigQuiet
namespace Go.Proofs.Ytpnpgjjbincigaa
open Go.RowKit

theorem infoTgt : (Try.prog.info? 29).map (fun i => (i.zero, i.size, i.bytes)) = some (some (.agg #[.string ByteArray.empty, .slice none 0 0]), 2, 40) := by kernel_rfl
def Can.tcells (ts : List Can.T) : List Value := ts.flatMap fun t => [.string t.job, .slice t.p t.n t.c]
theorem Can.tcells_length (ts : List Can.T) : (Can.tcells ts).length = ts.length * 2 := by
  unfold Can.tcells
  induction ts with
  | nil => rfl
  | cons x r ih => simp only [List.flatMap_cons, List.length_append, ih, List.length_cons, List.length_nil]; omega
theorem Can.tcells_append (a b : List Can.T) : Can.tcells (a ++ b) = Can.tcells a ++ Can.tcells b := by simp [Can.tcells]
theorem Can.tcells_one (ts : List Can.T) : ∀ u ∈ Can.tcells ts, u.oneCell' = true := by
  intro u hu
  simp only [Can.tcells, List.mem_flatMap] at hu
  obtain ⟨x, _, hx⟩ := hu
  simp at hx
  rcases hx with rfl | rfl <;> rfl
theorem Can.tcells_get (ts : List Can.T) (i : Nat) (h : i < ts.length) : (Can.tcells ts)[i * 2]? = some (.string ts[i].job) ∧ (Can.tcells ts)[i * 2 + 1]? = some (.slice ts[i].p ts[i].n ts[i].c) := by
  induction ts generalizing i with
  | nil => simp at h
  | cons x r ih =>
    cases i with
    | zero => simp [Can.tcells]
    | succ i =>
      have := ih i (by simpa using h)
      have e : Can.tcells (x :: r) = .string x.job :: .slice x.p x.n x.c :: Can.tcells r := by simp [Can.tcells]
      rw [e, show (i + 1) * 2 = i * 2 + 1 + 1 by omega]
      simpa using this
/-- v is a slice of targets of the call's own, whose labels are its own, too -/
def OwnTs (B : Nat) (v : Value) (ts : List Can.T) (w : World) : Prop :=
  w.ownsRow B 29 2 v ts.length (Can.tcells ts) ∧ ∀ t ∈ ts, t.ls.length = t.n ∧ OwnLabels B (.slice t.p t.n t.c) t.ls w
theorem OwnTs.nil (B : Nat) (w : World) : OwnTs B (.slice none 0 0) [] w := ⟨World.ownsRow_nil _ _ _ _, fun t ht => by simp at ht⟩
theorem OwnTs.alloc {B : Nat} {v : Value} {ts : List Can.T} {w : World} (h : OwnTs B v ts w) (o : Obj) : OwnTs B v ts (w.alloc o) :=
  ⟨World.ownsRow.alloc h.1 o, fun t ht => ⟨(h.2 t ht).1, (h.2 t ht).2.alloc o⟩⟩
theorem OwnTs.below {B C : Nat} {v : Value} {ts : List Can.T} {w w' : World} (h : OwnTs B v ts w) (hb : Below C w w') (hC : w.heap.size ≤ C) : OwnTs B v ts w' :=
  ⟨row_below h.1 hb hC, fun t ht => ⟨(h.2 t ht).1, (h.2 t ht).2.below hb hC⟩⟩
theorem OwnTs.lift {B B' : Nat} {v : Value} {ts : List Can.T} {w : World} (h : OwnTs B v ts w) (hB : B' ≤ B) : OwnTs B' v ts w :=
  ⟨row_lift h.1 hB, fun t ht => ⟨(h.2 t ht).1, row_lift (h.2 t ht).2 hB⟩⟩
theorem OwnTs.open {B : Nat} {v : Value} {ts : List Can.T} {w : World} (h : OwnTs B v ts w) :
    (v = .slice none 0 0 ∧ ts = []) ∨ ∃ g c, v = .slice (some ⟨g, 0, none⟩) ts.length c ∧ B ≤ g ∧ g < w.heap.size ∧ ts.length ≤ c ∧ c ≤ maxLen ∧ Can.TAt g 0 ts w := by
  obtain ⟨⟨h1, h2⟩, h3⟩ := h
  rcases h2 with ⟨rfl, h0⟩ | ⟨g, cap, cur, rfl, hg, hh, hn, hc, hcs, ht⟩
  · exact .inl ⟨rfl, List.length_eq_zero_iff.1 h0⟩
  · refine .inr ⟨g, cap, rfl, hg, lt_of_heap hh, hn, hc, fun i hi => ?_⟩
    have hcell : ∀ j u, (Can.tcells ts)[j]? = some u → w.cell? ⟨g, j, none⟩ = some u := by
      intro j u hj
      rw [Lib.cell_of_heap hh, ← Array.getElem?_toList]
      rw [← ht] at hj
      rw [List.getElem?_take] at hj
      split at hj
      · exact hj
      · simp at hj
    have := Can.tcells_get ts i hi
    have hl := (h3 ts[i] (List.getElem_mem _)).2
    obtain ⟨p', c', e, hA, _⟩ := OwnLabels.open hl
    simp only [Value.slice.injEq] at e
    refine ⟨by simpa using hcell _ _ this.1, by simpa using hcell _ _ this.2, ?_⟩
    rw [e.1]
    exact hA
/-- labels stay while a row of targets grows -/
theorem own_grown {B B' n : Nat} {v u : Value} {ls : List Lab.L} {xs : List Value} {w w' : World} (h : OwnLabels B v ls w) (hu : w.ownsRow B' 29 2 u n xs) (hg : w.grownBy w' u.ownBlock) : OwnLabels B v ls w' := by
  obtain ⟨h1, h2⟩ := h
  refine ⟨h1, ?_⟩
  rcases h2 with h2 | ⟨g, cap, cur, hv, hgB, hh, r⟩
  · exact .inl h2
  · refine .inr ⟨g, cap, cur, hv, hgB, ?_, r⟩
    rw [hg.block g (lt_of_heap hh) (fun e => ?_)]
    · exact hh
    · rcases hu.2 with ⟨rfl, _⟩ | ⟨g', cap', cur', rfl, _, hh', _⟩
      · simp [Value.ownBlock] at e
      · simp [Value.ownBlock] at e
        subst e
        rw [hh'] at hh
        simp at hh
/-- 'append(v, t)' of a target written out -/
theorem wpList_pushTg {ops : Array Oper} {rest : List Oper} {o : Oper} {a : Act} {Q : Exit → Act → World → Prop} (T : TypeId) (hT : Try.prog.underlying T = some (.slice 29)) (hgd : o.guard = none) (s x : Operand)
    (ho : o.op = .call { callee := .builtin .append, args := #[s, x], argTypes := #[T, T] })
    (B : Nat) (v : Value) (l : List Can.T) (wr : World) (hs : a.eval s = v) (hown : OwnTs B v l wr) (y : Can.T) (hyn : y.ls.length = y.n) (hy : OwnLabels B (.slice y.p y.n y.c) y.ls wr) (C : Array Value) (c : Nat) (hC : C = #[.string y.job, .slice y.p y.n y.c])
    (G : Nat) (hx : a.eval x = .slice (some ⟨G, 0, none⟩) 1 c) (hG : G = wr.heap.size) (hlen : l.length + 1 ≤ 1000000000) (hB : B ≤ wr.heap.size)
    (h : ∀ v' w', OwnTs B v' (l ++ [y]) w' → (wr.alloc (.cells C 29)).grownBy w' v.ownBlock → wpList Try.prog ops Q rest (a.put o.dst v') w') :
    wpList Try.prog ops Q (o :: rest) a (wr.alloc (.cells C 29)) := by
  obtain ⟨i0, hi, hz0, hz1, hz2⟩ := info_parts infoTgt
  subst hC
  subst hG
  have hownA := hown.alloc (.cells #[.string y.job, .slice y.p y.n y.c] 29)
  refine wpList_append_own _ hgd s x T ho B 29 i0 _ 2 40 hT hi hz0 hz1 hz2 rfl (by decide) v l.length (Can.tcells l) hs hownA.1 ⟨wr.heap.size, 0, none⟩ 1 c (Can.tcells [y]) hx rfl ?_ (Can.tcells_one _) ?_ ?_ ?_ ?_
  · intro j u hj
    have e : (wr.alloc (.cells #[.string y.job, .slice y.p y.n y.c] 29)).cell? ((⟨wr.heap.size, 0, none⟩ : Addr).add j) = (#[.string y.job, .slice y.p y.n y.c] : Array Value)[j]? := by
      rw [addr0]; simp
    rw [e]; simpa [Can.tcells] using hj
  · unfold maxLen; omega
  · omega
  · simp; omega
  · intro v' w' h1 h2 _
    refine h v' w' ⟨?_, fun t ht => ?_⟩ h2
    · rw [Can.tcells_append, List.length_append]
      exact h1
    · rw [List.mem_append, List.mem_singleton] at ht
      rcases ht with ht | rfl
      · exact ⟨(hownA.2 t ht).1, own_grown (hownA.2 t ht).2 hownA.1 h2⟩
      · exact ⟨hyn, own_grown (hy.alloc _) hownA.1 h2⟩
end Go.Proofs.Ytpnpgjjbincigaa
namespace Go.Proofs.Ytpnpgjjbincigaa
open Go.RowKit

theorem Can.key_len (job : ByteArray) (ls : List Lab.L) (h1 : ls.length ≤ 70) (hF : Lab.Fit 1100 ls) (h2 : job.size ≤ 1000000) : (Can.key (Lab.bs job) ls).1.length ≤ 3000000 := by
  have hb : (Can.bytes ls).1.length ≤ 1000000 := by
    unfold Can.bytes
    split
    · have := Can.raw_length ls 1100 hF
      exact Nat.le_trans this (Nat.le_trans (Nat.mul_le_mul_right _ h1) (by decide))
    · simp
  have hj : (Lab.bs job).length = job.size := by simp [Lab.bs]
  unfold Can.key
  split
  · split
    · simp only [List.length_append, List.length_cons, List.length_nil]; omega
    · simp
  · simp
theorem Can.keyB_len (t : Can.T) (h : Can.TFit t) : (Can.keyB t).size ≤ 3000000 := by
  obtain ⟨h1, h2, h3, h4⟩ := h
  have := Can.key_len t.job t.ls (by omega) h3 h4
  have e : (Can.keyB t).size = (Can.key (Lab.bs t.job) t.ls).1.length := List.size_toArray
  omega
def Can.cmp (a b : Can.T) : Int × Int := if Can.err [a, b] = 0 then (Lib.compareBytes (Lab.bs (Can.keyB a)) (Lab.bs (Can.keyB b)), 0) else (0, Can.err [a, b])
theorem Can.cmp_law (x y : List UInt8) : Lib.compareBytes x y = if x < y then -1 else if x = y then 0 else 1 := by
  induction x generalizing y with
  | nil =>
    cases y with
    | nil => simp [Lib.compareBytes]
    | cons c r => simp [Lib.compareBytes]
  | cons a x ih =>
    cases y with
    | nil => simp [Lib.compareBytes]
    | cons b y =>
      unfold Lib.compareBytes
      have hc : (a :: x < b :: y) ↔ (a < b ∨ a = b ∧ x < y) := List.cons_lt_cons_iff
      rw [ih y]
      by_cases h1 : a < b
      · rw [if_pos h1, if_pos (hc.2 (.inl h1))]
      · rw [if_neg h1]
        by_cases h2 : b < a
        · have hne : a ≠ b := fun e => by subst e; exact h1 h2
          rw [if_pos h2, if_neg (fun h => (hc.1 h).elim h1 (fun q => hne q.1)), if_neg (by intro e; exact hne (List.cons.inj e).1)]
        · have he : a = b := UInt8.toNat_inj.1 (by rw [UInt8.lt_iff_toNat_lt] at h1 h2; omega)
          subst he
          rw [if_neg h2]
          by_cases h3 : x < y
          · rw [if_pos h3, if_pos (hc.2 (.inr ⟨rfl, h3⟩))]
          · rw [if_neg h3, if_neg (fun h => (hc.1 h).elim h1 (fun q => h3 q.2))]
            simp

end Go.Proofs.Ytpnpgjjbincigaa
