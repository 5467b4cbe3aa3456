/- 'append(v, labels..)' at a step of a region that draws its order. -/
import Derived.Test.YtflmojjpdmbnaaaL4Z2
import Derived.BigQuiet
import Derived.Deep.RegionHeld3
import Derived.Deep.AppendLies
namespace Go.Proofs.Ytflmojjpdmbnaaa
open Go.RowKit

theorem step_catL {ops : Array Oper} {o : Oper} {a : Act} {K : Act → World → Prop} {Q : Exit → Act → World → Prop} {E : Prop} {w : World} (T : TypeId) (hT : Try.prog.underlying T = some (.slice 36)) (hgd : o.guard = none) (s x : Operand)
    (ho : o.op = .call { callee := .builtin .append, args := #[s, x], argTypes := #[T, T] })
    (B : Nat) (v : Value) (l : List Lab.L) (hs : a.eval s = v) (hown : OwnLabels B v l w) (r : List Lab.L) (b off n c : Nat) (hx : a.eval x = .slice (some ⟨b, off, none⟩) n c) (hn : r.length = n)
    (hr : ∀ i (h : i < r.length), w.cell? ⟨b, off + i * 2, none⟩ = some (.string r[i].n) ∧ w.cell? ⟨b, off + i * 2 + 1, none⟩ = some (.string r[i].v)) (hlen : l.length + n ≤ 100000) (hB : B ≤ w.heap.size)
    (h : ∀ v' w', OwnLabels B v' (l ++ r) w' → w.grownBy w' v.ownBlock → K (a.put o.dst v') w') :
    if Region.wanted o (yielded ops a.tmps) = true then Oper.wp Try.prog o a w K Q else E := by
  have hw : Region.wanted o (yielded ops a.tmps) = true := by simp [Region.wanted, hgd]
  rw [if_pos hw]
  obtain ⟨i0, hi, hz0, hz1, hz2⟩ := info_parts infoLab
  subst hn
  refine wp_append_own w s x T ho B 36 i0 _ 2 32 hT hi hz0 hz1 hz2 rfl (by decide) v l.length (Lab.cells l) hs hown ⟨b, off, none⟩ r.length c (Lab.cells r) hx (Lab.cells_length r) (Lab.At.news hr rfl) (Lab.cells_one _) (by unfold maxLen; omega) (by omega) hB ?_
  intro v' w' h1 h2 _
  refine h v' w' ?_ h2
  unfold OwnLabels
  rw [Lab.cells_append, List.length_append]
  exact h1
theorem step_catP {ops : Array Oper} {o : Oper} {a : Act} {K : Act → World → Prop} {Q : Exit → Act → World → Prop} {E : Prop} {w : World} (T : TypeId) (hT : Try.prog.underlying T = some (.slice 36)) (hgd : o.guard = none) (s x : Operand)
    (ho : o.op = .call { callee := .builtin .append, args := #[s, x], argTypes := #[T, T] })
    (B : Nat) (v : Value) (l : List Lab.L) (hs : a.eval s = v) (hown : OwnLabels B v l w) (r : List Lab.L) (b off n c : Nat) (hx : a.eval x = .slice (some ⟨b, off, none⟩) n c) (hn : r.length = n)
    (hr : ∀ i (h : i < r.length), w.cell? ⟨b, off + i * 2, none⟩ = some (.string r[i].n) ∧ w.cell? ⟨b, off + i * 2 + 1, none⟩ = some (.string r[i].v)) (tot : Nat) (htot : l.length + n = tot) (hlen : tot ≤ 100000) (hB : B ≤ w.heap.size)
    (h : ∀ p' c' w', Lab.At p' (l ++ r) w' → w.grownBy w' v.ownBlock → K (a.put o.dst (.slice p' tot c')) w') :
    if Region.wanted o (yielded ops a.tmps) = true then Oper.wp Try.prog o a w K Q else E := by
  refine step_catL T hT hgd s x ho B v l hs hown r b off n c hx hn hr (by omega) hB fun v' w' h1 h2 => ?_
  obtain ⟨p, c', rfl, hA, _⟩ := OwnLabels.open h1
  have e : (l ++ r).length = tot := by rw [List.length_append]; omega
  rw [e]
  exact h p c' w' hA h2
theorem step_cat_noneL {ops : Array Oper} {o : Oper} {a : Act} {K : Act → World → Prop} {Q : Exit → Act → World → Prop} {E : Prop} {w : World} (T : TypeId) (hT : Try.prog.underlying T = some (.slice 36)) (hgd : o.guard = none) (s x : Operand)
    (ho : o.op = .call { callee := .builtin .append, args := #[s, x], argTypes := #[T, T] })
    (B : Nat) (v : Value) (l : List Lab.L) (hs : a.eval s = v) (hown : OwnLabels B v l w) (hx : a.eval x = .slice none 0 0)
    (h : K (a.put o.dst v) w) :
    if Region.wanted o (yielded ops a.tmps) = true then Oper.wp Try.prog o a w K Q else E := by
  have hw : Region.wanted o (yielded ops a.tmps) = true := by simp [Region.wanted, hgd]
  rw [if_pos hw]
  obtain ⟨i0, hi, _⟩ := info_parts infoLab
  have hrun := run_append_owned_none (P := Try.prog) (w := w) B T o.type 36 i0 2 hT hi v l.length (Lab.cells l) hown
  unfold Oper.wp
  simp [execOp, ho, resolve, invoke, builtin, hs, hx, hrun, Result.andThen]
  exact h
theorem OwnLabels.made (w : World) (B : Nat) (hB : B ≤ w.heap.size) : OwnLabels B (.slice (some ⟨w.heap.size, 0, none⟩) 0 0) [] (w.alloc (.cells #[] 36)) :=
  World.ownsRow_made w #[] 0 hB (Nat.zero_le _) rfl
theorem OwnLabels.lt {B g n c : Nat} {ls : List Lab.L} {w : World} (h : OwnLabels B (.slice (some ⟨g, 0, none⟩) n c) ls w) : g < w.heap.size := by
  rcases h.2 with ⟨h0, _⟩ | ⟨g', cap, cur, hv, hg, hh, _⟩
  · cases h0
  · cases hv
    exact lt_of_heap hh
theorem Lab.madeF_pos (xs : List Lab.Sm) : ∀ out : List Lab.L, 0 < out.length + xs.length → 0 < (Lab.madeF out xs).length := by
  induction xs with
  | nil => intro out h; simpa [Lab.madeF] using h
  | cons y r ih =>
    intro out _
    refine ih (Lab.push1 out (Lab.made1 y)) ?_
    unfold Lab.push1
    rw [List.length_append]
    simp only [List.length_cons]
    omega
theorem Lab.made_pos (xs : List Lab.Sm) (h : 0 < xs.length) : 0 < (Lab.made xs).length := by
  refine Lab.madeF_pos _ [] ?_
  rw [List.length_take, List.length_nil]
  omega
set_option maxHeartbeats 1600000 in
set_option maxRecDepth 100000 in
theorem lmade_nil (p : Option Addr) (c : Nat) (w : World) :
    Calls Try.prog 14 #[.slice p 0 c] w fun e w' => e = .returned (.slice none 0 0) ∧ Below w.heap.size w w' := by
  go_enter Try.func14, Try.ntmps14
  go_wp2_with fail
  go_loopw [3, 14] (fun v i wr => v = .slice none 0 0 ∧ i = .int .i64 0 ∧ Below w.heap.size w wr) (fun _ _ _ => 0)
  case atStart => exact ⟨rfl, rfl, Below.refl _ _⟩
  case round =>
    obtain ⟨rfl, rfl, hb⟩ := hrel
    go_wp2_with fail
    go_ret
    exact ⟨rfl, hb⟩
/-- what Made makes: nil, or a slice that begins its block -/
theorem lmade_form (p : Option Addr) (xs : List Lab.Sm) (n c : Nat) (w : World) (hn : xs.length = n) (hA : Lab.SmAt p xs w) (hF : Lab.SmFit xs) (hlc : n ≤ c) (hc : c ≤ maxLen) :
    Calls Try.prog 14 #[.slice p n c] w fun e w' => (∃ p' N c', e = .returned (.slice p' N c') ∧ (Lab.made xs).length = N ∧ Lab.At p' (Lab.made xs) w' ∧ ((p' = none ∧ N = 0 ∧ c' = 0) ∨ ∃ g, p' = some ⟨g, 0, none⟩ ∧ 0 < N ∧ N ≤ c' ∧ c' ≤ maxLen)) ∧ Below w.heap.size w w' := by
  rcases Nat.eq_zero_or_pos n with h0 | h0
  · subst h0
    obtain rfl : xs = [] := List.length_eq_zero_iff.1 hn
    exact (lmade_nil p c w).mono fun e w' ⟨he, hb⟩ => ⟨⟨none, 0, 0, he, rfl, .inl rfl, .inl ⟨rfl, rfl, rfl⟩⟩, hb⟩
  · refine (lmade_is p xs n c _ rfl w hn hA hF hlc hc).mono fun e w' ⟨⟨v, he, hv⟩, hb⟩ => ?_
    have hp := Lab.made_pos xs (by omega)
    have h2 := hv
    obtain ⟨g, cap, rfl, _, _, h3, h4⟩ := OwnLabels.form hv hp
    exact ⟨⟨_, _, cap, he, rfl, h2.at, .inr ⟨g, rfl, hp, h3, h4⟩⟩, hb⟩
/-- the names that have values, as they are counted -/
def Lab.cnt (ls : List Lab.L) (k : Nat) : Nat := ((Lab.nameL.take k).filter fun n => !(Lab.bs (Lab.get ls n)).isEmpty).length
theorem Lab.cnt_le (ls : List Lab.L) (k : Nat) : Lab.cnt ls k ≤ k := by
  unfold Lab.cnt
  have := List.length_filter_le (fun n => !(Lab.bs (Lab.get ls n)).isEmpty) (Lab.nameL.take k)
  rw [List.length_take] at this
  omega
theorem Lab.cnt_succ (ls : List Lab.L) (k : Nat) (h : k < Lab.nameL.length) : Lab.cnt ls (k + 1) = Lab.cnt ls k + if (Lab.bs (Lab.get ls (Lab.nameL[k]'h))).isEmpty = true then 0 else 1 := by
  unfold Lab.cnt
  rw [List.take_succ_eq_append_getElem h, List.filter_append, List.length_append]
  congr 1
  cases he : (Lab.bs (Lab.get ls (Lab.nameL[k]'h))).isEmpty <;> simp [he]
theorem Lab.cnt_all (ls : List Lab.L) (h : Lab.Good ls) : Lab.cnt ls 16 = ls.length := Lab.count_names ls h.r h.f
end Go.Proofs.Ytflmojjpdmbnaaa
