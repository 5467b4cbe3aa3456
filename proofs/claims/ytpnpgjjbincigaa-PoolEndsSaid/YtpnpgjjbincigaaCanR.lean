/- Contracts of canon: Read. -/
import Derived.Test.YtpnpgjjbincigaaCanA
import Derived.Test.YtpnpgjjbincigaaCanS
import Derived.Deep.RegionHeld3
import Derived.Deep.AppendLies
namespace Go.Proofs.Ytpnpgjjbincigaa
open Go.RowKit

/-- 'append(v, x)' of a label written out, at a step of a region that draws its order -/
theorem step_pushL {ops : Array Oper} {o : Oper} {a : Act} {K : Act → World → Prop} {Q : Exit → Act → World → Prop} {E : Prop} {w : World} (T : TypeId) (hT : Try.prog.underlying T = some (.slice 37)) (hgd : o.guard = none) (s x : Operand)
    (ho : o.op = .call { callee := .builtin .append, args := #[s, x], argTypes := #[T, T] })
    (B : Nat) (v : Value) (l : List Lab.L) (hs : a.eval s = v) (hown : OwnLabels B v l w) (y : Lab.L) (G c : Nat) (hx : a.eval x = .slice (some ⟨G, 0, none⟩) 1 c)
    (hG : w.heap[G]? = some (.cells #[.string y.n, .string y.v] 37)) (hlen : l.length + 1 ≤ 4294967296) (hB : B ≤ w.heap.size)
    (h : ∀ g cap w', OwnLabels B (.slice (some ⟨g, 0, none⟩) (l.length + 1) cap) (l ++ [y]) w' → w.grownBy w' v.ownBlock → K (a.put o.dst (.slice (some ⟨g, 0, none⟩) (l.length + 1) cap)) w') :
    if Region.wanted o (yielded ops a.tmps) = true then Oper.wp Try.prog o a w K Q else E := by
  obtain ⟨i0, hi, hz0, hz1, hz2⟩ := info_parts infoLab
  refine step_append_lies w hgd s x T ho B 37 i0 _ 2 32 hT hi hz0 hz1 hz2 rfl (by decide) v l.length (Lab.cells l) hs hown ⟨G, 0, none⟩ 1 c (Lab.cells [y]) hx rfl
    (World.news_of_block (cs := #[.string y.n, .string y.v]) hG) (Lab.cells_one _) (by omega) (by unfold maxLen; omega) (by omega) hB w.heap.size rfl ?_
  intro g cap w' h1 h2 _ _
  refine h g cap w' ?_ h2
  unfold OwnLabels
  rw [Lab.cells_append, List.length_append]
  exact h1

theorem Can.pairs_take (xs : List ByteArray) (k : Nat) (h : k * 2 + 1 < xs.length) :
    Can.pairs ((xs.map (·.data.toList)).take ((k + 1) * 2)) = Can.pairs ((xs.map (·.data.toList)).take (k * 2)) ++ [⟨xs[k * 2], xs[k * 2 + 1]⟩] := by
  induction k generalizing xs with
  | zero =>
    match xs, h with
    | a :: b :: r, _ => rfl
  | succ k ih =>
    match xs, h with
    | a :: b :: r, h =>
      have := ih r (by simp only [List.length_cons] at h; omega)
      have e1 : (k + 1 + 1) * 2 = (k + 1) * 2 + 1 + 1 := by omega
      have e2 : (k + 1) * 2 = k * 2 + 1 + 1 := by omega
      rw [e1]
      simp only [List.map_cons, List.take_succ_cons, Can.pairs]
      rw [this]
      simp only [e2, List.take_succ_cons, Can.pairs, List.cons_append, List.getElem_cons_succ]
theorem Can.pairs_all (xs : List ByteArray) (k : Nat) (h1 : xs.length ≤ k * 2 + 1) (h2 : k * 2 ≤ xs.length) : Can.pairs ((xs.map (·.data.toList)).take (k * 2)) = Can.pairs (xs.map (·.data.toList)) := by
  induction k generalizing xs with
  | zero =>
    match xs, h1 with
    | [], _ => rfl
    | [a], _ => rfl
  | succ k ih =>
    match xs, h1, h2 with
    | [], _, h2 => simp at h2
    | [a], _, h2 => simp at h2; omega
    | a :: b :: r, h1, h2 =>
      have := ih r (by simp only [List.length_cons] at h1; omega) (by simp only [List.length_cons] at h2; omega)
      have e2 : (k + 1) * 2 = k * 2 + 1 + 1 := by omega
      rw [e2]
      simp only [List.map_cons, List.take_succ_cons, Can.pairs]
      rw [this]

theorem Can.split_len (cur l : List UInt8) : ∀ a ∈ Can.split cur l, a.length ≤ cur.length + l.length := by
  induction l generalizing cur with
  | nil => intro a ha; simp [Can.split] at ha; subst ha; simp
  | cons c r ih =>
    intro a ha
    unfold Can.split at ha
    split at ha
    · rw [List.mem_cons] at ha
      rcases ha with rfl | ha
      · simp
      · have := ih [] a ha
        simp at this ⊢; omega
    · have := ih _ a ha
      simp at this ⊢; omega
theorem Can.pairs_fit (m : Nat) : ∀ (all : List (List UInt8)), (∀ a ∈ all, a.length ≤ m) → Lab.Fit m (Can.pairs all)
  | a :: b :: r, h => by
    intro x hx
    unfold Can.pairs at hx
    rw [List.mem_cons] at hx
    rcases hx with rfl | hx
    · have h1 := h a (by simp)
      have h2 := h b (by simp)
      exact ⟨by simpa [Can.mk, ByteArray.size] using h1, by simpa [Can.mk, ByteArray.size] using h2⟩
    · exact Can.pairs_fit m r (fun y hy => h y (by simp [hy])) x hx
  | [], _ => by intro x hx; simp [Can.pairs] at hx
  | [_], _ => by intro x hx; simp [Can.pairs] at hx
theorem Can.read_fit (l : List UInt8) : Lab.Fit l.length (Can.read l).1 := by
  unfold Can.read
  simp only []
  split
  · intro x hx; simp at hx
  · split
    · refine Can.pairs_fit _ _ fun a ha => ?_
      have := Can.split_len [] l a ha
      simpa using this
    · intro x hx; simp at hx

end Go.Proofs.Ytpnpgjjbincigaa
