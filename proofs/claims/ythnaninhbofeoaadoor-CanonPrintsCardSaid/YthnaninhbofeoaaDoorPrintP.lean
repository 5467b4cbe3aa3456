/- Plain laws: one byte of a value changed: right labels still, other bytes, other prints. No program in sight. -/
import Derived.Test.YthnaninhbofeoaaDoorSumP
import Derived.Test.YthnaninhbofeoaaDoorMadeP
namespace Go.Proofs.YthnaninhbofeoaaDoor

theorem Lab.chk_asc (ls : List Lab.L) : ∀ (k : Nat) (p : Option Lab.L), (Lab.chk k p ls).2 = 0 → Lab.Strict (p.toList ++ ls) ∧ ∀ x ∈ ls, Lab.bs x.v ≠ [] := by
  induction ls with
  | nil =>
    intro k p _
    refine ⟨?_, fun x hx => by simp at hx⟩
    cases p with
    | none => exact List.Pairwise.nil
    | some z => exact List.pairwise_singleton _ _
  | cons y r ih =>
    intro k p h
    unfold Lab.chk at h
    split at h
    · rename_i h1
      obtain ⟨hs, hv⟩ := ih (k + 1) (some y) h
      have hyv : Lab.bs y.v ≠ [] := by
        intro e
        unfold Lab.oneAt at h1
        split at h1
        · exact absurd h1 (by decide)
        · rename_i h2
          exact h2 h1
      refine ⟨?_, fun x hx => ?_⟩
      · cases p with
        | none => exact hs
        | some z =>
          have hzy : Lab.bs z.n < Lab.bs y.n := by
            unfold Lab.oneAt at h1
            split at h1
            · have h3 : (if Lab.bs y.n ≤ Lab.bs z.n then (42 : Int) else 0) = 0 := h1
              by_cases hle : Lab.bs y.n ≤ Lab.bs z.n
              · rw [if_pos hle] at h3
                simp at h3
              · exact List.not_le.1 hle
            · rename_i h2
              exact absurd h1 h2
          have hs2 : (y :: r).Pairwise fun a b => Lab.bs a.n < Lab.bs b.n := hs
          show (z :: y :: r).Pairwise fun a b => Lab.bs a.n < Lab.bs b.n
          rw [List.pairwise_cons] at hs2 ⊢
          refine ⟨fun u hu => ?_, List.pairwise_cons.2 hs2⟩
          rw [List.mem_cons] at hu
          rcases hu with rfl | hu
          · exact hzy
          · exact List.lt_trans hzy (hs2.1 u hu)
      · rw [List.mem_cons] at hx
        rcases hx with rfl | hx
        · exact hyv
        · exact hv x hx
    · rename_i h1
      exact absurd h h1
theorem Lab.right_all (ls : List Lab.L) (h : Lab.right ls = true) : Lab.Strict ls ∧ ∀ x ∈ ls, Lab.bs x.v ≠ [] := by
  unfold Lab.right Lab.check at h
  split at h
  · simp at h
  · exact Lab.chk_asc ls 0 none (by simpa using h)
theorem Lab.strict_names (a b : List Lab.L) (h : Lab.names a = Lab.names b) (hs : Lab.Strict a) : Lab.Strict b := by
  have e : ∀ l : List Lab.L, Lab.Strict l ↔ (Lab.names l).Pairwise (· < ·) := fun l => by
    unfold Lab.Strict Lab.names
    rw [List.pairwise_map]
  rw [e] at hs ⊢
  rw [← h]
  exact hs
theorem Utf.valid_ascii (c : UInt8) (r : List UInt8) (hc : c < 128) : Utf.valid (c :: r) = Utf.valid r := by
  have hh : Utf.head c = 1 := by unfold Utf.head; rw [if_pos hc]
  have h1 : Utf.rdLen (c :: r) = 1 := by
    rw [Utf.rdLen_good c r (fun j h1 h2 => by omega), hh]
  rw [Utf.valid_step _ (by simp) (by omega), h1]
  rfl
/-- the label with another first byte -/
def Can.swap (x : Lab.L) (c : UInt8) : Lab.L := ⟨x.n, Can.mk (c :: (Lab.bs x.v).tail)⟩
theorem Can.swap_one (x : Lab.L) (c : UInt8) (h : Lab.one x = 0) (v0 : UInt8) (t : List UInt8) (hv : Lab.bs x.v = v0 :: t) (h0 : v0 < 128) (hc : c < 128) : Lab.one (Can.swap x c) = 0 := by
  have hn : Lab.named 95 (Lab.bs x.n) = true ∧ Lab.value (Lab.bs x.v) = true := by
    unfold Lab.one at h
    split at h
    · rename_i h1
      split at h
      · rename_i h2
        exact ⟨h1, h2⟩
      · simp at h
    · simp at h
  have h2 := hn.2
  unfold Lab.value at h2
  rw [hv, Utf.valid_ascii v0 t h0] at h2
  have h3 : Lab.value (Lab.bs (Can.swap x c).v) = true := by
    show Lab.value (c :: (Lab.bs x.v).tail) = true
    unfold Lab.value
    rw [hv, List.tail_cons, Utf.valid_ascii c t hc]
    exact h2
  unfold Lab.one
  rw [if_pos (show Lab.named 95 (Lab.bs (Can.swap x c).n) = true from hn.1), if_pos h3]
theorem Can.swap_right (A : List Lab.L) (hA : Lab.right A = true) (i : Nat) (hi : i < A.length) (c v0 : UInt8) (t : List UInt8) (hv : Lab.bs A[i].v = v0 :: t) (h0 : v0 < 128) (hc : c < 128) : Lab.right (A.set i (Can.swap A[i] c)) = true := by
  obtain ⟨hl, h1⟩ := Lab.right_parts A hA
  obtain ⟨hs, hne⟩ := Lab.right_all A hA
  refine Lab.right_of_strict _ (by rw [List.length_set]; exact hl) (fun x hx => ?_) (Lab.strict_names A _ ?_ hs)
  · rcases List.mem_or_eq_of_mem_set hx with h | rfl
    · exact ⟨h1 x h, hne x h⟩
    · exact ⟨Can.swap_one _ c (h1 _ (List.getElem_mem _)) v0 t hv h0 hc, by show c :: (Lab.bs A[i].v).tail ≠ []; simp⟩
  · unfold Lab.names
    rw [List.map_set]
    show A.map (fun x => Lab.bs x.n) = (A.map fun x => Lab.bs x.n).set i (Lab.bs A[i].n)
    refine (List.ext_getElem (by simp) fun j h1 h2 => ?_).symm
    rw [List.getElem_set]
    split
    · rename_i h
      subst h
      simp
    · rfl
/-- where the byte stands -/
theorem Can.raw_parts (A : List Lab.L) (i : Nat) (hi : i < A.length) (v0 : UInt8) (t : List UInt8) (hv : Lab.bs A[i].v = v0 :: t) (c : UInt8) :
    ∃ pre post, Can.raw A = pre ++ v0 :: post ∧ Can.raw (A.set i (Can.swap A[i] c)) = pre ++ c :: post := by
  have e : ∀ a b : List Lab.L, Can.raw (a ++ b) = Can.raw a ++ Can.raw b := fun a b => by unfold Can.raw; rw [List.flatMap_append]
  refine ⟨Can.raw (A.take i) ++ (Lab.bs A[i].n ++ [255]), t ++ 255 :: Can.raw (A.drop (i + 1)), ?_, ?_⟩
  · have h1 : A = A.take i ++ A[i] :: A.drop (i + 1) := by rw [← List.drop_eq_getElem_cons hi, List.take_append_drop]
    calc Can.raw A = Can.raw (A.take i ++ A[i] :: A.drop (i + 1)) := by rw [← h1]
      _ = _ := by rw [e, Can.raw_cons, hv]; simp
  · rw [List.set_eq_take_append_cons_drop, if_pos hi, e, Can.raw_cons]
    show Can.raw (A.take i) ++ (Lab.bs A[i].n ++ 255 :: ((c :: (Lab.bs A[i].v).tail) ++ 255 :: Can.raw (A.drop (i + 1)))) = _
    rw [hv]
    simp
theorem Can.swap_sum (h : Nat) (hh : h < 18446744073709551616) (pre : List UInt8) (A : List Lab.L) (i : Nat) (hi : i < A.length) (v0 : UInt8) (t : List UInt8) (hv : Lab.bs A[i].v = v0 :: t) (c : UInt8) (hc : v0 ≠ c) :
    Can.sum h (pre ++ Can.raw A) ≠ Can.sum h (pre ++ Can.raw (A.set i (Can.swap A[i] c))) := by
  obtain ⟨a, b, e1, e2⟩ := Can.raw_parts A i hi v0 t hv c
  rw [e1, e2, ← List.append_assoc, ← List.append_assoc]
  exact Can.sum_ne h hh _ _ _ _ hc
end Go.Proofs.YthnaninhbofeoaaDoor
