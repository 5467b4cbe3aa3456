/- Plain laws: labels are known by what is got of them; what is got of labels that are put; results are right. No program in sight. -/
import Derived.Test.YtbilaghljlobpaaGreatL4G
namespace Go.Proofs.YtbilaghljlobpaaGreat

theorem Lab.get_none (ls : List Lab.L) (n : ByteArray) (h : Lab.bs n ∉ Lab.names ls) : Lab.get ls n = ⟨#[]⟩ := by
  induction ls with
  | nil => rfl
  | cons x r ih =>
    unfold Lab.names at h
    rw [List.map_cons, List.mem_cons, not_or] at h
    rw [Lab.get_cons, if_neg (fun e => h.1 e.symm)]
    exact ih h.2
theorem Lab.get_of (ls : List Lab.L) (hn : (Lab.names ls).Nodup) (y : Lab.L) (hy : y ∈ ls) (n : ByteArray) (h : Lab.bs y.n = Lab.bs n) : Lab.get ls n = y.v := by
  induction ls with
  | nil => simp at hy
  | cons x r ih =>
    unfold Lab.names at hn
    rw [List.map_cons, List.nodup_cons] at hn
    rw [Lab.get_cons]
    rw [List.mem_cons] at hy
    rcases hy with rfl | hy
    · rw [if_pos h]
    · have hne : ¬ Lab.bs x.n = Lab.bs n := fun e => hn.1 (List.mem_map.2 ⟨y, hy, by rw [h, e]⟩)
      rw [if_neg hne]
      exact ih hn.2 hy
theorem Lab.get_perm {a b : List Lab.L} (h : a.Perm b) (hn : (Lab.names a).Nodup) (n : ByteArray) : Lab.get a n = Lab.get b n := by
  have hnb := ((Lab.names_perm h).nodup_iff).1 hn
  by_cases hm : Lab.bs n ∈ Lab.names a
  · unfold Lab.names at hm
    rw [List.mem_map] at hm
    obtain ⟨y, hy, e⟩ := hm
    rw [Lab.get_of a hn y hy n e, Lab.get_of b hnb y (h.mem_iff.1 hy) n e]
  · rw [Lab.get_none a n hm, Lab.get_none b n (fun e => hm ((Lab.names_perm h).mem_iff.2 e))]
theorem Lab.get_srt (m : List Lab.L) (hn : (Lab.names m).Nodup) (n : ByteArray) : Lab.get (Lab.srt m) n = Lab.get m n :=
  (Lab.get_perm (Lab.srt_perm m).symm hn n).symm
theorem Lab.get_wo (m : List Lab.L) (k : List UInt8) (n : ByteArray) : Lab.get (Lab.wo m k) n = if Lab.bs n = k then ⟨#[]⟩ else Lab.get m n := by
  split
  · rename_i h
    refine Lab.get_none _ _ fun e => ?_
    exact ((Lab.wo_names m k _).1 e).2 h
  · rename_i h
    induction m with
    | nil => rfl
    | cons x r ih =>
      unfold Lab.wo at ih ⊢
      rw [List.filter_cons]
      by_cases hx : Lab.bs x.n = k
      · rw [if_neg (by simp [hx]), ih, Lab.get_cons, if_neg (fun e => h (by rw [← e, hx]))]
      · rw [if_pos (by simp [hx]), Lab.get_cons, Lab.get_cons, ih]
theorem Lab.get_append (a b : List Lab.L) (n : ByteArray) : Lab.get (a ++ b) n = if Lab.bs n ∈ Lab.names a then Lab.get a n else Lab.get b n := by
  induction a with
  | nil => rw [List.nil_append, if_neg (by simp [Lab.names])]
  | cons x r ih =>
    rw [List.cons_append, Lab.get_cons, Lab.get_cons, ih]
    unfold Lab.names
    by_cases hx : Lab.bs x.n = Lab.bs n
    · rw [if_pos hx, if_pos hx, if_pos (by rw [List.map_cons, List.mem_cons]; exact .inl hx.symm)]
    · rw [if_neg hx, if_neg hx]
      by_cases hr : Lab.bs n ∈ r.map fun x => Lab.bs x.n
      · rw [if_pos hr, if_pos (by rw [List.map_cons, List.mem_cons]; exact .inr hr)]
      · rw [if_neg hr, if_neg (by rw [List.map_cons, List.mem_cons, not_or]; exact ⟨fun e => hx e.symm, hr⟩)]
theorem Lab.empty_of {b : ByteArray} (h : (Lab.bs b).isEmpty = true) : b = ⟨#[]⟩ := Lab.bs_inj (List.isEmpty_iff.1 h)
theorem Lab.get_put1 (m : List Lab.L) (x : Lab.L) (n : ByteArray) : Lab.get (Lab.put1 m x) n = if Lab.bs n = Lab.bs x.n then x.v else Lab.get m n := by
  unfold Lab.put1
  split
  · rename_i h
    rw [Lab.get_wo, Lab.empty_of h]
  · rw [Lab.get_append]
    by_cases e : Lab.bs n = Lab.bs x.n
    · rw [if_neg (fun hm => ((Lab.wo_names m _ _).1 hm).2 e), if_pos e, Lab.get_cons, if_pos e.symm]
    · rw [if_neg e]
      split
      · rw [Lab.get_wo, if_neg e]
      · rename_i hm
        rw [Lab.get_cons, if_neg (fun e2 => e e2.symm)]
        have h2 : Lab.bs n ∉ Lab.names m := fun hm2 => hm ((Lab.wo_names m _ _).2 ⟨hm2, e⟩)
        rw [Lab.get_none m n h2]
        rfl
theorem Lab.strict_right {ls : List Lab.L} (h : Lab.right ls = true) : Lab.Strict ls := by
  have key : ∀ (ls : List Lab.L) (k : Nat) (p : Option Lab.L), (Lab.chk k p ls).2 = 0 → (∀ y, p = some y → ∀ x ∈ ls, Lab.bs y.n < Lab.bs x.n) ∧ Lab.Strict ls := by
    intro ls
    induction ls with
    | nil => intro k p _; exact ⟨fun y _ x hx => by simp at hx, List.Pairwise.nil⟩
    | cons z r ih =>
      intro k p h
      unfold Lab.chk at h
      split at h
      · rename_i h1
        obtain ⟨i1, i2⟩ := ih _ _ h
        have hz := i1 z rfl
        refine ⟨fun y hy x hx => ?_, List.pairwise_cons.2 ⟨hz, i2⟩⟩
        have hyz : Lab.bs y.n < Lab.bs z.n := by
          subst hy
          by_cases hle : Lab.bs z.n ≤ Lab.bs y.n
          · have h2 := Lab.oneAt_one _ _ h1
            by_cases hv : Lab.bs z.v = []
            · rw [Lab.oneAt_empty _ _ h2 hv] at h1
              exact absurd h1 (by decide)
            · rw [Lab.oneAt_le y z h2 hv hle] at h1
              exact absurd h1 (by decide)
          · exact List.not_le.1 hle
        rw [List.mem_cons] at hx
        rcases hx with rfl | hx
        · exact hyz
        · exact List.lt_trans hyz (hz x hx)
      · rename_i h1
        exact absurd h h1
  unfold Lab.right Lab.check at h
  split at h
  · simp at h
  · exact (key ls _ _ (by simpa using h)).2
/-- right labels are known by what is got of them -/
theorem Lab.right_ext (a b : List Lab.L) (ha : Lab.right a = true) (hb : Lab.right b = true) (h : ∀ n, Lab.get a n = Lab.get b n) : a = b := by
  have na := Lab.nodup_of_strict (Lab.strict_right ha)
  have nb := Lab.nodup_of_strict (Lab.strict_right hb)
  have sub : ∀ (a b : List Lab.L), Lab.right a = true → Lab.right b = true → (Lab.names a).Nodup → (Lab.names b).Nodup → (∀ n, Lab.get a n = Lab.get b n) → ∀ x ∈ a, x ∈ b := by
    intro a b ha hb na nb h x hx
    have h1 := Lab.get_of a na x hx x.n rfl
    rw [h x.n] at h1
    by_cases hm : Lab.bs x.n ∈ Lab.names b
    · unfold Lab.names at hm
      rw [List.mem_map] at hm
      obtain ⟨y, hy, e⟩ := hm
      rw [Lab.get_of b nb y hy x.n e] at h1
      have e2 : y = x := by
        cases x
        cases y
        simp only at e h1
        rw [Lab.bs_inj e, h1]
      rw [← e2]
      exact hy
    · rw [Lab.get_none b _ hm] at h1
      exact absurd (by rw [← h1]; rfl) (Lab.right_full a ha x hx)
  have hp : a.Perm b := (List.perm_ext_iff_of_nodup (Lab.nodup_of _ na) (Lab.nodup_of _ nb)).2 fun x => ⟨sub a b ha hb na nb h x, sub b a hb ha nb na (fun n => (h n).symm) x⟩
  exact Lab.strict_uniq a b hp (Lab.strict_right ha) (Lab.strict_right hb)
theorem Lab.srt_right (m : List Lab.L) (hn : (Lab.names m).Nodup) (h : ∀ x ∈ m, Lab.one x = 0 ∧ Lab.bs x.v ≠ []) (hl : m.length ≤ 64) : Lab.right (Lab.srt m) = true := by
  refine Lab.right_of_strict _ (by rw [Lab.srt_length]; exact hl) (fun x hx => h x ((Lab.srt_perm m).mem_iff.1 hx)) ?_
  exact Lab.strict_of_asc (Lab.srt_asc m) (((Lab.names_perm (Lab.srt_perm m)).nodup_iff).2 hn)
end Go.Proofs.YtbilaghljlobpaaGreat
