/- Plain functions of the reference's labels: find, put, Of. No program in sight. -/
import Derived.Test.YtbilaghljlobpaaGreatL4Z3
namespace Go.Proofs.YtbilaghljlobpaaGreat

def Lab.find (n : ByteArray) : Nat → List Lab.L → Int
  | _, [] => -1
  | k, x :: r => if Lab.bs x.n = Lab.bs n then (k : Int) else Lab.find n (k + 1) r
theorem Lab.find_drop (n : ByteArray) (ls : List Lab.L) (k : Nat) (h : k < ls.length) : Lab.find n k (ls.drop k) = if Lab.bs ls[k].n = Lab.bs n then (k : Int) else Lab.find n (k + 1) (ls.drop (k + 1)) := by
  rw [List.drop_eq_getElem_cons h]; rfl
inductive Lab.Found (ls : List Lab.L) (n : ByteArray) (i : Int) : Prop where
  | no : i = -1 → Lab.get ls n = ⟨#[]⟩ → Lab.bs n ∉ Lab.names ls → Lab.Found ls n i
  | yes (j : Nat) (h : j < ls.length) : i = (j : Int) → Lab.get ls n = ls[j].v → Lab.bs ls[j].n = Lab.bs n → (∀ q (hq : q < ls.length), q < j → Lab.bs ls[q].n ≠ Lab.bs n) → Lab.Found ls n i
theorem Lab.found (ls : List Lab.L) (n : ByteArray) : Lab.Found ls n (Lab.find n 0 ls) := by
  have key : ∀ (m k : Nat), m = ls.length - k → k ≤ ls.length → (∀ q (hq : q < ls.length), q < k → Lab.bs ls[q].n ≠ Lab.bs n) → Lab.get ls n = Lab.get (ls.drop k) n → Lab.Found ls n (Lab.find n k (ls.drop k)) := by
    intro m
    induction m with
    | zero =>
      intro k h1 h2 hno hg
      have e : ls.drop k = [] := List.drop_eq_nil_iff.2 (by omega)
      rw [e] at hg ⊢
      refine .no rfl hg fun hm => ?_
      obtain ⟨x, hx, e⟩ := List.mem_map.1 hm
      obtain ⟨q, hq, rfl⟩ := List.getElem_of_mem hx
      exact hno q hq (by omega) e
    | succ m ih =>
      intro k h1 h2 hno hg
      have hk : k < ls.length := by omega
      rw [Lab.find_drop n ls k hk]
      rw [Lab.get_drop ls n k hk] at hg
      by_cases e : Lab.bs ls[k].n = Lab.bs n
      · rw [if_pos e] at hg ⊢
        exact .yes k hk rfl hg e hno
      · rw [if_neg e] at hg ⊢
        refine ih (k + 1) (by omega) (by omega) (fun q hq hqk => ?_) hg
        by_cases hqe : q = k
        · subst hqe; exact e
        · exact hno q hq (by omega)
  have := key ls.length 0 (by omega) (by omega) (fun q _ h => absurd h (by omega)) rfl
  exact this

/-- put: label by label -/
def Lab.rput (x : Lab.L) : Bool → List Lab.L → List Lab.L
  | there, [] => if there = true then [] else [x]
  | there, y :: r =>
    if there = false ∧ ¬ Lab.bs y.n < Lab.bs x.n then x :: ((if Lab.bs y.n = Lab.bs x.n then [] else [y]) ++ Lab.rput x true r)
    else (if Lab.bs y.n = Lab.bs x.n then [] else [y]) ++ Lab.rput x there r
def Lab.rput1 (l : List Lab.L) (x : Lab.L) : List Lab.L := Lab.rput x (Lab.bs x.v).isEmpty l
theorem Lab.rput_there (x : Lab.L) (l : List Lab.L) : Lab.rput x true l = Lab.wo l (Lab.bs x.n) := by
  induction l with
  | nil => rfl
  | cons y r ih =>
    unfold Lab.rput
    rw [if_neg (by simp), ih]
    unfold Lab.wo
    rw [List.filter_cons]
    by_cases e : Lab.bs y.n = Lab.bs x.n
    · rw [if_pos e, if_neg (by simp [e])]; rfl
    · rw [if_neg e, if_pos (by simp [e])]; rfl
theorem Lab.rput_perm (x : Lab.L) (l : List Lab.L) : (Lab.rput x false l).Perm (Lab.wo l (Lab.bs x.n) ++ [x]) := by
  induction l with
  | nil => exact List.Perm.refl _
  | cons y r ih =>
    have hw : Lab.wo (y :: r) (Lab.bs x.n) = (if Lab.bs y.n = Lab.bs x.n then [] else [y]) ++ Lab.wo r (Lab.bs x.n) := by
      unfold Lab.wo
      rw [List.filter_cons]
      by_cases e : Lab.bs y.n = Lab.bs x.n
      · rw [if_pos e, if_neg (by simp [e])]; rfl
      · rw [if_neg e, if_pos (by simp [e])]; rfl
    rw [hw]
    unfold Lab.rput
    by_cases h : Lab.bs y.n < Lab.bs x.n
    · rw [if_neg (by simp [h]), List.append_assoc]
      exact List.Perm.append_left _ ih
    · rw [if_pos ⟨rfl, h⟩, Lab.rput_there]
      exact (List.perm_append_comm (l₁ := [x]))
theorem Lab.rput_strict (x : Lab.L) (l : List Lab.L) (h : Lab.Strict l) : Lab.Strict (Lab.rput x false l) := by
  induction l with
  | nil => exact List.pairwise_singleton _ _
  | cons y r ih =>
    unfold Lab.Strict at h
    rw [List.pairwise_cons] at h
    have hsub : Lab.Strict (Lab.wo r (Lab.bs x.n)) := List.Pairwise.sublist List.filter_sublist h.2
    unfold Lab.rput
    by_cases hy : Lab.bs y.n < Lab.bs x.n
    · rw [if_neg (by simp [hy])]
      have hne : ¬ Lab.bs y.n = Lab.bs x.n := fun e => by rw [e] at hy; exact List.lt_irrefl _ hy
      rw [if_neg hne]
      refine List.pairwise_cons.2 ⟨fun z hz => ?_, ih h.2⟩
      have hz2 := (Lab.rput_perm x r).mem_iff.1 hz
      rw [List.mem_append, List.mem_singleton] at hz2
      rcases hz2 with hz2 | rfl
      · exact h.1 z ((Lab.wo_mem _ _ _).1 hz2).1
      · exact hy
    · rw [if_pos ⟨rfl, hy⟩, Lab.rput_there]
      have hle : Lab.bs x.n ≤ Lab.bs y.n := List.not_lt.1 hy
      have hxr : ∀ z ∈ Lab.wo r (Lab.bs x.n), Lab.bs x.n < Lab.bs z.n := fun z hz => by
        have := h.1 z ((Lab.wo_mem _ _ _).1 hz).1
        rcases List.le_iff_lt_or_eq.1 hle with q | q
        · exact List.lt_trans q this
        · rw [q]; exact this
      by_cases e : Lab.bs y.n = Lab.bs x.n
      · rw [if_pos e]
        exact List.pairwise_cons.2 ⟨hxr, hsub⟩
      · rw [if_neg e]
        refine List.pairwise_cons.2 ⟨fun z hz => ?_, List.pairwise_cons.2 ⟨fun z hz => h.1 z ((Lab.wo_mem _ _ _).1 hz).1, hsub⟩⟩
        rcases List.mem_cons.1 hz with rfl | hz
        · exact Lab.lt_of_le_ne hle (fun e2 => e e2.symm)
        · exact hxr z hz
/-- put keeps the order -/
theorem Lab.rput1_is (l : List Lab.L) (x : Lab.L) (h : Lab.Strict l) : Lab.rput1 l x = Lab.srt (Lab.put1 l x) ∧ Lab.Strict (Lab.rput1 l x) := by
  unfold Lab.rput1 Lab.put1
  cases hv : (Lab.bs x.v).isEmpty with
  | true =>
    rw [Lab.rput_there, if_pos rfl]
    have hs : Lab.Strict (Lab.wo l (Lab.bs x.n)) := List.Pairwise.sublist List.filter_sublist h
    exact ⟨Lab.srt_uniq (List.Perm.refl _) hs, hs⟩
  | false =>
    rw [if_neg (by simp)]
    have hs := Lab.rput_strict x l h
    exact ⟨Lab.srt_uniq (Lab.rput_perm x l) hs, hs⟩
theorem Lab.put1_perm {a b : List Lab.L} (h : a.Perm b) (x : Lab.L) : (Lab.put1 a x).Perm (Lab.put1 b x) := by
  unfold Lab.put1 Lab.wo
  split
  · exact h.filter _
  · exact (h.filter _).append_right _
theorem Lab.rput1_mem {l : List Lab.L} {x y : Lab.L} (h : y ∈ Lab.rput1 l x) : y ∈ l ∨ y = x := by
  unfold Lab.rput1 at h
  cases hv : (Lab.bs x.v).isEmpty with
  | true =>
    rw [hv, Lab.rput_there] at h
    exact .inl ((Lab.wo_mem _ _ _).1 h).1
  | false =>
    rw [hv] at h
    have h2 := (Lab.rput_perm x l).mem_iff.1 h
    rw [List.mem_append, List.mem_singleton] at h2
    exact h2.imp (fun h => ((Lab.wo_mem _ _ _).1 h).1) id
/-- put after put -/
def Lab.rputs (m : List Lab.L) : List Lab.L → List Lab.L
  | [] => m
  | x :: r => Lab.rputs (Lab.rput1 m x) r
theorem Lab.rputs_drop (m ls : List Lab.L) (k : Nat) (h : k < ls.length) : Lab.rputs m (ls.drop k) = Lab.rputs (Lab.rput1 m ls[k]) (ls.drop (k + 1)) := by
  rw [List.drop_eq_getElem_cons h]; rfl
theorem Lab.rputs_is (es : List Lab.L) : ∀ (l m : List Lab.L), l.Perm m → Lab.Strict l → (Lab.names m).Nodup → Lab.rputs l es = Lab.srt (Lab.puts m es) ∧ Lab.Strict (Lab.rputs l es) := by
  induction es with
  | nil =>
    intro l m hp hs hn
    exact ⟨Lab.srt_uniq hp hs, hs⟩
  | cons x r ih =>
    intro l m hp hs hn
    obtain ⟨h1, h2⟩ := Lab.rput1_is l x hs
    refine ih (Lab.rput1 l x) (Lab.put1 m x) ?_ h2 (Lab.put1_nodup hn x)
    rw [h1]
    exact (Lab.srt_perm _).trans (Lab.put1_perm hp x)
theorem Lab.rput_length (x : Lab.L) (l : List Lab.L) : ∀ b, (Lab.rput x b l).length ≤ l.length + 1 := by
  induction l with
  | nil => intro b; unfold Lab.rput; split <;> simp
  | cons y r ih =>
    intro b
    have h1 : (if Lab.bs y.n = Lab.bs x.n then ([] : List Lab.L) else [y]).length ≤ 1 := by split <;> simp
    have h3 : (Lab.rput x true r).length ≤ r.length := by
      rw [Lab.rput_there]
      exact List.length_filter_le _ _
    have h4 := ih b
    unfold Lab.rput
    split
    · rw [List.length_cons, List.length_append, List.length_cons]
      omega
    · rw [List.length_append, List.length_cons]
      omega
theorem Lab.rputs_length (es : List Lab.L) : ∀ m, (Lab.rputs m es).length ≤ m.length + es.length := by
  induction es with
  | nil => intro m; exact Nat.le_refl _
  | cons x r ih =>
    intro m
    have h1 := ih (Lab.rput1 m x)
    have h2 := Lab.rput_length x m (Lab.bs x.v).isEmpty
    unfold Lab.rput1 at h1
    rw [List.length_cons]
    show (Lab.rputs (Lab.rput1 m x) r).length ≤ _
    unfold Lab.rput1
    omega
/-- names that are all different: what is put one after the other -/
theorem Lab.puts_full (ls : List Lab.L) : ∀ m : List Lab.L, (Lab.names (m ++ ls)).Nodup → Lab.puts m ls = m ++ Lab.full ls := by
  induction ls with
  | nil => intro m _; show m = _; rw [show Lab.full ([] : List Lab.L) = [] from rfl, List.append_nil]
  | cons x r ih =>
    intro m hn
    have hnx : Lab.bs x.n ∉ Lab.names m := by
      unfold Lab.names at hn ⊢
      rw [List.map_append, List.nodup_append] at hn
      intro hm
      exact hn.2.2 _ hm _ (by rw [List.map_cons]; exact List.mem_cons_self) rfl
    have hsub : (Lab.names (m ++ r)).Nodup := by
      refine List.Nodup.sublist ?_ hn
      unfold Lab.names
      exact (List.Sublist.append_left (List.sublist_cons_self x r) m).map _
    show Lab.puts (Lab.put1 m x) r = _
    unfold Lab.put1 Lab.full
    rw [List.filter_cons]
    by_cases hv : (Lab.bs x.v).isEmpty = true
    · rw [if_pos hv, Lab.wo_id m _ hnx, if_neg (by simp [hv])]
      exact ih m hsub
    · rw [if_neg hv, Lab.wo_id m _ hnx, if_pos (by simp [hv]), ih (m ++ [x]) (by rw [List.append_assoc]; exact hn), List.append_assoc]
      rfl
theorem Lab.srt_full (ls : List Lab.L) (hn : (Lab.names ls).Nodup) : Lab.srt (Lab.full ls) = Lab.full (Lab.srt ls) := by
  have hs := Lab.strict_of_asc (Lab.srt_asc ls) (((Lab.names_perm (Lab.srt_perm ls)).nodup_iff).2 hn)
  exact (Lab.srt_uniq ((Lab.srt_perm ls).filter _) (List.Pairwise.sublist List.filter_sublist hs)).symm
/-- the reference's Of -/
theorem Lab.rof_is (ls : List Lab.L) (hn : (Lab.names ls).Nodup) : Lab.rputs [] ls = Lab.full (Lab.srt ls) := by
  rw [(Lab.rputs_is ls [] [] (List.Perm.refl _) List.Pairwise.nil List.nodup_nil).1, Lab.puts_full ls [] hn, List.nil_append, Lab.srt_full ls hn]
end Go.Proofs.YtbilaghljlobpaaGreat
