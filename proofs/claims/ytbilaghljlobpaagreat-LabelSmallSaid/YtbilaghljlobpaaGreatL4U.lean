/- Plain laws of chapter 04: what Set, Merge, Export, Keep, Drop, Without and Compare make of the labels that Made makes. No program in sight. -/
import Derived.Test.YtbilaghljlobpaaGreatL4W
import Derived.Test.YtbilaghljlobpaaGreatL4X
namespace Go.Proofs.YtbilaghljlobpaaGreat

/-- all names are among Made's -/
def Lab.Few (ls : List Lab.L) : Prop := ∀ x ∈ ls, Lab.bs x.n ∈ Lab.nameL.map Lab.bs
theorem Lab.nameL_nodup : (Lab.nameL.map Lab.bs).Nodup := by decide +kernel
theorem Lab.few_length (ls : List Lab.L) (hn : (Lab.names ls).Nodup) (h : Lab.Few ls) : ls.length ≤ 16 := by
  have := Lab.len_le (Lab.names ls) (Lab.nameL.map Lab.bs) hn fun y hy => by
    unfold Lab.names at hy
    obtain ⟨x, hx, rfl⟩ := List.mem_map.1 hy
    exact h x hx
  unfold Lab.names at this
  rw [List.length_map, List.length_map] at this
  exact this
theorem Lab.made1_name (x : Lab.Sm) : Lab.bs (Lab.made1 x).n ∈ Lab.nameL.map Lab.bs := by
  have h : ∀ i, i < 16 → Lab.bs (Lab.nameL.getD i ⟨#[]⟩) ∈ Lab.nameL.map Lab.bs := by decide +kernel
  exact h _ (Nat.mod_lt _ (by omega))
theorem Lab.madeF_few (xs : List Lab.Sm) : ∀ out, Lab.Few out → Lab.Few (Lab.madeF out xs) := by
  induction xs with
  | nil => intro out h; exact h
  | cons y r ih =>
    intro out h
    exact ih (Lab.push1 out (Lab.made1 y)) (fun x hx => by
      rcases Lab.push1_mem _ _ _ hx with h2 | rfl
      · exact h x h2
      · exact Lab.made1_name y)
theorem Lab.made_few (xs : List Lab.Sm) : Lab.Few (Lab.made xs) := Lab.madeF_few _ [] (fun x hx => by simp at hx)
theorem Lab.tl_few (xs : List Lab.Sm) : Lab.Few (Lab.tl xs) := fun x hx =>
  Lab.made_few xs x (((Lab.of_right _ _ (Lab.made_of xs)).2 x).1 hx).1
theorem Lab.right_nodup {ls : List Lab.L} (h : Lab.right ls = true) : (Lab.names ls).Nodup := Lab.nodup_of_strict (Lab.strict_right h)
theorem Lab.get_full (m : List Lab.L) (hn : (Lab.names m).Nodup) (n : ByteArray) : Lab.get (Lab.full m) n = Lab.get m n := by
  induction m with
  | nil => rfl
  | cons x r ih =>
    unfold Lab.names at hn
    rw [List.map_cons, List.nodup_cons] at hn
    have h2 := ih hn.2
    unfold Lab.full at h2 ⊢
    rw [List.filter_cons, Lab.get_cons]
    by_cases hv : (Lab.bs x.v).isEmpty = true
    · rw [if_neg (by simp [hv])]
      split
      · rename_i e
        rw [h2, Lab.get_none r n (by rw [← e]; exact hn.1), Lab.empty_of hv]
      · exact h2
    · rw [if_pos (by simp [hv]), Lab.get_cons, h2]
theorem Lab.get_tl (xs : List Lab.Sm) (n : ByteArray) : Lab.get (Lab.tl xs) n = Lab.get (Lab.made xs) n := by
  have h := (Lab.made_ok xs).1
  unfold Lab.tl
  rw [Lab.get_full _ (((Lab.names_perm (Lab.srt_perm _)).nodup_iff).2 h), Lab.get_srt _ h]
theorem Lab.get_mem (ls : List Lab.L) (n : ByteArray) (h : Lab.bs (Lab.get ls n) ≠ []) : Lab.bs n ∈ Lab.names ls := by
  by_cases hm : Lab.bs n ∈ Lab.names ls
  · exact hm
  · rw [Lab.get_none _ _ hm] at h
    exact absurd rfl h
theorem Lab.get_full_ne (ls : List Lab.L) (h : Lab.right ls = true) (n : ByteArray) (hm : Lab.bs n ∈ Lab.names ls) : Lab.bs (Lab.get ls n) ≠ [] := by
  unfold Lab.names at hm
  obtain ⟨x, hx, e⟩ := List.mem_map.1 hm
  rw [Lab.get_of ls (Lab.right_nodup h) x hx n e]
  exact Lab.right_full ls h x hx
theorem Lab.get_empty_iff (ls : List Lab.L) (h : Lab.right ls = true) (n : ByteArray) : Lab.bs (Lab.get ls n) = [] ↔ Lab.bs n ∉ Lab.names ls := by
  refine ⟨fun e hm => Lab.get_full_ne ls h n hm e, fun hm => by rw [Lab.get_none _ _ hm]; rfl⟩
/-- the names that have values are as many as the labels -/
theorem Lab.count_names (ls : List Lab.L) (h : Lab.right ls = true) (hf : Lab.Few ls) : (Lab.nameL.filter fun n => !(Lab.bs (Lab.get ls n)).isEmpty).length = ls.length := by
  have hp : (Lab.names ls).Perm ((Lab.nameL.filter fun n => !(Lab.bs (Lab.get ls n)).isEmpty).map Lab.bs) := by
    rw [List.perm_ext_iff_of_nodup (Lab.right_nodup h) (List.Nodup.sublist (List.filter_sublist.map _) Lab.nameL_nodup)]
    intro z
    rw [List.mem_map]
    refine ⟨fun hz => ?_, fun ⟨n, hn, e⟩ => ?_⟩
    · have hz2 := hz
      unfold Lab.names at hz2
      obtain ⟨x, hx, rfl⟩ := List.mem_map.1 hz2
      obtain ⟨n, hn, e⟩ := List.mem_map.1 (hf x hx)
      refine ⟨n, List.mem_filter.2 ⟨hn, ?_⟩, e⟩
      have := Lab.get_full_ne ls h n (by rw [e]; exact hz)
      simpa using this
    · rw [List.mem_filter] at hn
      rw [← e]
      exact Lab.get_mem ls n (by simpa using hn.2)
  have := hp.length_eq
  unfold Lab.names at this
  rw [List.length_map, List.length_map] at this
  exact this.symm
/-- the last one with a name -/
def Lab.last (n : ByteArray) : ByteArray → List Lab.L → ByteArray
  | d, [] => d
  | d, x :: r => Lab.last n (if Lab.bs x.n = Lab.bs n then x.v else d) r
theorem Lab.last_drop (n d : ByteArray) (ls : List Lab.L) (k : Nat) (h : k < ls.length) : Lab.last n d (ls.drop k) = Lab.last n (if Lab.bs ls[k].n = Lab.bs n then ls[k].v else d) (ls.drop (k + 1)) := by
  rw [List.drop_eq_getElem_cons h]; rfl
theorem Lab.last_none (n : ByteArray) (ls : List Lab.L) : ∀ d, Lab.bs n ∉ Lab.names ls → Lab.last n d ls = d := by
  induction ls with
  | nil => intro d _; rfl
  | cons x r ih =>
    intro d h
    unfold Lab.names at h
    rw [List.map_cons, List.mem_cons, not_or] at h
    unfold Lab.last
    rw [if_neg (fun e => h.1 e.symm)]
    exact ih d h.2
theorem Lab.last_get (n : ByteArray) (ls : List Lab.L) (hn : (Lab.names ls).Nodup) : Lab.last n ⟨#[]⟩ ls = Lab.get ls n := by
  have key : ∀ ls : List Lab.L, (Lab.names ls).Nodup → ∀ d, Lab.last n d ls = if Lab.bs n ∈ Lab.names ls then Lab.get ls n else d := by
    intro ls
    induction ls with
    | nil => intro _ d; rfl
    | cons x r ih =>
      intro h d
      unfold Lab.names at h
      rw [List.map_cons, List.nodup_cons] at h
      unfold Lab.last
      rw [ih h.2, Lab.get_cons]
      unfold Lab.names
      by_cases e : Lab.bs x.n = Lab.bs n
      · have hr : Lab.bs n ∉ List.map (fun x => Lab.bs x.n) r := by rw [← e]; exact h.1
        rw [if_neg hr, if_pos e, if_pos e, if_pos (by rw [List.map_cons, List.mem_cons]; exact .inl e.symm)]
      · rw [if_neg e, if_neg e]
        by_cases hr : Lab.bs n ∈ List.map (fun x => Lab.bs x.n) r
        · rw [if_pos hr, if_pos (by rw [List.map_cons, List.mem_cons]; exact .inr hr)]
        · rw [if_neg hr, if_neg (by rw [List.map_cons, List.mem_cons, not_or]; exact ⟨fun e2 => e e2.symm, hr⟩)]
  rw [key ls hn]
  split
  · rfl
  · rename_i h
    rw [Lab.get_none _ _ h]

/-- labels in another order -/
theorem Lab.oneAll_perm {a b : List Lab.L} (h : a.Perm b) (h0 : Lab.oneAll a = 0) : Lab.oneAll b = 0 :=
  Lab.oneAll_of b fun x hx => Lab.oneAll_one a h0 x (h.mem_iff.2 hx)
theorem Lab.srt_perm_eq {a b : List Lab.L} (h : a.Perm b) (hn : (Lab.names a).Nodup) : Lab.srt a = Lab.srt b := by
  have hb := ((Lab.names_perm h).nodup_iff).1 hn
  exact Lab.strict_uniq _ _ ((Lab.srt_perm a).trans (h.trans (Lab.srt_perm b).symm)) (Lab.strict_of_asc (Lab.srt_asc a) (((Lab.names_perm (Lab.srt_perm a)).nodup_iff).2 hn)) (Lab.strict_of_asc (Lab.srt_asc b) (((Lab.names_perm (Lab.srt_perm b)).nodup_iff).2 hb))
theorem Lab.of_turned (xs : List Lab.Sm) (k : Nat) : Lab.of ((Lab.made xs).drop k ++ (Lab.made xs).take k) = (Lab.tl xs, 0) := by
  have hp : (Lab.made xs).Perm ((Lab.made xs).drop k ++ (Lab.made xs).take k) := by
    have := List.perm_append_comm (l₁ := (Lab.made xs).take k) (l₂ := (Lab.made xs).drop k)
    rw [List.take_append_drop] at this
    exact this
  have h0 := Lab.made_of xs
  have h1 := (Lab.made_ok xs).1
  have h2 : Lab.oneAll (Lab.made xs) = 0 := Lab.oneAll_of _ (Lab.made_ok xs).2.1
  rw [← h0]
  unfold Lab.of
  rw [if_pos h2, if_pos h1, if_pos (Lab.oneAll_perm hp h2), if_pos (((Lab.names_perm hp).nodup_iff).1 h1), Lab.srt_perm_eq hp h1]

/-- what is put -/
theorem Lab.wo_id (m : List Lab.L) (k : List UInt8) (h : k ∉ Lab.names m) : Lab.wo m k = m := by
  unfold Lab.wo
  rw [List.filter_eq_self]
  intro y hy
  have : Lab.bs y.n ≠ k := fun e => h (by rw [← e]; exact List.mem_map.2 ⟨y, hy, rfl⟩)
  simp [this]
theorem Lab.puts_append (ls : List Lab.L) : ∀ m : List Lab.L, (Lab.names (m ++ ls)).Nodup → (∀ x ∈ ls, Lab.bs x.v ≠ []) → Lab.puts m ls = m ++ ls := by
  induction ls with
  | nil => intro m _ _; rw [List.append_nil]; rfl
  | cons x r ih =>
    intro m hn hv
    have hx := hv x List.mem_cons_self
    have hnx : Lab.bs x.n ∉ Lab.names m := by
      unfold Lab.names at hn ⊢
      rw [List.map_append, List.nodup_append] at hn
      intro hm
      exact hn.2.2 _ hm _ (by rw [List.map_cons]; exact List.mem_cons_self) rfl
    have e : Lab.put1 m x = m ++ [x] := by
      unfold Lab.put1
      rw [if_neg (by simpa using hx), Lab.wo_id m _ hnx]
    show Lab.puts (Lab.put1 m x) r = _
    rw [e, ih (m ++ [x]) (by rw [List.append_assoc]; exact hn) (fun y hy => hv y (List.mem_cons_of_mem _ hy)), List.append_assoc]
    rfl
theorem Lab.puts_nil (ls : List Lab.L) (h : Lab.right ls = true) : Lab.puts [] ls = ls :=
  Lab.puts_append ls [] (Lab.right_nodup h) (Lab.right_full ls h)
theorem Lab.puts_ok (es : List Lab.L) : ∀ m : List Lab.L, (Lab.names m).Nodup → (∀ x ∈ m, Lab.one x = 0 ∧ Lab.bs x.v ≠ []) → Lab.Few m → (∀ x ∈ es, Lab.one x = 0) → Lab.Few es →
    (Lab.names (Lab.puts m es)).Nodup ∧ (∀ x ∈ Lab.puts m es, Lab.one x = 0 ∧ Lab.bs x.v ≠ []) ∧ Lab.Few (Lab.puts m es) := by
  induction es with
  | nil => intro m h1 h2 h3 _ _; exact ⟨h1, h2, h3⟩
  | cons y r ih =>
    intro m h1 h2 h3 h4 h5
    refine ih (Lab.put1 m y) (Lab.put1_nodup h1 y) (fun x hx => ?_) (fun x hx => ?_) (fun x hx => h4 x (List.mem_cons_of_mem _ hx)) (fun x hx => h5 x (List.mem_cons_of_mem _ hx))
    · rcases (Lab.put1_mem m y x).1 hx with h | ⟨rfl, h⟩
      · exact h2 x h.1
      · exact ⟨h4 x List.mem_cons_self, h⟩
    · rcases (Lab.put1_mem m y x).1 hx with h | ⟨rfl, h⟩
      · exact h3 x h.1
      · exact h5 x List.mem_cons_self
theorem Lab.get_puts_congr (es : List Lab.L) : ∀ m m' : List Lab.L, (∀ n, Lab.get m n = Lab.get m' n) → ∀ n, Lab.get (Lab.puts m es) n = Lab.get (Lab.puts m' es) n := by
  induction es with
  | nil => intro m m' h n; exact h n
  | cons y r ih =>
    intro m m' h n
    exact ih (Lab.put1 m y) (Lab.put1 m' y) (fun n => by rw [Lab.get_put1, Lab.get_put1, h n]) n
theorem Lab.get_puts (es : List Lab.L) : ∀ m : List Lab.L, (Lab.names es).Nodup → ∀ n, Lab.get (Lab.puts m es) n = if Lab.bs n ∈ Lab.names es then Lab.get es n else Lab.get m n := by
  induction es with
  | nil => intro m _ n; rfl
  | cons x r ih =>
    intro m hn n
    unfold Lab.names at hn
    rw [List.map_cons, List.nodup_cons] at hn
    show Lab.get (Lab.puts (Lab.put1 m x) r) n = _
    rw [ih (Lab.put1 m x) hn.2, Lab.get_put1, Lab.get_cons]
    unfold Lab.names
    by_cases e : Lab.bs x.n = Lab.bs n
    · have hr : Lab.bs n ∉ List.map (fun x => Lab.bs x.n) r := by rw [← e]; exact hn.1
      rw [if_neg hr, if_pos e.symm, if_pos e, if_pos (by rw [List.map_cons, List.mem_cons]; exact .inl e.symm)]
    · have e' : ¬ Lab.bs n = Lab.bs x.n := fun e2 => e e2.symm
      rw [if_neg e]
      by_cases hr : Lab.bs n ∈ List.map (fun x => Lab.bs x.n) r
      · rw [if_pos hr, if_pos (by rw [List.map_cons, List.mem_cons]; exact .inr hr)]
      · rw [if_neg hr, if_neg e', if_neg (by rw [List.map_cons, List.mem_cons, not_or]; exact ⟨e', hr⟩)]
theorem Lab.puts_snoc (es : List Lab.L) (y : Lab.L) : ∀ m : List Lab.L, Lab.puts m (es ++ [y]) = Lab.put1 (Lab.puts m es) y := by
  induction es with
  | nil => intro m; rfl
  | cons x r ih => intro m; exact ih (Lab.put1 m x)
/-- right labels of few names -/
structure Lab.Good (ls : List Lab.L) : Prop where
  r : Lab.right ls = true
  f : Lab.Few ls
theorem Lab.tl_good (xs : List Lab.Sm) : Lab.Good (Lab.tl xs) := ⟨Lab.tl_right xs, Lab.tl_few xs⟩
theorem Lab.Good.nodup {ls : List Lab.L} (h : Lab.Good ls) : (Lab.names ls).Nodup := Lab.right_nodup h.r
theorem Lab.Good.one {ls : List Lab.L} (h : Lab.Good ls) (x : Lab.L) (hx : x ∈ ls) : Lab.one x = 0 ∧ Lab.bs x.v ≠ [] := ⟨(Lab.right_parts ls h.r).2 x hx, Lab.right_full ls h.r x hx⟩
theorem Lab.Good.length {ls : List Lab.L} (h : Lab.Good ls) : ls.length ≤ 16 := Lab.few_length ls h.nodup h.f
/-- what Set makes of right labels of few names, and of edits with these names -/
theorem Lab.set_good (ls es : List Lab.L) (h : Lab.Good ls) (h4 : ∀ x ∈ es, Lab.one x = 0) (h5 : Lab.Few es) :
    Lab.set ls es = (Lab.srt (Lab.puts ls es), 0) ∧ Lab.Good (Lab.srt (Lab.puts ls es)) ∧ ∀ n, Lab.get (Lab.srt (Lab.puts ls es)) n = Lab.get (Lab.puts ls es) n := by
  obtain ⟨h1, h2, h3⟩ := Lab.puts_ok es ls h.nodup h.one h.f h4 h5
  have hl := Lab.few_length _ h1 h3
  have hr := Lab.srt_right _ h1 h2 (by omega)
  refine ⟨?_, ⟨hr, fun x hx => h3 x ((Lab.srt_perm _).mem_iff.1 hx)⟩, fun n => Lab.get_srt _ h1 n⟩
  unfold Lab.set Lab.tabL Lab.cut64
  rw [if_pos h.r, if_pos (Lab.oneAll_of es h4), Lab.puts_nil ls h.r, if_neg (by rw [Lab.srt_length]; omega)]
theorem Lab.merge_good (a b : List Lab.L) (ha : Lab.Good a) (hb : Lab.Good b) :
    ∃ m, Lab.merge a b = (m, 0) ∧ Lab.set b a = (m, 0) ∧ Lab.Good m ∧ ∀ n, Lab.get m n = if Lab.bs (Lab.get a n) = [] then Lab.get b n else Lab.get a n := by
  obtain ⟨h1, h2, h3⟩ := Lab.set_good b a hb (fun x hx => (ha.one x hx).1) ha.f
  refine ⟨_, ?_, h1, h2, fun n => ?_⟩
  · unfold Lab.merge
    rw [ha.r, hb.r]
    exact h1
  · rw [h3, Lab.get_puts a b ha.nodup n]
    by_cases hm : Lab.bs n ∈ Lab.names a
    · rw [if_pos hm, if_neg (Lab.get_full_ne a ha.r n hm)]
    · rw [if_neg hm, if_pos ((Lab.get_empty_iff a ha.r n).2 hm)]
theorem Lab.merge_self (a : List Lab.L) (ha : Lab.Good a) : Lab.merge a a = (a, 0) := by
  obtain ⟨m, h1, _, h2, h3⟩ := Lab.merge_good a a ha ha
  rw [h1, Lab.right_ext m a h2.r ha.r fun n => by rw [h3]; split <;> rfl]
end Go.Proofs.YtbilaghljlobpaaGreat
