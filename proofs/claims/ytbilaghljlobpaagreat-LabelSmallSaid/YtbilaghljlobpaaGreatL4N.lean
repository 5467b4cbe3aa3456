/- Plain laws of chapter 04: Export, Keep, Drop, Without, Compare. No program in sight. -/
import Derived.Test.YtbilaghljlobpaaGreatL4U
namespace Go.Proofs.YtbilaghljlobpaaGreat

theorem Lab.bs_append (a b : ByteArray) : Lab.bs (a ++ b) = Lab.bs a ++ Lab.bs b := by
  simp [Lab.bs]
theorem Lab.exp_bs (n : ByteArray) : Lab.bs (Lab.expName n) = [101, 120, 112, 111, 114, 116, 101, 100, 95] ++ Lab.bs n := Lab.bs_append _ _
theorem Lab.exp_named (n : ByteArray) (h : Lab.bs n ∈ Lab.nameL.map Lab.bs) : Lab.named 95 (Lab.bs (Lab.expName n)) = true := by
  have key : ∀ z ∈ Lab.nameL.map Lab.bs, Lab.named 95 ([101, 120, 112, 111, 114, 116, 101, 100, 95] ++ z) = true := by decide +kernel
  rw [Lab.exp_bs]
  exact key _ h
theorem Lab.exp_size (n : ByteArray) : (Lab.expName n).size = 9 + n.size := by
  unfold Lab.expName
  rw [ByteArray.size_append]
  rfl
theorem Lab.expoF_puts (t s ls : List Lab.L) : ∀ m, Lab.expoF t s m ls = Lab.puts m (ls.filterMap (Lab.expo1 t s)) := by
  induction ls with
  | nil => intro m; rfl
  | cons x r ih =>
    intro m
    show Lab.expoF t s (Lab.expoS t s m x) r = _
    rw [ih, List.filterMap_cons]
    unfold Lab.expoS
    cases Lab.expo1 t s x with
    | none => rfl
    | some y => rfl
theorem Lab.puts_app (a b : List Lab.L) : ∀ m, Lab.puts m (a ++ b) = Lab.puts (Lab.puts m a) b := by
  induction a with
  | nil => intro m; rfl
  | cons x r ih => intro m; exact ih (Lab.put1 m x)
/-- the samples' part of Export -/
def Lab.expoM (t s : List Lab.L) : List Lab.L := s.filterMap (Lab.expo1 t s)
inductive Lab.Expo (t s : List Lab.L) (x y : Lab.L) : Prop where
  | same : y = x → Lab.bs (Lab.get t x.n) = [] → Lab.Expo t s x y
  | exp : y = ⟨Lab.expName x.n, x.v⟩ → Lab.bs (Lab.get t x.n) ≠ [] → Lab.bs (Lab.get t (Lab.expName x.n)) = [] → Lab.bs (Lab.get s (Lab.expName x.n)) = [] → Lab.Expo t s x y
theorem Lab.expo_some {t s : List Lab.L} {x y : Lab.L} (h : Lab.expo1 t s x = some y) : Lab.Expo t s x y := by
  unfold Lab.expo1 at h
  split at h
  · rename_i h1
    exact .same (Option.some.inj h).symm h1
  · rename_i h1
    split at h
    · rename_i h2
      have h3 := h2.2
      rw [Lab.bs_append, List.append_eq_nil_iff] at h3
      exact .exp (Option.some.inj h).symm h1 h3.1 h3.2
    · cases h
theorem Lab.expoM_mem {t s : List Lab.L} {y : Lab.L} (h : y ∈ Lab.expoM t s) : ∃ x ∈ s, Lab.Expo t s x y := by
  unfold Lab.expoM at h
  rw [List.mem_filterMap] at h
  obtain ⟨x, hx, e⟩ := h
  exact ⟨x, hx, Lab.expo_some e⟩
theorem Lab.expo_one {t s : List Lab.L} {x y : Lab.L} (h : Lab.expo1 t s x = some y) (h1 : Lab.one x = 0) (hv : Lab.bs x.v ≠ []) : Lab.one y = 0 ∧ Lab.bs y.v ≠ [] := by
  unfold Lab.expo1 at h
  split at h
  · rw [← Option.some.inj h]; exact ⟨h1, hv⟩
  · split at h
    · rename_i h2
      rw [← Option.some.inj h]
      refine ⟨?_, hv⟩
      unfold Lab.one at h1 ⊢
      rw [if_pos h2.1]
      split at h1
      · split at h1
        · rename_i h4
          rw [if_pos h4]
        · simp at h1
      · simp at h1
    · cases h
theorem Lab.expo_names (t s : List Lab.L) (ht : Lab.Good t) (hs : Lab.Good s) : (Lab.names (Lab.expoM t s ++ t)).Nodup := by
  unfold Lab.names
  rw [List.map_append, List.nodup_append]
  refine ⟨?_, ht.nodup, ?_⟩
  · have hp : s.Pairwise fun a b => Lab.bs a.n ≠ Lab.bs b.n := by
      have := hs.nodup
      unfold Lab.names List.Nodup at this
      rw [List.pairwise_map] at this
      exact this
    unfold Lab.expoM List.Nodup
    rw [List.pairwise_map, List.pairwise_filterMap]
    refine hp.imp_of_mem fun {a b} ha hb hab y hy y' hy' => ?_
    have inS : ∀ z : Lab.L, z ∈ s → Lab.bs (Lab.get s z.n) ≠ [] := fun z hz => Lab.get_full_ne s hs.r z.n (List.mem_map.2 ⟨z, hz, rfl⟩)
    rcases Lab.expo_some hy with ⟨rfl, h1⟩ | ⟨rfl, h1, h2, h3⟩ <;> rcases Lab.expo_some hy' with ⟨rfl, k1⟩ | ⟨rfl, k1, k2, k3⟩
    · exact hab
    · intro e
      have e2 : y.n = Lab.expName b.n := Lab.bs_inj e
      rw [← e2] at k3
      exact inS y ha k3
    · intro e
      have e2 : Lab.expName a.n = y'.n := Lab.bs_inj e
      rw [e2] at h3
      exact inS y' hb h3
    · intro e
      have e2 : Lab.bs (Lab.expName a.n) = Lab.bs (Lab.expName b.n) := e
      rw [Lab.exp_bs, Lab.exp_bs] at e2
      exact hab (List.append_cancel_left e2)
  · intro z hz z' hz' e
    subst e
    obtain ⟨y, hy, rfl⟩ := List.mem_map.1 hz
    obtain ⟨x, hx, hxy⟩ := Lab.expoM_mem hy
    rcases hxy with ⟨rfl, h1⟩ | ⟨rfl, h1, h2, h3⟩
    · exact ((Lab.get_empty_iff t ht.r _).1 h1) hz'
    · exact ((Lab.get_empty_iff t ht.r _).1 h2) hz'
theorem Lab.export_good (t s : List Lab.L) (ht : Lab.Good t) (hs : Lab.Good s) :
    Lab.export t s = (Lab.srt (Lab.expoM t s ++ t), 0) ∧ Lab.right (Lab.srt (Lab.expoM t s ++ t)) = true ∧ (Lab.srt (Lab.expoM t s ++ t)).length = (Lab.expoM t s).length + t.length ∧ (∀ y ∈ Lab.expoM t s ++ t, Lab.get (Lab.srt (Lab.expoM t s ++ t)) y.n = y.v) := by
  have hn := Lab.expo_names t s ht hs
  have hall : ∀ x ∈ Lab.expoM t s ++ t, Lab.one x = 0 ∧ Lab.bs x.v ≠ [] := by
    intro y hy
    rw [List.mem_append] at hy
    rcases hy with hy | hy
    · unfold Lab.expoM at hy
      rw [List.mem_filterMap] at hy
      obtain ⟨x, hx, e⟩ := hy
      exact Lab.expo_one e (hs.one x hx).1 (hs.one x hx).2
    · exact ht.one y hy
  have hl : (Lab.expoM t s ++ t).length ≤ 64 := by
    rw [List.length_append]
    have h1 := List.length_filterMap_le (Lab.expo1 t s) s
    have h2 := ht.length
    have h3 := hs.length
    unfold Lab.expoM
    omega
  have e : Lab.puts (Lab.expoF t s [] s) t = Lab.expoM t s ++ t := by
    rw [Lab.expoF_puts, ← Lab.puts_app]
    exact Lab.puts_append _ [] hn (fun x hx => (hall x hx).2)
  refine ⟨?_, Lab.srt_right _ hn hall hl, by rw [Lab.srt_length, List.length_append], fun y hy => by rw [Lab.get_srt _ hn, Lab.get_of _ hn y hy y.n rfl]⟩
  unfold Lab.export Lab.cut64
  rw [ht.r, hs.r, e, if_pos (show (true && true) = true from rfl), if_neg (by rw [Lab.srt_length]; omega)]
/-- what the law asks of a label of the sample -/
theorem Lab.expo_few (t s : List Lab.L) (x : Lab.L) (hx : Lab.bs x.n ∈ Lab.nameL.map Lab.bs) : Lab.expo1 t s x = if Lab.bs (Lab.get t x.n) = [] then some x else if Lab.bs (Lab.get t (Lab.expName x.n)) = [] then (if Lab.bs (Lab.get s (Lab.expName x.n)) = [] then some ⟨Lab.expName x.n, x.v⟩ else none) else none := by
  unfold Lab.expo1
  split
  · rfl
  · rw [Lab.exp_named x.n hx, Lab.bs_append]
    by_cases h1 : Lab.bs (Lab.get t (Lab.expName x.n)) = []
    · rw [if_pos h1, h1, List.nil_append]
      by_cases h2 : Lab.bs (Lab.get s (Lab.expName x.n)) = []
      · rw [if_pos ⟨rfl, h2⟩, if_pos h2]
      · rw [if_neg (fun e => h2 e.2), if_neg h2]
    · rw [if_neg h1, if_neg (fun e => h1 (List.append_eq_nil_iff.1 e.2).1)]
def Lab.expoN (t s : List Lab.L) (k : Nat) : Nat := ((s.take k).filterMap (Lab.expo1 t s)).length
theorem Lab.expoN_le (t s : List Lab.L) (k : Nat) : Lab.expoN t s k ≤ k := by
  unfold Lab.expoN
  have h1 := List.length_filterMap_le (Lab.expo1 t s) (s.take k)
  rw [List.length_take] at h1
  omega
theorem Lab.expoN_some (t s : List Lab.L) (k : Nat) (h : k < s.length) (y : Lab.L) (e : Lab.expo1 t s s[k] = some y) : Lab.expoN t s (k + 1) = Lab.expoN t s k + 1 := by
  unfold Lab.expoN
  rw [List.take_succ_eq_append_getElem h, List.filterMap_append, List.length_append]
  simp [e]
theorem Lab.expoN_none (t s : List Lab.L) (k : Nat) (h : k < s.length) (e : Lab.expo1 t s s[k] = none) : Lab.expoN t s (k + 1) = Lab.expoN t s k := by
  unfold Lab.expoN
  rw [List.take_succ_eq_append_getElem h, List.filterMap_append, List.length_append]
  simp [e]
theorem Lab.expoN_all (t s : List Lab.L) : Lab.expoN t s s.length = (Lab.expoM t s).length := by
  unfold Lab.expoN Lab.expoM
  rw [List.take_length]

/-- labels of which some are left out -/
theorem Lab.filter_good (ls : List Lab.L) (p : Lab.L → Bool) (h : Lab.Good ls) : Lab.Good (ls.filter p) := by
  refine ⟨Lab.right_of_strict _ (Nat.le_trans (List.length_filter_le _ _) (Lab.right_parts ls h.r).1) (fun x hx => h.one x (List.mem_filter.1 hx).1) ?_, fun x hx => h.f x (List.mem_filter.1 hx).1⟩
  exact List.Pairwise.sublist List.filter_sublist (Lab.strict_right h.r)
theorem Lab.get_filter (f : ByteArray → Bool) (n : ByteArray) (ls : List Lab.L) : Lab.get (ls.filter fun x => f x.n) n = if f n = true then Lab.get ls n else ⟨#[]⟩ := by
  induction ls with
  | nil => rw [List.filter_nil]; split <;> rfl
  | cons x r ih =>
    rw [List.filter_cons]
    by_cases e : Lab.bs x.n = Lab.bs n
    · have e2 := Lab.bs_inj e
      by_cases hf : f x.n = true
      · rw [if_pos hf, Lab.get_cons, if_pos e, if_pos (by rw [← e2]; exact hf), Lab.get_cons, if_pos e]
      · rw [if_neg hf, ih, if_neg (by rw [← e2]; exact hf), if_neg (by rw [← e2]; exact hf)]
    · by_cases hf : f x.n = true
      · rw [if_pos hf, Lab.get_cons, if_neg e, ih, Lab.get_cons, if_neg e]
      · rw [if_neg hf, ih, Lab.get_cons, if_neg e]
theorem Lab.filt_good (f : ByteArray → Bool) (ls : List Lab.L) (h : Lab.Good ls) : Lab.filt f ls = (ls.filter (fun x => f x.n), 0) := by
  unfold Lab.filt
  rw [if_pos h.r]
theorem Lab.parts_merge (f : ByteArray → Bool) (a : List Lab.L) (h : Lab.Good a) : Lab.merge (a.filter fun x => f x.n) (a.filter fun x => !f x.n) = (a, 0) := by
  obtain ⟨m, h1, _, h2, h3⟩ := Lab.merge_good _ _ (Lab.filter_good a (fun x => f x.n) h) (Lab.filter_good a (fun x => !f x.n) h)
  rw [h1, Lab.right_ext m a h2.r h.r fun n => ?_]
  rw [h3, Lab.get_filter f, Lab.get_filter (fun n => !f n)]
  cases hf : f n with
  | true =>
    simp only [if_true, Bool.not_true, if_false, Bool.false_eq_true]
    split
    · rename_i e
      exact (Lab.bs_inj e).symm
    · rfl
  | false =>
    simp only [Bool.false_eq_true, if_false, Bool.not_false, if_true]
    split
    · rfl
    · rename_i e
      exact absurd rfl e
theorem Lab.parts_length (p : Lab.L → Bool) (a : List Lab.L) : (a.filter p).length + (a.filter fun x => !p x).length = a.length := by
  induction a with
  | nil => rfl
  | cons x r ih =>
    rw [List.filter_cons, List.filter_cons]
    cases p x with
    | true =>
      simp only [if_true, Bool.not_true, if_false, Bool.false_eq_true, List.length_cons]
      omega
    | false =>
      simp only [Bool.false_eq_true, if_false, Bool.not_false, if_true, List.length_cons]
      omega
theorem Lab.filter_has (f : ByteArray → Bool) (a : List Lab.L) (h : Lab.Good a) (x : Lab.L) (hx : x ∈ a) : (Lab.bs (Lab.get (a.filter fun x => f x.n) x.n)).isEmpty = !f x.n := by
  rw [Lab.get_filter]
  cases hf : f x.n with
  | true =>
    rw [if_pos rfl, Lab.get_of a h.nodup x hx x.n rfl]
    have := (h.one x hx).2
    simpa using this
  | false => rfl

/-- the order of labels -/
def Lab.Lt (x y : Lab.L) : Prop := Lab.bs x.n < Lab.bs y.n ∨ (Lab.bs x.n = Lab.bs y.n ∧ Lab.bs x.v < Lab.bs y.v)
theorem Lab.cb_cases (a b : List UInt8) : (a < b ∧ Lib.compareBytes a b = -1) ∨ (a = b ∧ Lib.compareBytes a b = 0) ∨ (b < a ∧ Lib.compareBytes a b = 1) := by
  rw [Can.cmp_law]
  by_cases h1 : a < b
  · exact .inl ⟨h1, if_pos h1⟩
  · rw [if_neg h1]
    by_cases h2 : a = b
    · exact .inr (.inl ⟨h2, if_pos h2⟩)
    · refine .inr (.inr ⟨?_, if_neg h2⟩)
      exact Lab.lt_of_le_ne (List.not_lt.1 h1) (fun e => h2 e.symm)
theorem Lab.c1_cases (x y : Lab.L) : (Lab.Lt x y ∧ Lab.c1 x y = -1) ∨ (x = y ∧ Lab.c1 x y = 0) ∨ (Lab.Lt y x ∧ Lab.c1 x y = 1) := by
  unfold Lab.c1 Lab.or2 Lab.cf
  rcases Lab.cb_cases (Lab.bs x.n) (Lab.bs y.n) with ⟨h, e⟩ | ⟨h, e⟩ | ⟨h, e⟩
  · rw [e, if_neg (by decide)]
    exact .inl ⟨.inl h, rfl⟩
  · rw [e, if_pos rfl]
    rcases Lab.cb_cases (Lab.bs x.v) (Lab.bs y.v) with ⟨h2, e2⟩ | ⟨h2, e2⟩ | ⟨h2, e2⟩
    · exact .inl ⟨.inr ⟨h, h2⟩, e2⟩
    · refine .inr (.inl ⟨?_, e2⟩)
      cases x; cases y
      simp only at h h2
      rw [Lab.bs_inj h, Lab.bs_inj h2]
    · exact .inr (.inr ⟨.inr ⟨h.symm, h2⟩, e2⟩)
  · rw [e, if_neg (by decide)]
    exact .inr (.inr ⟨.inl h, rfl⟩)
theorem Lab.Lt.trans {x y z : Lab.L} (h : Lab.Lt x y) (k : Lab.Lt y z) : Lab.Lt x z := by
  rcases h with h | ⟨h, h2⟩ <;> rcases k with k | ⟨k, k2⟩
  · exact .inl (List.lt_trans h k)
  · exact .inl (by rw [← k]; exact h)
  · exact .inl (by rw [h]; exact k)
  · exact .inr ⟨h.trans k, List.lt_trans h2 k2⟩
theorem Lab.Lt.irrefl (x : Lab.L) (h : Lab.Lt x x) : False := by
  rcases h with h | ⟨_, h⟩
  · exact List.lt_irrefl _ h
  · exact List.lt_irrefl _ h
theorem Lab.c1_self (x : Lab.L) : Lab.c1 x x = 0 := by
  rcases Lab.c1_cases x x with ⟨h, _⟩ | ⟨_, e⟩ | ⟨h, _⟩
  · exact absurd h (Lab.Lt.irrefl x)
  · exact e
  · exact absurd h (Lab.Lt.irrefl x)
theorem Lab.c1_neg (x y : Lab.L) : Lab.c1 y x = -Lab.c1 x y := by
  rcases Lab.c1_cases x y with ⟨h, e⟩ | ⟨h, e⟩ | ⟨h, e⟩ <;> rcases Lab.c1_cases y x with ⟨k, e2⟩ | ⟨k, e2⟩ | ⟨k, e2⟩ <;> rw [e, e2] <;> first | rfl | exact absurd (h.trans k) (Lab.Lt.irrefl _) | (subst h; exact absurd k (Lab.Lt.irrefl _)) | (subst k; exact absurd h (Lab.Lt.irrefl _))
theorem Lab.c1_lt {x y : Lab.L} (h : Lab.c1 x y < 0) : Lab.Lt x y := by
  rcases Lab.c1_cases x y with ⟨h1, _⟩ | ⟨_, e⟩ | ⟨_, e⟩
  · exact h1
  · omega
  · omega
theorem Lab.lt_c1 {x y : Lab.L} (h : Lab.Lt x y) : Lab.c1 x y < 0 := by
  rcases Lab.c1_cases x y with ⟨_, e⟩ | ⟨e, _⟩ | ⟨h1, _⟩
  · omega
  · subst e; exact absurd h (Lab.Lt.irrefl _)
  · exact absurd (h.trans h1) (Lab.Lt.irrefl _)
theorem Lab.c1_zero {x y : Lab.L} (h : Lab.c1 x y = 0) : x = y := by
  rcases Lab.c1_cases x y with ⟨_, e⟩ | ⟨h1, _⟩ | ⟨_, e⟩
  · omega
  · exact h1
  · omega
theorem Lab.cmpL_range : ∀ a b : List Lab.L, Lab.cmpL a b = -1 ∨ Lab.cmpL a b = 0 ∨ Lab.cmpL a b = 1
  | [], [] => .inr (.inl rfl)
  | [], _ :: _ => .inl rfl
  | _ :: _, [] => .inr (.inr rfl)
  | x :: a, y :: b => by
    unfold Lab.cmpL
    split
    · exact Lab.cmpL_range a b
    · rcases Lab.c1_cases x y with ⟨_, e⟩ | ⟨_, e⟩ | ⟨_, e⟩
      · exact .inl e
      · exact .inr (.inl e)
      · exact .inr (.inr e)
theorem Lab.cmpL_neg : ∀ a b : List Lab.L, Lab.cmpL b a = -Lab.cmpL a b
  | [], [] => rfl
  | [], _ :: _ => rfl
  | _ :: _, [] => rfl
  | x :: a, y :: b => by
    unfold Lab.cmpL
    rw [Lab.c1_neg x y]
    by_cases h : Lab.c1 x y = 0
    · rw [if_pos h, if_pos (by omega)]
      exact Lab.cmpL_neg a b
    · rw [if_neg h, if_neg (by omega)]
theorem Lab.cmpL_zero : ∀ a b : List Lab.L, Lab.cmpL a b = 0 ↔ a = b
  | [], [] => by simp [Lab.cmpL]
  | [], _ :: _ => by simp [Lab.cmpL]
  | _ :: _, [] => by simp [Lab.cmpL]
  | x :: a, y :: b => by
    unfold Lab.cmpL
    by_cases h : Lab.c1 x y = 0
    · rw [if_pos h, Lab.cmpL_zero a b, Lab.c1_zero h]
      simp
    · rw [if_neg h]
      refine ⟨fun e => absurd e h, fun e => ?_⟩
      rw [List.cons.injEq] at e
      rw [e.1]
      exact Lab.c1_self y
theorem Lab.cmpL_self (a : List Lab.L) : Lab.cmpL a a = 0 := (Lab.cmpL_zero a a).2 rfl
theorem Lab.cmpL_trans : ∀ a b c : List Lab.L, Lab.cmpL a b ≤ 0 → Lab.cmpL b c ≤ 0 → Lab.cmpL a c ≤ 0
  | [], _, [], _, _ => by simp [Lab.cmpL]
  | [], _, _ :: _, _, _ => by simp [Lab.cmpL]
  | _ :: _, [], _, h, _ => by simp [Lab.cmpL] at h
  | _ :: _, _ :: _, [], _, h => by simp [Lab.cmpL] at h
  | x :: a, y :: b, z :: c, h, k => by
    unfold Lab.cmpL at h k ⊢
    by_cases h1 : Lab.c1 x y = 0
    · rw [if_pos h1] at h
      have e := Lab.c1_zero h1
      subst e
      by_cases h2 : Lab.c1 x z = 0
      · rw [if_pos h2] at k ⊢
        exact Lab.cmpL_trans a b c h k
      · rw [if_neg h2] at k ⊢
        exact k
    · rw [if_neg h1] at h
      have l1 := Lab.c1_lt (show Lab.c1 x y < 0 by omega)
      by_cases h2 : Lab.c1 y z = 0
      · have e := Lab.c1_zero h2
        subst e
        rw [if_neg h1]
        exact h
      · rw [if_neg h2] at k
        have l2 := Lab.c1_lt (show Lab.c1 y z < 0 by omega)
        have l3 := Lab.lt_c1 (l1.trans l2)
        rw [if_neg (by omega)]
        omega
theorem Lab.cmpL_take : ∀ (a : List Lab.L) (i : Nat), i < a.length → Lab.cmpL (a.take i) a = -1
  | [], i, h => by simp at h
  | x :: a, 0, _ => rfl
  | x :: a, i + 1, h => by
    rw [List.take_succ_cons]
    unfold Lab.cmpL
    rw [if_pos (Lab.c1_self x)]
    exact Lab.cmpL_take a i (by simpa using h)
end Go.Proofs.YtbilaghljlobpaaGreat
