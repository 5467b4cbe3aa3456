/- Plain laws of the reference's Set, Merge and Export. No program in sight. -/
import Derived.Test.YtflmojjpdmbnaaaL5P
namespace Go.Proofs.Ytflmojjpdmbnaaa

theorem Lab.rset_is (ls es : List Lab.L) (h : Lab.right ls = true) : Lab.rputs ls es = Lab.tabL ls es := by
  unfold Lab.tabL
  rw [Lab.puts_nil ls h]
  exact (Lab.rputs_is es ls ls (List.Perm.refl _) (Lab.strict_right h) (Lab.right_nodup h)).1
theorem Lab.puts_mem (a : List Lab.L) : ∀ b : List Lab.L, (Lab.names a).Nodup → (∀ x ∈ a, Lab.bs x.v ≠ []) → ∀ x, x ∈ Lab.puts b a ↔ x ∈ a ∨ (x ∈ b ∧ Lab.bs x.n ∉ Lab.names a) := by
  induction a with
  | nil => intro b _ _ x; simp [Lab.puts, Lab.names]
  | cons y r ih =>
    intro b hn hv x
    unfold Lab.names at hn
    rw [List.map_cons, List.nodup_cons] at hn
    show x ∈ Lab.puts (Lab.put1 b y) r ↔ _
    rw [ih (Lab.put1 b y) hn.2 (fun z hz => hv z (List.mem_cons_of_mem _ hz)) x, Lab.put1_mem]
    unfold Lab.names
    rw [List.map_cons, List.mem_cons, List.mem_cons]
    constructor
    · rintro (h | ⟨⟨h1, h2⟩ | ⟨rfl, h2⟩, h3⟩)
      · exact .inl (.inr h)
      · exact .inr ⟨h1, fun q => q.elim h2 h3⟩
      · exact .inl (.inl rfl)
    · rintro ((rfl | h) | ⟨h1, h2⟩)
      · exact .inr ⟨.inr ⟨rfl, hv _ List.mem_cons_self⟩, hn.1⟩
      · exact .inl h
      · exact .inr ⟨.inl ⟨h1, fun e => h2 (.inl e)⟩, fun e => h2 (.inr e)⟩
theorem Lab.puts_names (a : List Lab.L) : ∀ b : List Lab.L, (Lab.names b).Nodup → (Lab.names (Lab.puts b a)).Nodup := by
  induction a with
  | nil => intro b h; exact h
  | cons y r ih => intro b h; exact ih _ (Lab.put1_nodup h y)
theorem Lab.perm_of_mem {a b : List Lab.L} (ha : (Lab.names a).Nodup) (hb : (Lab.names b).Nodup) (h : ∀ x, x ∈ a ↔ x ∈ b) : a.Perm b :=
  (List.perm_ext_iff_of_nodup (Lab.nodup_of _ ha) (Lab.nodup_of _ hb)).2 h
/-- those that the others have not -/
def Lab.rest (a b : List Lab.L) : List Lab.L := b.filter fun x => !(Lab.names a).contains (Lab.bs x.n)
theorem Lab.rest_mem (a b : List Lab.L) (x : Lab.L) : x ∈ Lab.rest a b ↔ x ∈ b ∧ Lab.bs x.n ∉ Lab.names a := by
  unfold Lab.rest
  rw [List.mem_filter]
  simp
theorem Lab.rest_names (a b : List Lab.L) (ha : (Lab.names a).Nodup) (hb : (Lab.names b).Nodup) : (Lab.names (a ++ Lab.rest a b)).Nodup := by
  unfold Lab.names
  rw [List.map_append, List.nodup_append]
  refine ⟨ha, List.Nodup.sublist (List.filter_sublist.map _) hb, fun u hu v hv e => ?_⟩
  subst e
  obtain ⟨x, hx, rfl⟩ := List.mem_map.1 hv
  exact ((Lab.rest_mem a b x).1 hx).2 hu
theorem Lab.rmerge_is (a b : List Lab.L) (ha : Lab.right a = true) (hb : Lab.right b = true) : Lab.rputs a (Lab.rest a b) = Lab.tabL b a := by
  have na := Lab.right_nodup ha
  have nb := Lab.right_nodup hb
  have hn := Lab.rest_names a b na nb
  rw [(Lab.rputs_is (Lab.rest a b) a a (List.Perm.refl _) (Lab.strict_right ha) na).1]
  unfold Lab.tabL
  rw [Lab.puts_nil b hb, Lab.puts_append _ a hn (fun x hx => Lab.right_full b hb x ((Lab.rest_mem a b x).1 hx).1)]
  refine Lab.srt_perm_eq (Lab.perm_of_mem hn (Lab.puts_names a b nb) fun x => ?_) hn
  rw [Lab.puts_mem a b na (Lab.right_full a ha) x, List.mem_append, Lab.rest_mem]
/-- the step of the reference's Merge -/
theorem Lab.rest_drop (a b : List Lab.L) (k : Nat) (h : k < b.length) : Lab.rest a (b.drop k) = if Lab.bs b[k].n ∈ Lab.names a then Lab.rest a (b.drop (k + 1)) else b[k] :: Lab.rest a (b.drop (k + 1)) := by
  rw [List.drop_eq_getElem_cons h]
  unfold Lab.rest
  rw [List.filter_cons]
  by_cases e : Lab.bs b[k].n ∈ Lab.names a
  · rw [if_pos e, if_neg (by simp [e])]
  · rw [if_neg e, if_pos (by simp [e])]

/-- exported names of right names -/
theorem Lab.exp_ok (n : List UInt8) (h : Lab.named 95 n = true) : Lab.named 95 ([101, 120, 112, 111, 114, 116, 101, 100, 95] ++ n) = decide (n.length ≤ 119) := by
  unfold Lab.named at h
  simp only [Bool.and_eq_true, decide_eq_true_eq] at h
  obtain ⟨⟨h1, h2⟩, h3⟩ := h
  have hb : Lab.bytesOk 95 false n = true := by
    cases n with
    | nil => rfl
    | cons c r =>
      unfold Lab.bytesOk at h3 ⊢
      rw [Bool.and_eq_true] at h3 ⊢
      refine ⟨?_, h3.2⟩
      have h4 := h3.1
      unfold Lab.okByte at h4 ⊢
      simp only [Bool.not_true, Bool.false_and, Bool.or_false] at h4
      rw [h4]
      rfl
  by_cases hl : n.length ≤ 119
  · rw [Lab.named_mid 95 _ (by rw [List.length_append]; simp only [List.length_cons, List.length_nil]; omega) (by rw [List.length_append]; simp only [List.length_cons, List.length_nil]; omega), decide_eq_true hl]
    show (Lab.okByte 95 true 101 && (Lab.okByte 95 false 120 && (Lab.okByte 95 false 112 && (Lab.okByte 95 false 111 && (Lab.okByte 95 false 114 && (Lab.okByte 95 false 116 && (Lab.okByte 95 false 101 && (Lab.okByte 95 false 100 && (Lab.okByte 95 false 95 && Lab.bytesOk 95 false n))))))))) = true
    rw [hb]
    decide
  · rw [Lab.named_short 95 _ (.inr (by rw [List.length_append]; simp only [List.length_cons, List.length_nil]; omega)), decide_eq_false hl]
theorem Lab.exp_right (t s : List Lab.L) (x : Lab.L) (ht : Lab.right t = true) (hs : Lab.right s = true) (hx : x ∈ s) :
    Lab.expo1 t s x = if Lab.bs x.n ∉ Lab.names t then some x else if x.n.size ≤ 119 ∧ Lab.bs (Lab.expName x.n) ∉ Lab.names t ∧ Lab.bs (Lab.expName x.n) ∉ Lab.names s then some ⟨Lab.expName x.n, x.v⟩ else none := by
  have h1 : Lab.one x = 0 := (Lab.right_parts s hs).2 x hx
  have hn : Lab.named 95 (Lab.bs x.n) = true := by
    unfold Lab.one at h1
    split at h1
    · assumption
    · simp at h1
  have hsz : (Lab.bs x.n).length = x.n.size := Array.length_toList
  unfold Lab.expo1
  by_cases hm : Lab.bs x.n ∈ Lab.names t
  · have h2 : ¬ Lab.bs (Lab.get t x.n) = [] := fun e => (Lab.get_empty_iff t ht _).1 e hm
    have h3 : ¬ (Lab.bs x.n ∉ Lab.names t) := fun h => h hm
    rw [if_neg h2, if_neg h3, Lab.exp_bs, Lab.exp_ok _ hn, Lab.bs_append, hsz]
    have e1 := Lab.get_empty_iff t ht (Lab.expName x.n)
    have e2 := Lab.get_empty_iff s hs (Lab.expName x.n)
    rw [Lab.exp_bs] at e1 e2
    simp only [decide_eq_true_eq, List.append_eq_nil_iff, e1, e2]
  · have h2 : Lab.bs (Lab.get t x.n) = [] := (Lab.get_empty_iff t ht _).2 hm
    rw [if_pos h2, if_pos hm]
theorem Lab.exp_names (t s : List Lab.L) (ht : Lab.right t = true) (hs : Lab.right s = true) : (Lab.names (Lab.expoM t s ++ t)).Nodup := by
  unfold Lab.names
  rw [List.map_append, List.nodup_append]
  refine ⟨?_, Lab.right_nodup ht, ?_⟩
  · have hp : s.Pairwise fun a b => Lab.bs a.n ≠ Lab.bs b.n := by
      have := Lab.right_nodup hs
      unfold Lab.names List.Nodup at this
      rw [List.pairwise_map] at this
      exact this
    unfold Lab.expoM List.Nodup
    rw [List.pairwise_map, List.pairwise_filterMap]
    refine hp.imp_of_mem fun {a b} ha hb hab y hy y' hy' => ?_
    have inS : ∀ z : Lab.L, z ∈ s → Lab.bs (Lab.get s z.n) ≠ [] := fun z hz => Lab.get_full_ne s hs z.n (List.mem_map.2 ⟨z, hz, rfl⟩)
    rcases Lab.expo_some hy with ⟨rfl, h1⟩ | ⟨rfl, h1, h2, h3⟩ <;> rcases Lab.expo_some hy' with ⟨rfl, k1⟩ | ⟨rfl, k1, k2, k3⟩
    · exact hab
    · intro e
      have e2 : y.n = Lab.expName b.n := Lab.bs_inj e
      rw [← e2] at k3
      exact inS y ha k3
    · intro e
      have e2 : Lab.expName a.n = y'.n := Lab.bs_inj e
      rw [e2] at h3
      exact inS y' hb h3
    · intro e
      have e2 : Lab.bs (Lab.expName a.n) = Lab.bs (Lab.expName b.n) := e
      rw [Lab.exp_bs, Lab.exp_bs] at e2
      exact hab (List.append_cancel_left e2)
  · intro z hz z' hz' e
    subst e
    obtain ⟨y, hy, rfl⟩ := List.mem_map.1 hz
    obtain ⟨x, hx, hxy⟩ := Lab.expoM_mem hy
    rcases hxy with ⟨rfl, h1⟩ | ⟨rfl, h1, h2, h3⟩
    · exact ((Lab.get_empty_iff t ht _).1 h1) hz'
    · exact ((Lab.get_empty_iff t ht _).1 h2) hz'
theorem Lab.expoM_full (t s : List Lab.L) (hs : Lab.right s = true) : ∀ y ∈ Lab.expoM t s, Lab.bs y.v ≠ [] := fun y hy => by
  obtain ⟨x, hx, hxy⟩ := Lab.expoM_mem hy
  have := Lab.right_full s hs x hx
  rcases hxy with ⟨rfl, _⟩ | ⟨rfl, _⟩ <;> exact this
theorem Lab.rexport_is (t s : List Lab.L) (ht : Lab.right t = true) (hs : Lab.right s = true) : Lab.rputs t (Lab.expoM t s) = Lab.srt (Lab.puts (Lab.expoF t s [] s) t) := by
  have hn := Lab.exp_names t s ht hs
  have hp : (Lab.expoM t s ++ t).Perm (t ++ Lab.expoM t s) := List.perm_append_comm
  have hn2 : (Lab.names (t ++ Lab.expoM t s)).Nodup := ((Lab.names_perm hp).nodup_iff).1 hn
  have hv := Lab.expoM_full t s hs
  have hv2 : ∀ y ∈ Lab.expoM t s ++ t, Lab.bs y.v ≠ [] := fun y hy => by
    rw [List.mem_append] at hy
    exact hy.elim (hv y) (Lab.right_full t ht y)
  rw [(Lab.rputs_is (Lab.expoM t s) t t (List.Perm.refl _) (Lab.strict_right ht) (Lab.right_nodup ht)).1, Lab.puts_append _ t hn2 hv, Lab.expoF_puts, ← Lab.puts_app]
  show _ = Lab.srt (Lab.puts [] (Lab.expoM t s ++ t))
  rw [Lab.puts_append (Lab.expoM t s ++ t) [] hn hv2, List.nil_append]
  exact Lab.srt_perm_eq hp.symm hn2
end Go.Proofs.Ytflmojjpdmbnaaa
