/- Slots by the numbers of their targets, plain: what a sync of them answers, number by number. -/
import Derived.Test.YtpnpgjjbincigaaHas
namespace Go.Proofs.Ytpnpgjjbincigaa
open Go.RowKit
set_option linter.unusedVariables false

instance Po.decMem (u : Po.U) (T : List Po.U) : Decidable (u ∈ T) := decidable_of_iff (T.any (fun t => decide (t = u)) = true) (by
  rw [List.any_eq_true]
  constructor
  · rintro ⟨x, hx, h⟩
    rw [← of_decide_eq_true h]; exact hx
  · exact fun h => ⟨u, h, decide_eq_true rfl⟩)
def Po.rowsOf (f : Nat → Option Po.V) (k : Nat) : List Po.V := (List.range k).flatMap fun n => (f n).toList
def Po.Good (f : Nat → Option Po.V) : Prop := ∀ n v, n < 26 → f n = some v → Po.vu v = Po.tgt n
theorem Po.rows_mem {f : Nat → Option Po.V} {k : Nat} {v : Po.V} : v ∈ Po.rowsOf f k ↔ ∃ n, n < k ∧ f n = some v := by
  unfold Po.rowsOf
  rw [List.mem_flatMap]
  constructor
  · rintro ⟨n, hn, h⟩
    rw [Option.mem_toList] at h
    exact ⟨n, List.mem_range.1 hn, h⟩
  · rintro ⟨n, hn, h⟩
    exact ⟨n, List.mem_range.2 hn, by rw [Option.mem_toList]; exact h⟩
theorem Po.ky_tgt_inj (a b : Nat) (ha : a < 26) (hb : b < 26) (h : Po.ky (Po.tgt a) = Po.ky (Po.tgt b)) : a = b := by
  rcases Nat.lt_trichotomy a b with h1 | h1 | h1
  · have := Po.tgt_lt a b h1 hb
    rw [h] at this
    exact absurd this (List.lt_irrefl _)
  · exact h1
  · have := Po.tgt_lt b a h1 ha
    rw [h] at this
    exact absurd this (List.lt_irrefl _)
def Po.fmade (xs : List Sm5) (n : Nat) : Option Po.V := (Po.pick xs n).map fun x => Po.sm x n
theorem Po.made_rows (xs : List Sm5) : Po.made xs 26 = Po.rowsOf (Po.fmade xs) 26 := rfl
theorem Po.fmade_good (xs : List Sm5) : Po.Good (Po.fmade xs) := fun n v _ h => by
  unfold Po.fmade at h
  cases hp : Po.pick xs n with
  | none => rw [hp] at h; cases h
  | some x => rw [hp] at h; cases h; rfl
theorem Po.rows_sl {f : Nat → Option Po.V} (hf : Po.Good f) (n : Nat) (hn : n < 26) : Po.sl (Po.rowsOf f 26) (Po.ky (Po.tgt n)) = f n := by
  unfold Po.sl
  cases hc : (Po.rowsOf f 26).find? (fun s => decide (Po.vk s = Po.ky (Po.tgt n))) with
  | none =>
    cases hv : f n with
    | none => rfl
    | some v =>
      have := List.find?_eq_none.1 hc v (Po.rows_mem.2 ⟨n, hn, hv⟩)
      exact absurd (by unfold Po.vk; rw [hf n v hn hv]; simp) this
  | some w =>
    have h0 : decide (Po.vk w = Po.ky (Po.tgt n)) = true := List.find?_some (p := fun s => decide (Po.vk s = Po.ky (Po.tgt n))) hc
    have h1 := of_decide_eq_true h0
    obtain ⟨m, hm, hw⟩ := Po.rows_mem.1 (List.mem_of_find?_eq_some hc)
    have h2 := hf m w hm hw
    unfold Po.vk at h1
    rw [h2] at h1
    obtain rfl := Po.ky_tgt_inj m n hm hn h1
    exact hw.symm
theorem Po.rows_none {f : Nat → Option Po.V} (hf : Po.Good f) (n : Nat) (hn : n < 26) (h : f n = none) : Po.find (Po.rowsOf f 26) (Po.tgt n) = (0, false) := by
  unfold Po.find
  cases hx : Po.fx (Po.rowsOf f 26) (Po.tgt n) with
  | none => rfl
  | some k =>
    obtain ⟨h1, h2, _⟩ := (Po.fx_facts _ _).1 k hx
    obtain ⟨m, hm, hw⟩ := Po.rows_mem.1 (List.getElem_mem h1)
    have h3 := hf m _ hm hw
    rw [h2] at h3
    obtain rfl := Po.tgt_inj n m hn hm h3
    rw [h] at hw
    cases hw
theorem Po.rows_some {f : Nat → Option Po.V} (hf : Po.Good f) (n : Nat) (hn : n < 26) (v : Po.V) (h : f n = some v) : ∃ k : Nat, Po.find (Po.rowsOf f 26) (Po.tgt n) = ((k : Int), true) ∧ ∃ hk : k < (Po.rowsOf f 26).length, (Po.rowsOf f 26)[k] = v := by
  unfold Po.find
  cases hx : Po.fx (Po.rowsOf f 26) (Po.tgt n) with
  | none => exact absurd (hf n v hn h) ((Po.fx_facts _ _).2 hx v (Po.rows_mem.2 ⟨n, hn, h⟩))
  | some k =>
    obtain ⟨h1, h2, _⟩ := (Po.fx_facts _ _).1 k hx
    refine ⟨k, rfl, h1, ?_⟩
    obtain ⟨m, hm, hw⟩ := Po.rows_mem.1 (List.getElem_mem h1)
    have h3 := hf m _ hm hw
    rw [h2] at h3
    obtain rfl := Po.tgt_inj n m hn hm h3
    rw [h] at hw
    exact (Option.some.inj hw).symm
/-- is the n-th target wanted -/
def Po.tT (T : List Po.U) (n : Nat) : Option Po.U := if Po.tgt n ∈ T then some (Po.tgt n) else none
def Po.Small (T : List Po.U) : Prop := ∀ t ∈ T, ∃ m, m < 26 ∧ t = Po.tgt m
theorem Po.want_small (xs : List UInt8) : Po.Small (Po.want xs) := fun t ht => by
  unfold Po.want at ht
  obtain ⟨x, _, rfl⟩ := List.mem_map.1 ht
  exact ⟨x.toNat % 26, Nat.mod_lt _ (by decide), (Po.tgt_mod _).symm⟩
theorem Po.small_okT {T : List Po.U} (h : Po.Small T) : Po.okT T = true := by
  unfold Po.okT
  rw [List.all_eq_true]
  intro t ht
  obtain ⟨m, hm, rfl⟩ := h t ht
  exact decide_eq_true (Po.ke_tgt m hm)
theorem Po.small_okU {T : List Po.U} (h : Po.Small T) : ∀ t ∈ T, Po.okU t := fun t ht => by
  obtain ⟨m, hm, rfl⟩ := h t ht
  exact Po.tgt_ok m
theorem Po.rows_tg {T : List Po.U} (hT : Po.Small T) (n : Nat) (hn : n < 26) : Po.tg T (Po.ky (Po.tgt n)) = Po.tT T n := by
  unfold Po.tg Po.tT
  cases hc : T.find? (fun t => decide (Po.ky t = Po.ky (Po.tgt n))) with
  | none =>
    rw [if_neg]
    intro hm
    exact absurd (by simp) (List.find?_eq_none.1 hc _ hm)
  | some w =>
    have h0 : decide (Po.ky w = Po.ky (Po.tgt n)) = true := List.find?_some (p := fun t => decide (Po.ky t = Po.ky (Po.tgt n))) hc
    have h1 := of_decide_eq_true h0
    have h2 := List.mem_of_find?_eq_some hc
    obtain ⟨m, hm, rfl⟩ := hT w h2
    obtain rfl := Po.ky_tgt_inj m n hm hn h1
    rw [if_pos h2]
/-- what becomes of a number -/
def Po.fS (f : Nat → Option Po.V) (T : List Po.U) (ev ti : Int) (n : Nat) : Option Po.V := (Po.oS ev ti (f n) (Po.tT T n)).head?
theorem Po.oS_one (ev ti : Int) (a : Option Po.V) (b : Option Po.U) : (Po.oS ev ti a b).head?.toList = Po.oS ev ti a b := by
  rcases a with _ | a <;> rcases b with _ | b <;> rfl
theorem flatMap_filter_of {α β : Type} (l : List α) (p : α → Bool) (g : α → List β) (h : ∀ x ∈ l, p x = false → g x = []) : (l.filter p).flatMap g = l.flatMap g := by
  induction l with
  | nil => rfl
  | cons x r ih =>
    rw [List.filter_cons]
    cases hp : p x with
    | true =>
      rw [if_pos rfl, List.flatMap_cons, List.flatMap_cons, ih fun y hy => h y (List.mem_cons_of_mem _ hy)]
    | false =>
      rw [if_neg (by simp), List.flatMap_cons, h x (List.mem_cons_self ..) hp, List.nil_append, ih fun y hy => h y (List.mem_cons_of_mem _ hy)]
theorem flatMap_congr_of {α β : Type} (l : List α) (g k : α → List β) (h : ∀ x ∈ l, g x = k x) : l.flatMap g = l.flatMap k := by
  induction l with
  | nil => rfl
  | cons x r ih => rw [List.flatMap_cons, List.flatMap_cons, h x (List.mem_cons_self ..), ih fun y hy => h y (List.mem_cons_of_mem _ hy)]
theorem Po.rows_ks {f : Nat → Option Po.V} (hf : Po.Good f) {T : List Po.U} (hT : Po.Small T) :
    Po.ks (Po.rowsOf f 26) T = ((List.range 26).filter fun n => (f n).isSome || decide (Po.tgt n ∈ T)).map fun n => Po.ky (Po.tgt n) := by
  refine Po.asc_eq _ _ (Po.srt_asc _) ?_ fun k => ?_
  · refine List.pairwise_map.2 ?_
    refine List.Pairwise.imp_of_mem ?_ ((List.pairwise_lt_range (n := 26)).filter _)
    intro a b ha hb hab
    exact Po.tgt_lt a b hab (List.mem_range.1 (List.mem_filter.1 hb).1)
  · unfold Po.ks
    rw [Po.srt_mem, List.mem_append]
    constructor
    · rintro (h | h)
      · obtain ⟨v, hv, rfl⟩ := List.mem_map.1 h
        obtain ⟨n, hn, h2⟩ := Po.rows_mem.1 hv
        refine List.mem_map.2 ⟨n, List.mem_filter.2 ⟨List.mem_range.2 hn, by rw [h2]; rfl⟩, ?_⟩
        unfold Po.vk
        rw [hf n v hn h2]
      · obtain ⟨t, ht, rfl⟩ := List.mem_map.1 h
        obtain ⟨m, hm, rfl⟩ := hT t ht
        exact List.mem_map.2 ⟨m, List.mem_filter.2 ⟨List.mem_range.2 hm, by rw [decide_eq_true ht, Bool.or_true]⟩, rfl⟩
    · intro hk
      obtain ⟨n, hn, rfl⟩ := List.mem_map.1 hk
      obtain ⟨h1, h2⟩ := List.mem_filter.1 hn
      rw [Bool.or_eq_true] at h2
      rcases h2 with h2 | h2
      · obtain ⟨v, hv⟩ := Option.isSome_iff_exists.1 h2
        refine .inl (List.mem_map.2 ⟨v, Po.rows_mem.2 ⟨n, List.mem_range.1 h1, hv⟩, ?_⟩)
        unfold Po.vk
        rw [hf n v (List.mem_range.1 h1) hv]
      · exact .inr (List.mem_map_of_mem (of_decide_eq_true h2))
theorem Po.rows_sS {f : Nat → Option Po.V} (hf : Po.Good f) {T : List Po.U} (hT : Po.Small T) (ev ti : Int) : Po.sS (Po.rowsOf f 26) T ev ti = Po.rowsOf (Po.fS f T ev ti) 26 := by
  unfold Po.sS
  rw [Po.rows_ks hf hT, List.flatMap_map, flatMap_filter_of]
  · unfold Po.rowsOf
    refine flatMap_congr_of _ _ _ fun n hn => ?_
    have := Po.rows_sl hf n (List.mem_range.1 hn)
    unfold Po.rowsOf at this
    rw [this, Po.rows_tg hT n (List.mem_range.1 hn)]
    exact (Po.oS_one ev ti _ _).symm
  · intro n hn hp
    rw [Po.rows_sl hf n (List.mem_range.1 hn), Po.rows_tg hT n (List.mem_range.1 hn)]
    rw [Bool.or_eq_false_iff] at hp
    have h1 : f n = none := by simpa using hp.1
    have h2 : Po.tT T n = none := if_neg (of_decide_eq_false hp.2)
    rw [h1, h2]
    rfl
theorem Po.rows_sM {f : Nat → Option Po.V} (hf : Po.Good f) {T : List Po.U} (hT : Po.Small T) (ev ti : Int) : Po.sM (Po.rowsOf f 26) T ev ti = (List.range 26).flatMap fun n => Po.oM ev ti (f n) (Po.tT T n) := by
  unfold Po.sM
  rw [Po.rows_ks hf hT, List.flatMap_map, flatMap_filter_of]
  · refine flatMap_congr_of _ _ _ fun n hn => ?_
    rw [Po.rows_sl hf n (List.mem_range.1 hn), Po.rows_tg hT n (List.mem_range.1 hn)]
  · intro n hn hp
    rw [Po.rows_sl hf n (List.mem_range.1 hn), Po.rows_tg hT n (List.mem_range.1 hn)]
    rw [Bool.or_eq_false_iff] at hp
    have h1 : f n = none := by simpa using hp.1
    have h2 : Po.tT T n = none := if_neg (of_decide_eq_false hp.2)
    rw [h1, h2]
    rfl
theorem Po.rows_len (f : Nat → Option Po.V) (k : Nat) : (Po.rowsOf f k).length ≤ k := by
  induction k with
  | zero => simp [Po.rowsOf]
  | succ k ih =>
    unfold Po.rowsOf at ih ⊢
    rw [List.range_succ, List.flatMap_append, List.length_append]
    have : ([k].flatMap fun n => (f n).toList).length ≤ 1 := by cases h : f k <;> simp [h]
    omega
theorem Po.fS_good {f : Nat → Option Po.V} (hf : Po.Good f) (T : List Po.U) (ev ti : Int) : Po.Good (Po.fS f T ev ti) := fun n v hn h => by
  unfold Po.fS Po.tT at h
  cases ha : f n with
  | none =>
    rw [ha] at h
    split at h
    · cases h; rfl
    · cases h
  | some a =>
    rw [ha] at h
    cases h
    exact hf n a hn ha
/-- a sync of such slots is right -/
theorem Po.rows_sync {f : Nat → Option Po.V} (hf : Po.Good f) (hok : Po.okVs (Po.rowsOf f 26) = true) {T : List Po.U} (hT : Po.Small T) (ev ti : Int) (hn : Po.num ev ti = true) :
    Po.sync (Po.rowsOf f 26) T ev ti = (0, Po.rowsOf (Po.fS f T ev ti) 26, (List.range 26).flatMap fun n => Po.oM ev ti (f n) (Po.tT T n)) := by
  unfold Po.sync
  rw [if_pos hok, if_pos hn, if_pos (Po.small_okT hT), Po.rows_sS hf hT, Po.rows_sM hf hT, if_pos (Nat.le_trans (Po.rows_len _ _) (by decide))]
theorem Po.rows_okU {f : Nat → Option Po.V} (hf : Po.Good f) : ∀ v ∈ Po.rowsOf f 26, Po.okU (Po.vu v) := fun v hv => by
  obtain ⟨n, hn, h⟩ := Po.rows_mem.1 hv
  rw [hf n v hn h]
  exact Po.tgt_ok n
/-- moves of numbers -/
theorem Po.oM_okU {f : Nat → Option Po.V} (hf : Po.Good f) (T : List Po.U) (ev ti : Int) (n : Nat) (hn : n < 26) : ∀ m ∈ Po.oM ev ti (f n) (Po.tT T n), m.2 = Po.tgt n := fun m hm => by
  obtain ⟨b, hb⟩ : ∃ b, Po.tT T n = b := ⟨_, rfl⟩
  have hb2 : ∀ u, b = some u → u = Po.tgt n := fun u hu => by
    rw [hu] at hb
    unfold Po.tT at hb
    split at hb
    · exact (Option.some.inj hb).symm
    · cases hb
  rw [hb] at hm
  cases ha : f n with
  | none =>
    rw [ha] at hm
    cases b with
    | none => cases hm
    | some u =>
      have h1 : m = (1, u.1, u.2) := List.mem_singleton.1 hm
      rw [h1, hb2 u rfl]
  | some a =>
    have h1 : (a.1, a.2.1) = Po.tgt n := hf n a hn ha
    rw [ha] at hm
    have h2 : m ∈ (if a.2.2.1 = ev ∧ a.2.2.2.1 = ti ∧ a.2.2.2.2 = false ∧ b.isSome = true then [] else (if a.2.2.2.2 = true then [] else [((2 : Int), a.1, a.2.1)]) ++ if b.isSome = true then [((3 : Int), a.1, a.2.1)] else []) := by
      cases b <;> exact hm
    rw [← h1]
    by_cases hc : a.2.2.1 = ev ∧ a.2.2.2.1 = ti ∧ a.2.2.2.2 = false ∧ b.isSome = true
    · rw [if_pos hc] at h2; cases h2
    · rw [if_neg hc] at h2
      rcases List.mem_append.1 h2 with h2 | h2
      · by_cases hd : a.2.2.2.2 = true
        · rw [if_pos hd] at h2; cases h2
        · rw [if_neg hd] at h2; rw [List.mem_singleton.1 h2]
      · by_cases hd : b.isSome = true
        · rw [if_pos hd] at h2; rw [List.mem_singleton.1 h2]
        · rw [if_neg hd] at h2; cases h2
end Go.Proofs.Ytpnpgjjbincigaa
