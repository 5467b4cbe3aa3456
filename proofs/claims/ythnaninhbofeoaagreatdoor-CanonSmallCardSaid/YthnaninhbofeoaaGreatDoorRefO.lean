/- Plain laws: what the reference's Sort does (it takes the least key that is greater than the last one, again and again) tells the same targets as canon.Sort. No program in sight. Contracts of the reference's canon: First, Sort. -/
import Derived.Test.YthnaninhbofeoaaGreatDoorFst
import Derived.Test.YthnaninhbofeoaaGreatDoorRefL
import Derived.Test.YthnaninhbofeoaaGreatDoorRefF
import Derived.Test.YthnaninhbofeoaaGreatDoorKeyC
namespace Go.Proofs.YthnaninhbofeoaaGreatDoor

/-- r is taken of ts, up to the key last -/
def Can.Got (ts r : List Can.T) (last : List UInt8) : Prop :=
  Can.Up (r.map Can.jl) ∧ (∀ t ∈ r, t ∈ ts ∧ ¬ last < Can.kd (Can.jl t)) ∧ (∀ t ∈ ts, ¬ last < Can.kd (Can.jl t) → Can.jl t ∈ r.map Can.jl)
theorem Can.kd_pos (x : ByteArray × List Lab.L) : ([] : List UInt8) < Can.kd x := by
  unfold Can.kd
  cases h : Lab.bs x.1 ++ [254] ++ Can.raw x.2 with
  | nil => simp at h
  | cons a l => exact List.nil_lt_cons a l
theorem Can.got_nil (ts : List Can.T) : Can.Got ts [] [] :=
  ⟨List.Pairwise.nil, fun t ht => absurd ht (by simp), fun t _ h => absurd (Can.kd_pos _) h⟩
theorem Can.le_lt {a b c : List UInt8} (h1 : ¬ b < a) (h2 : b < c) : a < c := by
  rw [List.not_lt] at h1
  rcases Decidable.em (a < c) with h | h
  · exact h
  · rw [List.not_lt] at h
    exact absurd h2 (List.not_lt.2 (List.le_trans h h1))
theorem Can.same_lt {a b : List UInt8} (h1 : ¬ a < b) (h2 : ¬ b < a) : a = b := by
  rw [List.not_lt] at h1 h2
  exact List.le_antisymm h2 h1
theorem Can.got_next (ts r : List Can.T) (last : List UInt8) (t : Can.T) (hf : ∀ t ∈ ts, Can.Fine t) (h : Can.Got ts r last) (ht : t ∈ ts) (hl : last < Can.kd (Can.jl t))
    (hm : ∀ u ∈ ts, last < Can.kd (Can.jl u) → ¬ Can.kd (Can.jl u) < Can.kd (Can.jl t)) : Can.Got ts (r ++ [t]) (Can.kd (Can.jl t)) := by
  obtain ⟨h1, h2, h3⟩ := h
  refine ⟨?_, fun u hu => ?_, fun u hu hn => ?_⟩
  · unfold Can.Up at h1 ⊢
    rw [List.map_append, List.pairwise_append]
    refine ⟨h1, List.pairwise_singleton _ _, fun a ha b hb => ?_⟩
    obtain ⟨u, hu, rfl⟩ := List.mem_map.1 ha
    have hb2 : b = Can.jl t := by simpa using hb
    subst hb2
    exact Can.le_lt (h2 u hu).2 hl
  · rw [List.mem_append, List.mem_singleton] at hu
    rcases hu with hu | rfl
    · exact ⟨(h2 u hu).1, fun hlt => (h2 u hu).2 (List.lt_trans hl hlt)⟩
    · exact ⟨ht, List.lt_irrefl _⟩
  · rw [List.map_append, List.mem_append]
    by_cases hlu : last < Can.kd (Can.jl u)
    · refine .inr ?_
      have e := Can.same_lt hn (hm u hu hlu)
      have := (Can.kb_inj t u (hf t ht) (hf u hu)).1 e
      have e2 : Can.jl u = Can.jl t := by unfold Can.jl; rw [this.1, this.2]
      rw [e2]
      exact List.mem_singleton.2 rfl
    · exact .inl (h3 u hu hlu)
theorem Can.got_all (ts r : List Can.T) (last : List UInt8) (h : Can.Got ts r last) (he : ∀ t ∈ ts, ¬ last < Can.kd (Can.jl t)) : Can.Up (r.map Can.jl) ∧ ∀ x, x ∈ r.map Can.jl ↔ x ∈ ts.map Can.jl := by
  obtain ⟨h1, h2, h3⟩ := h
  refine ⟨h1, fun x => ⟨fun hx => ?_, fun hx => ?_⟩⟩
  · obtain ⟨t, ht, rfl⟩ := List.mem_map.1 hx
    exact List.mem_map.2 ⟨t, (h2 t ht).1, rfl⟩
  · obtain ⟨t, ht, rfl⟩ := List.mem_map.1 hx
    exact h3 t ht (he t ht)
/-- how many keys are greater than the last one -/
def Can.left (ts : List Can.T) (last : List UInt8) : Nat := ts.countP fun t => decide (last < Can.kd (Can.jl t))
theorem Can.count_less {α : Type} (p q : α → Bool) : ∀ l : List α, (∀ u ∈ l, q u = true → p u = true) → (∃ t ∈ l, p t = true ∧ q t = false) → l.countP q < l.countP p
  | [], _, h => by obtain ⟨t, ht, _⟩ := h; simp at ht
  | x :: l, h, ⟨t, ht, h1, h2⟩ => by
    have hx := h x List.mem_cons_self
    have hr := fun u hu => h u (List.mem_cons_of_mem _ hu)
    have hle : l.countP q ≤ l.countP p := List.countP_mono_left hr
    rw [List.countP_cons, List.countP_cons]
    rw [List.mem_cons] at ht
    rcases ht with rfl | ht
    · rw [if_pos h1, if_neg (by rw [h2]; simp)]
      omega
    · have ih := Can.count_less p q l hr ⟨t, ht, h1, h2⟩
      by_cases hq : q x = true
      · rw [if_pos hq, if_pos (hx hq)]
        omega
      · rw [if_neg hq]
        omega
theorem Can.left_next (ts : List Can.T) (last : List UInt8) (t : Can.T) (ht : t ∈ ts) (hl : last < Can.kd (Can.jl t)) : Can.left ts (Can.kd (Can.jl t)) < Can.left ts last := by
  refine Can.count_less _ _ ts (fun u _ h => ?_) ⟨t, ht, decide_eq_true hl, decide_eq_false (List.lt_irrefl _)⟩
  exact decide_eq_true (List.lt_trans hl (of_decide_eq_true h))
theorem Can.left_le (ts : List Can.T) (last : List UInt8) : Can.left ts last ≤ ts.length := List.countP_le_length
/-- the least one, of the first k, of those that are greater than the last one -/
def Can.Best (ks : List (List UInt8)) (last : List UInt8) (k : Nat) (b : Int) : Prop :=
  (b = -1 ∧ ∀ j, j < k → ¬ last < ks.getD j []) ∨ ∃ m : Nat, m < k ∧ b = (m : Int) ∧ last < ks.getD m [] ∧ ∀ j, j < k → last < ks.getD j [] → ¬ ks.getD j [] < ks.getD m []
theorem Can.best_zero (ks : List (List UInt8)) (last : List UInt8) : Can.Best ks last 0 (-1) := .inl ⟨rfl, fun j h => by omega⟩
theorem Can.best_pass {ks : List (List UInt8)} {last : List UInt8} {k : Nat} {b : Int} (h : Can.Best ks last k b) (hn : ¬ last < ks.getD k []) : Can.Best ks last (k + 1) b := by
  rcases h with ⟨h1, h2⟩ | ⟨m, h1, h2, h3, h4⟩
  · refine .inl ⟨h1, fun j hj => ?_⟩
    rcases Nat.lt_or_ge j k with h | h
    · exact h2 j h
    · obtain rfl : j = k := by omega
      exact hn
  · refine .inr ⟨m, by omega, h2, h3, fun j hj hl => ?_⟩
    rcases Nat.lt_or_ge j k with h | h
    · exact h4 j h hl
    · obtain rfl : j = k := by omega
      exact absurd hl hn
theorem Can.best_first {ks : List (List UInt8)} {last : List UInt8} {k : Nat} (h : Can.Best ks last k (-1)) (hy : last < ks.getD k []) : Can.Best ks last (k + 1) k := by
  rcases h with ⟨_, h2⟩ | ⟨m, _, h2, _⟩
  · refine .inr ⟨k, by omega, rfl, hy, fun j hj hl => ?_⟩
    rcases Nat.lt_or_ge j k with h | h
    · exact absurd hl (h2 j h)
    · obtain rfl : j = k := by omega
      exact List.lt_irrefl _
  · omega
theorem Can.best_less {ks : List (List UInt8)} {last : List UInt8} {k m : Nat} (h : Can.Best ks last k (m : Int)) (hy : last < ks.getD k []) (hq : ks.getD k [] < ks.getD m []) : Can.Best ks last (k + 1) k := by
  rcases h with ⟨h1, _⟩ | ⟨m', h1, h2, h3, h4⟩
  · omega
  · obtain rfl : m' = m := by omega
    refine .inr ⟨k, by omega, rfl, hy, fun j hj hl hlt => ?_⟩
    rcases Nat.lt_or_ge j k with h | h
    · exact h4 j h hl (List.lt_trans hlt hq)
    · obtain rfl : j = k := by omega
      exact List.lt_irrefl _ hlt
theorem Can.best_more {ks : List (List UInt8)} {last : List UInt8} {k m : Nat} (h : Can.Best ks last k (m : Int)) (hq : ¬ ks.getD k [] < ks.getD m []) : Can.Best ks last (k + 1) m := by
  rcases h with ⟨h1, _⟩ | ⟨m', h1, h2, h3, h4⟩
  · omega
  · obtain rfl : m' = m := by omega
    refine .inr ⟨m', by omega, rfl, h3, fun j hj hl => ?_⟩
    rcases Nat.lt_or_ge j k with h | h
    · exact h4 j h hl
    · obtain rfl : j = k := by omega
      exact hq
theorem Can.best_or {ks : List (List UInt8)} {last : List UInt8} {k : Nat} {b : Int} (h : Can.Best ks last k b) : b = -1 ∨ ∃ m : Nat, m < k ∧ b = (m : Int) := by
  rcases h with ⟨h1, _⟩ | ⟨m, h1, h2, _⟩
  · exact .inl h1
  · exact .inr ⟨m, h1, h2⟩
/-- the index k is a first one just if no key before it is the same -/
theorem Can.firsts_next (ks : List (List UInt8)) (k : Nat) (h : k < ks.length) : Can.firsts ks (k + 1) = Can.firsts ks k ++ (if ks[k] ∈ ks.take k then [] else [k]) := by
  rw [Can.firsts_succ ks k h]
  split <;> simp
theorem Can.mem_take_next (ks : List (List UInt8)) (x : List UInt8) (j : Nat) (h : j < ks.length) : decide (x ∉ ks.take (j + 1)) = (decide (x ∉ ks.take j) && !decide (ks[j] = x)) := by
  rw [List.take_add_one, List.getElem?_eq_getElem h]
  rw [Bool.eq_iff_iff]
  simp only [Option.toList_some, List.mem_append, List.mem_singleton, not_or, decide_eq_true_eq, Bool.and_eq_true, Bool.not_eq_true', decide_eq_false_iff_not]
  exact ⟨fun h => ⟨h.1, fun e => h.2 e.symm⟩, fun h => ⟨h.1, fun e => h.2 e.symm⟩⟩
end Go.Proofs.YthnaninhbofeoaaGreatDoor
namespace Go.Proofs.YthnaninhbofeoaaGreatDoor
open Go.RowKit

/-- of targets of which none is wrong -/
theorem Can.err_zero : ∀ ts : List Can.T, Can.err ts = 0 → ∀ t ∈ ts, Can.keyE t = 0
  | [], _, t, ht => by simp at ht
  | x :: r, h, t, ht => by
    have h2 : (if Can.keyE x = 0 then Can.err r else Can.keyE x) = 0 := h
    split at h2
    · rename_i h3
      rw [List.mem_cons] at ht
      rcases ht with rfl | ht
      · exact h3
      · exact Can.err_zero r h2 t ht
    · rename_i h3
      exact absurd h2 h3
theorem Can.fine_key (t : Can.T) (hF : Can.TFit t) (h : Can.keyE t = 0) : Can.Fine t ∧ Can.keyB t = Can.kb t := by
  unfold Can.keyE Can.key at h
  have hb : Can.keyB t = ⟨(Can.key (Lab.bs t.job) t.ls).1.toArray⟩ := rfl
  unfold Can.key at hb
  split at h
  · rename_i hj
    rw [if_pos hj] at hb
    split at h
    · rename_i h0
      rw [if_pos h0] at hb
      unfold Can.bytes at h0 hb
      split at h0
      · rename_i hr
        rw [if_pos hr] at hb
        exact ⟨⟨hF.1, hj, hr⟩, hb⟩
      · simp at h0
    · rename_i h0
      exact absurd h h0
  · simp at h
theorem Can.keys_fine (ts : List Can.T) (hF : ∀ t ∈ ts, Can.TFit t) (h : Can.err ts = 0) : (∀ t ∈ ts, Can.Fine t) ∧ Can.keysOf ts = ts.map Can.kb := by
  have hz := Can.err_zero ts h
  refine ⟨fun t ht => (Can.fine_key t (hF t ht) (hz t ht)).1, ?_⟩
  unfold Can.keysOf
  rw [if_pos h]
  exact List.map_congr_left fun t ht => (Can.fine_key t (hF t ht) (hz t ht)).2
/-- the strings as they lie in memory, of whatever number -/
theorem OwnTexts.form {B : Nat} {v : Value} {l : List ByteArray} {w : World} (h : OwnTexts B v l w) :
    ∃ p c, v = .slice p l.length c ∧ ∀ k (hk : k < l.length), ∃ g, p = some ⟨g, 0, none⟩ ∧ w.cell? ⟨g, k, none⟩ = some (.string l[k]) := by
  rcases h.open with ⟨rfl, rfl⟩ | ⟨g, c, rfl, _, _, _, hc⟩
  · exact ⟨none, 0, rfl, fun k hk => by simp at hk⟩
  · exact ⟨_, c, rfl, fun k hk => ⟨g, rfl, hc k _ (List.getElem?_eq_getElem hk)⟩⟩

set_option maxHeartbeats 3200000 in
set_option maxRecDepth 100000 in
theorem rfirst_is (b o c : Nat) (ts : List Can.T) (ks : List ByteArray) (er : Int) (n : Nat) (w : World) (hb0 : b < w.heap.size) (hn : ts.length = n) (hT : Can.TAt b o ts w) (hF : ∀ t ∈ ts, Can.TFit t) (he : Can.err ts = er) (hk : Can.keysOf ts = ks) (hl : n ≤ 1000) :
    Calls Tryz.prog 29 #[.slice (some ⟨b, o, none⟩) n c] w fun e w' => (∃ v, e = .returned (.tuple #[v, .int .i64 er]) ∧ OwnInts w.heap.size v ((Can.firsts (ks.map Lab.bs) ks.length).map (fun i => ((i : Nat) : Int))) w') ∧ Below w.heap.size w w' := by
  have HK := Lib.hid (rkeys_is b o c ts ks er n w hb0 hn hT hF he hk hl)
  have hkl : er = 0 ∨ ks = [] := by
    by_cases h : er = 0
    · exact .inl h
    · refine .inr ?_
      rw [← hk]
      unfold Can.keysOf
      rw [he, if_neg h]
  have hkn : ks.length ≤ 1000 := by
    rw [← hk]
    unfold Can.keysOf
    split
    · rw [List.length_map, hn]; exact hl
    · simp
  obtain ⟨i0, hi, hz0, hz1, hz2⟩ := info_parts infoInt
  have HI := Lib.hid hi
  obtain ⟨kk, hkk⟩ : ∃ kk, ks.map Lab.bs = kk := ⟨_, rfl⟩
  obtain ⟨m, hm⟩ : ∃ m, ks.length = m := ⟨_, rfl⟩
  rw [hkk, hm]
  clear hn hT hF he hk hi hb0
  go_enter Tryz.func29, Tryz.ntmps29
  go_wp2_with (go_at_call 64; refine HK.out.mono ?_)
  first | rintro e w1 v rfl hv hb1 | rintro e w1 ⟨⟨v, rfl, hv⟩, hb1⟩
  clear HK
  by_cases h0 : er = 0
  · subst h0
    obtain ⟨pv, cv, rfl, hcell⟩ := hv.form
    have HC := Lib.hid hcell
    have hkkl : kk.length = ks.length := by rw [← hkk, List.length_map]
    have HE : Hid (∀ i (h1 : i < ks.length) (h2 : i < kk.length), kk[i] = Lab.bs ks[i]) := fun i h1 h2 => by simp [← hkk]
    have HFN := Lib.hid (Can.firsts_next kk)
    have HFL := Lib.hid (Can.firsts_length kk)
    rw [hm] at hkn hkkl ⊢
    have HM := Lib.hid hm
    have HL := Lib.hid hkkl
    clear hcell hv hkk hkkl hm hkl
    go_wp2_with fail
    go_loopw [6, 7] (fun u i wr => ∃ k : Nat, k ≤ m ∧ i = .int .i64 k ∧ OwnInts w1.heap.size u ((Can.firsts kk k).map (fun i => ((i : Nat) : Int))) wr ∧ Below w1.heap.size w1 wr) (fun _ i _ => m - (intOf i).toNat)
    case atStart => exact ⟨0, Nat.zero_le _, rfl, World.ownsRow_nil _ _ _ _, Below.refl _ _⟩
    case round =>
      obtain ⟨k, hk, rfl, hown, hbx⟩ := hrel
      have hsz := hbx.size
      by_cases hlt : k < m
      · have k1 : k < ks.length := by rw [HM.out]; exact hlt
        have k2 : k < kk.length := by rw [HL.out]; exact hlt
        obtain ⟨gk, rfl, hck0⟩ := HC.out k k1
        have hkx := HE.out k k1 k2
        have hfn := HFN.out k k2
        have hfl := HFL.out k
        obtain ⟨x, hx⟩ : ∃ x, ks[k] = x := ⟨_, rfl⟩
        rw [hx] at hck0 hkx
        rw [hkx] at hfn
        have HX := Lib.hid hfn
        obtain ⟨l0, hl0⟩ : ∃ l0, Can.firsts kk k = l0 := ⟨_, rfl⟩
        rw [hl0] at hown HX hfl
        have HCK : Hid (∀ w', Below w1.heap.size w1 w' → w'.cell? ⟨gk, k, none⟩ = some (.string x)) := fun w' hw => cell_later hw hck0 (Nat.le_refl _)
        clear hfn hl0 hkx hx k1 k2 hck0
        go_wp2_with fail
        go_loopw [8, 9] (fun f i wq => ∃ j : Nat, j ≤ k ∧ i = .int .i64 j ∧ f = .bool (decide (Lab.bs x ∉ kk.take j)) ∧ ∃ q, wq = wr.drewN q) (fun _ i _ => k - (intOf i).toNat)
        case atStart => exact ⟨0, Nat.zero_le _, rfl, by simp, 0, rfl⟩
        case round =>
          obtain ⟨j, hj, rfl, rfl, q, rfl⟩ := hrel
          by_cases hjl : j < k
          · have j1 : j < ks.length := by rw [HM.out]; omega
            have j2 : j < kk.length := by rw [HL.out]; omega
            obtain ⟨gk', he1, hcj0⟩ := HC.out j j1
            simp only [Option.some.injEq, Addr.mk.injEq, and_true] at he1
            subst he1
            have hjy := HE.out j j1 j2
            have hnx := Can.mem_take_next kk (Lab.bs x) j j2
            rw [hjy] at hnx
            obtain ⟨y, hy⟩ : ∃ y, ks[j] = y := ⟨_, rfl⟩
            rw [hy] at hcj0 hnx
            have cj := cell_later hbx hcj0 (Nat.le_refl _)
            have ck := HCK.out _ hbx
            obtain ⟨fr, hfr⟩ : ∃ fr, decide (Lab.bs x ∉ kk.take j) = fr := ⟨_, rfl⟩
            obtain ⟨pp, hpp⟩ : ∃ pp, (y.toList == x.toList) = pp := ⟨_, rfl⟩
            have hpq : decide (Lab.bs y = Lab.bs x) = pp := by
              rw [← hpp, ByteArray.toList_eq, ByteArray.toList_eq]
              rw [Bool.eq_iff_iff]; simp [Lab.bs]
            have hpn : (y.toList != x.toList) = !pp := by rw [← hpp]; rfl
            rw [hfr, hpq] at hnx
            rw [hfr]
            have n1 : (0 : Int) ≤ (j : Int) := by omega
            have n2 : (j : Int) < (m : Int) := by omega
            have n3 : (0 : Int) ≤ (k : Int) := by omega
            have n4 : (k : Int) < (m : Int) := by omega
            have HNX := Lib.hid hnx
            clear hcj0 hjy hy hfr hnx hpq j1 j2
            cases fr <;> cases pp
            all_goals
              go_wp2_with fail
              go_quiet (fail)
              go_wp2_with fail
              go_roundw
              case rel => exact ⟨j + 1, by omega, by go_num, by rw [HNX.out]; rfl, by first | exact ⟨_, rfl⟩ | exact ⟨_, (World.drewN_drewN _ _ _).symm⟩ | exact ⟨_, World.drewN_drewN _ _ _⟩⟩
              case measure => simp [intOf]; omega
          · have hjk : j = k := by omega
            subst hjk
            have ho2 : OwnInts w1.heap.size u6 (l0.map (fun i => ((i : Nat) : Int))) (wr.drewN q) := hown
            have hbx2 : Below w1.heap.size w1 (wr.drewN q) := below_drewN hbx _
            obtain ⟨W2, hW2⟩ : ∃ W2, wr.drewN q = W2 := ⟨_, rfl⟩
            rw [hW2] at ho2 hbx2 ⊢
            have hs2 := hbx2.size
            clear hW2
            by_cases hin : Lab.bs x ∈ kk.take j
            · have hX2 : Hid (Can.firsts kk (j + 1) = l0) := by
                show _ = _
                rw [HX.out, if_pos hin, List.append_nil]
              have hf : decide (Lab.bs x ∉ kk.take j) = false := by simpa using hin
              rw [hf]
              clear hin hf
              go_wp2_with fail
              go_roundw
              case rel => exact ⟨j + 1, by omega, by go_num, by rw [hX2.out]; exact ho2, hbx2⟩
              case measure => simp [intOf]; omega
            · have hX2 : Hid (Can.firsts kk (j + 1) = l0 ++ [j]) := by
                show _ = _
                rw [HX.out, if_neg hin]
              have hf : decide (Lab.bs x ∉ kk.take j) = true := by simpa using hin
              rw [hf]
              clear hin hf
              have ho3 := World.ownsRow.alloc ho2 (.cells #[.int .i64 (j : Int)] 3)
              have hlm : (l0.map (fun i => ((i : Nat) : Int))).length = l0.length := by rw [List.length_map]
              go_wp2_with (at_builtin; refine wpList_append_own _ rfl _ _ 49 rfl w1.heap.size 3 i0 _ 1 8 Tryz.underlying49 HI.out hz0 hz1 hz2 rfl (by decide) _ (l0.map (fun i => ((i : Nat) : Int))).length _ rfl ho3 ⟨W2.heap.size, 0, none⟩ 1 1 [.int .i64 (j : Int)] rfl rfl ?n1 ?n2 ?n3 ?n4 ?n5 ?_)
              case n1 =>
                intro j u hj
                match j, hj with
                | 0, hj => simp at hj; subst hj; rw [addr0]; simp
              case n2 => intro u hu; simp at hu; subst hu; rfl
              case n3 => unfold maxLen; omega
              case n4 => omega
              case n5 => simp; omega
              intro v' w5 hown5 hg5 _
              have hbx5 : Below w1.heap.size w1 w5 := (hbx2.alloc hs2 _).grown hg5 (by simp; omega) (fun j hj => (World.ownsRow.lt ho2 j hj).1)
              go_wp2_with fail
              go_roundw
              case rel =>
                refine ⟨j + 1, by omega, by go_num, ?_, hbx5⟩
                rw [hX2.out]
                show World.ownsRow _ _ _ _ _ ((l0 ++ [j]).map (fun i => ((i : Nat) : Int))).length (((l0 ++ [j]).map (fun i => ((i : Nat) : Int))).map (Value.int .i64))
                simpa using hown5
              case measure => simp [intOf]; omega
      · obtain rfl : k = m := by omega
        go_wp2_with fail
        go_ret2
        exact ⟨⟨_, rfl, row_lift hown hb1.size⟩, hb1.trans (hbx.mono hb1.size)⟩
  · obtain rfl : ks = [] := hkl.resolve_left h0
    subst hkk hm
    have q1 : (er != 0) = true := by simpa using h0
    clear hv hkl
    go_wp2_with fail
    go_ret2
    exact ⟨⟨_, rfl, World.ownsRow_nil _ _ _ _⟩, hb1⟩

/-- 'append(v, t)' of a target written out, whose labels need not be the call's own -/
theorem wpList_pushR {ops : Array Oper} {rest : List Oper} {o : Oper} {a : Act} {Q : Exit → Act → World → Prop} (T : TypeId) (hT : Tryz.prog.underlying T = some (.slice 37)) (hgd : o.guard = none) (s x : Operand)
    (ho : o.op = .call { callee := .builtin .append, args := #[s, x], argTypes := #[T, T] })
    (B : Nat) (v : Value) (l : List Can.T) (wr : World) (hs : a.eval s = v) (hown : RowTs B v l wr) (y : Can.T) (C : Array Value) (c : Nat) (hC : C = #[.string y.job, .slice y.p y.n y.c])
    (G : Nat) (hx : a.eval x = .slice (some ⟨G, 0, none⟩) 1 c) (hG : G = wr.heap.size) (hlen : l.length + 1 ≤ 1000000000) (hB : B ≤ wr.heap.size)
    (h : ∀ v' w', RowTs B v' (l ++ [y]) w' → (wr.alloc (.cells C 37)).grownBy w' v.ownBlock → wpList Tryz.prog ops Q rest (a.put o.dst v') w') :
    wpList Tryz.prog ops Q (o :: rest) a (wr.alloc (.cells C 37)) := by
  obtain ⟨i0, hi, hz0, hz1, hz2⟩ := infoTgt2
  subst hC
  subst hG
  refine wpList_append_own _ hgd s x T ho B 37 i0 _ 2 40 hT hi hz0 hz1 hz2 rfl (by decide) v l.length (Can.tcells l) hs (World.ownsRow.alloc hown _) ⟨wr.heap.size, 0, none⟩ 1 c (Can.tcells [y]) hx rfl ?_ (Can.tcells_one _) ?_ ?_ ?_ ?_
  · intro j u hj
    have e : (wr.alloc (.cells #[.string y.job, .slice y.p y.n y.c] 37)).cell? ((⟨wr.heap.size, 0, none⟩ : Addr).add j) = (#[.string y.job, .slice y.p y.n y.c] : Array Value)[j]? := by
      rw [addr0]; simp
    rw [e]; simpa [Can.tcells] using hj
  · unfold maxLen; omega
  · omega
  · simp; omega
  · intro v' w' h1 h2 _
    refine h v' w' ?_ h2
    unfold RowTs
    rw [Can.tcells_append, List.length_append]
    exact h1
def Can.strL : Value → List UInt8
  | .string s => Lab.bs s
  | _ => []

set_option maxHeartbeats 6400000 in
set_option maxRecDepth 100000 in
theorem rsort_is (b o c : Nat) (ts : List Can.T) (n : Nat) (w : World) (hb0 : b < w.heap.size) (hn : ts.length = n) (hT : Can.TAt b o ts w) (hF : ∀ t ∈ ts, Can.TFit t) (he : Can.err ts = 0) (hl : n ≤ 1000) :
    Calls Tryz.prog 28 #[.slice (some ⟨b, o, none⟩) n c] w fun e w' => (∃ (v : Value) (r : List Can.T), e = .returned (.tuple #[v, .int .i64 0]) ∧ RowTs w.heap.size v r w' ∧ (∀ t ∈ r, t ∈ ts) ∧ Can.Up (r.map Can.jl) ∧ (∀ x, x ∈ r.map Can.jl ↔ x ∈ ts.map Can.jl)) ∧ Below w.heap.size w w' := by
  have hfk := Can.keys_fine ts hF he
  have HK := Lib.hid (rkeys_is b o c ts (ts.map Can.kb) 0 n w hb0 hn hT hF he hfk.2 hl)
  have HFI := Lib.hid hfk.1
  have HN := Lib.hid hn
  obtain ⟨ks, hks⟩ : ∃ ks, ts.map Can.kb = ks := ⟨_, rfl⟩
  have hkl : ks.length = n := by rw [← hks, List.length_map, hn]
  have HKE : Hid (∀ i (h1 : i < ts.length) (h2 : i < ks.length), ks[i] = Can.kb ts[i]) := fun i h1 h2 => by simp [← hks]
  have HSZ : Hid (∀ x ∈ ks, x.size ≤ 1000000) := fun x hx => by
    rw [← hks, List.mem_map] at hx
    obtain ⟨t, ht, rfl⟩ := hx
    exact Can.kb_size t (hfk.1 t ht)
  rw [hks] at HK
  obtain ⟨kk, hkk⟩ : ∃ kk, ks.map Lab.bs = kk := ⟨_, rfl⟩
  have HD : Hid (∀ i (h1 : i < ks.length), kk.getD i [] = Lab.bs ks[i]) := fun i h1 => by
    rw [← hkk]
    simp [List.getD, List.getElem?_map, List.getElem?_eq_getElem h1]
  clear hF he hfk hks hn hkk
  go_enter Tryz.func28, Tryz.ntmps28
  go_wp2_with (go_at_call 64; refine HK.out.mono ?_)
  first | rintro e w1 v rfl hv hb1 | rintro e w1 ⟨⟨v, rfl, hv⟩, hb1⟩
  obtain ⟨pv, cv, rfl, hcell⟩ := hv.form
  have HC := Lib.hid hcell
  have HT1 := Lib.hid (hT.belowT hb1 (Nat.le_refl _))
  have hb01 : b < w1.heap.size := Nat.lt_of_lt_of_le hb0 hb1.size
  rw [hkl]
  have HL := Lib.hid hkl
  clear hcell hv hT HK hkl
  go_wp2_with fail
  go_loopw [6, 7] (fun u l wr => ∃ (r : List Can.T) (last : ByteArray), l = .string last ∧ RowTs w1.heap.size u r wr ∧ Hid (Can.Got ts r (Lab.bs last)) ∧ r.length + Can.left ts (Lab.bs last) ≤ n ∧ last.size ≤ 1000000 ∧ Below w1.heap.size w1 wr) (fun _ l _ => Can.left ts (Can.strL l))
  case atStart => exact ⟨[], _, rfl, World.ownsRow_nil _ _ _ _, Can.got_nil ts, by have := Can.left_le ts (Lab.bs ⟨#[]⟩); have := HN.out; simp only [List.length_nil]; omega, by decide, Below.refl _ _⟩
  case round =>
    obtain ⟨r, last, rfl, hown, HG, hcount, hlast, hb⟩ := hrel
    have hsz := hb.size
    obtain ⟨WI, hWI⟩ : ∃ W, W = wr := ⟨_, rfl⟩
    subst hWI
    have hgen : ∀ (W2 : World), Below WI.heap.size WI W2 → RowTs w1.heap.size u6 r W2 ∧ Below w1.heap.size w1 W2 := fun W2 h => ⟨row_below hown h (Nat.le_refl _), hb.trans (h.mono hsz)⟩
    have HGEN := Lib.hid hgen
    clear hgen
    go_wp2_with fail
    go_loopw [8, 9] (fun bst i wq => ∃ (j : Nat) (z : Int), j ≤ n ∧ i = .int .i64 j ∧ bst = .int .i64 z ∧ Hid (Can.Best kk (Lab.bs last) j z) ∧ Below WI.heap.size WI wq) (fun _ i _ => n - (intOf i).toNat)
    case atStart => exact ⟨0, -1, Nat.zero_le _, rfl, rfl, Can.best_zero _ _, Below.refl _ _⟩
    case round =>
      obtain ⟨j, z, hj, rfl, rfl, HB, hq⟩ := hrel
      have hbw := (HGEN.out _ hq).2
      by_cases hjn : j < n
      · have j1 : j < ks.length := by rw [HL.out]; exact hjn
        obtain ⟨gk, rfl, hcj0⟩ := HC.out j j1
        have cj := cell_later hbw hcj0 (Nat.le_refl _)
        have hdj := HD.out j j1
        have hsy := HSZ.out ks[j] (List.getElem_mem _)
        obtain ⟨y, hy⟩ : ∃ y, ks[j] = y := ⟨_, rfl⟩
        rw [hy] at hcj0 cj hdj hsy
        have HDJ := Lib.hid hdj
        obtain ⟨p1, hp1⟩ : ∃ p1, decide (Lab.bs last < Lab.bs y) = p1 := ⟨_, rfl⟩
        have H1 := Lib.hid (fun w => less_is last y p1 hp1 w (by unfold maxLen; omega))
        have HP1 := Lib.hid hp1
        have n1 : (0 : Int) ≤ (j : Int) := by omega
        have n2 : (j : Int) < (n : Int) := by omega
        clear hcj0 hdj hy hp1 j1
        cases p1
        · have HB2 : Hid (Can.Best kk (Lab.bs last) (j + 1) z) := Can.best_pass HB.out (by rw [HDJ.out]; exact of_decide_eq_false HP1.out)
          go_wp2_with fail
          go_quiet ((go_at_call 65; exact Calls.quiet_of (H1.out _)))
          go_wp2_with fail
          go_roundw
          case rel => exact ⟨j + 1, z, by omega, by go_num, rfl, HB2, below_drewN hq _⟩
          case measure => simp [intOf]; omega
        · rcases Can.best_or HB.out with rfl | ⟨m, hm, rfl⟩
          · have HB2 : Hid (Can.Best kk (Lab.bs last) (j + 1) j) := Can.best_first HB.out (by rw [HDJ.out]; exact of_decide_eq_true HP1.out)
            have d1 : decide ((-1 : Int) < 0) = true := rfl
            go_wp2_with fail
            go_quiet ((go_at_call 65; exact Calls.quiet_of (H1.out _)))
            go_wp2_with fail
            go_roundw
            case rel => exact ⟨j + 1, j, by omega, by go_num, rfl, HB2, below_drewN hq _⟩
            case measure => simp [intOf]; omega
          · have m1 : m < ks.length := by rw [HL.out]; omega
            obtain ⟨gk', he1, hcm0⟩ := HC.out m m1
            simp only [Option.some.injEq, Addr.mk.injEq, and_true] at he1
            subst he1
            have cm := cell_later hbw hcm0 (Nat.le_refl _)
            have hdm := HD.out m m1
            obtain ⟨ym, hym⟩ : ∃ y, ks[m] = y := ⟨_, rfl⟩
            rw [hym] at hcm0 cm hdm
            have HDM := Lib.hid hdm
            obtain ⟨p2, hp2⟩ : ∃ p2, decide (Lab.bs y < Lab.bs ym) = p2 := ⟨_, rfl⟩
            have H2 := Lib.hid (fun w => less_is y ym p2 hp2 w (by unfold maxLen; omega))
            have HP2 := Lib.hid hp2
            have d1 : decide ((m : Int) < 0) = false := decide_eq_false (by omega)
            have n3 : (0 : Int) ≤ (m : Int) := by omega
            have n4 : (m : Int) < (n : Int) := by omega
            clear hcm0 hdm hym hp2 m1
            cases p2
            · have HB2 : Hid (Can.Best kk (Lab.bs last) (j + 1) m) := Can.best_more HB.out (by rw [HDJ.out, HDM.out]; exact of_decide_eq_false HP2.out)
              go_wp2_with fail
              go_quiet ((first | (go_at_call_of 65 (Value.string last); exact Calls.quiet_of (H1.out _)) | (go_at_call_of 65 (Value.string y); exact Calls.quiet_of (H2.out _))))
              go_wp2_with fail
              go_roundw
              case rel => exact ⟨j + 1, m, by omega, by go_num, rfl, HB2, below_drewN hq _⟩
              case measure => simp [intOf]; omega
            · have HB2 : Hid (Can.Best kk (Lab.bs last) (j + 1) j) := Can.best_less HB.out (by rw [HDJ.out]; exact of_decide_eq_true HP1.out) (by rw [HDJ.out, HDM.out]; exact of_decide_eq_true HP2.out)
              go_wp2_with fail
              go_quiet ((first | (go_at_call_of 65 (Value.string last); exact Calls.quiet_of (H1.out _)) | (go_at_call_of 65 (Value.string y); exact Calls.quiet_of (H2.out _))))
              go_wp2_with fail
              go_roundw
              case rel => exact ⟨j + 1, j, by omega, by go_num, rfl, HB2, below_drewN hq _⟩
              case measure => simp [intOf]; omega
      · have hjk : j = n := by omega
        subst hjk
        obtain ⟨hown2, hb2⟩ := HGEN.out _ hq
        have hs2 := hb2.size
        have HKD : Hid (∀ i (h1 : i < ts.length), kk.getD i [] = Can.kd (Can.jl ts[i])) := by
          show ∀ i, _
          intro i h1
          have h2 : i < ks.length := by rw [HL.out, ← HN.out]; exact h1
          rw [HD.out i h2, HKE.out i h1 h2]
          rfl
        clear hown hb hsz hbw HGEN hq
        have hbest := HB.out
        rcases hbest with ⟨rfl, hno⟩ | ⟨m, hm, rfl, hlt, hmin⟩
        · have HA := Lib.hid (Can.got_all ts r _ HG.out (fun t ht => by
            obtain ⟨i, hi, rfl⟩ := List.getElem_of_mem ht
            rw [← HKD.out i hi]
            exact hno i (by rw [← HN.out]; exact hi)))
          have d1 : decide ((-1 : Int) < 0) = true := rfl
          clear hno
          go_wp2_with fail
          go_ret2
          exact ⟨⟨_, r, rfl, row_lift hown2 hb1.size, fun t ht => (HG.out.2.1 t ht).1, HA.out.1, HA.out.2⟩, hb1.trans (hb2.mono hb1.size)⟩
        · have m0 : m < ts.length := by rw [HN.out]; exact hm
          have m1 : m < ks.length := by rw [HL.out]; exact hm
          obtain ⟨gk, rfl, hcm0⟩ := HC.out m m1
          have hkb := HKE.out m m0 m1
          have hsm := HSZ.out ks[m] (List.getElem_mem _)
          obtain ⟨x0, x1, _⟩ := (HT1.out.belowT hb2 (Nat.le_refl _)) m m0
          have hlt2 : Lab.bs last < Can.kd (Can.jl ts[m]) := by rw [← HKD.out m m0]; exact hlt
          have HGN := Lib.hid (Can.got_next ts r _ ts[m] HFI.out HG.out (List.getElem_mem _) hlt2 (fun u hu hlu => by
            obtain ⟨i, hi, rfl⟩ := List.getElem_of_mem hu
            rw [← HKD.out i hi, ← HKD.out m m0]
            exact hmin i (by rw [← HN.out]; exact hi) (by rw [HKD.out i hi]; exact hlu)))
          have hln := Can.left_next ts _ ts[m] (List.getElem_mem _) hlt2
          have hkdk : Can.kd (Can.jl ts[m]) = Lab.bs (Can.kb ts[m]) := rfl
          rw [hkb] at hcm0 hsm
          rw [hkdk] at HGN hln
          obtain ⟨kt, hkt⟩ : ∃ kt, Can.kb ts[m] = kt := ⟨_, rfl⟩
          rw [hkt] at hcm0 hsm HGN hln
          obtain ⟨t, ht⟩ : ∃ t, ts[m] = t := ⟨_, rfl⟩
          rw [ht] at x0 x1 HGN
          have HKS : Hid (∀ w', Below w1.heap.size w1 w' → w'.cell? ⟨gk, m, none⟩ = some (.string kt)) := fun w' hw => cell_later hw hcm0 (Nat.le_refl _)
          obtain ⟨tj, tp, tn, tc, tl⟩ := t
          dsimp only at x0 x1
          have d1 : decide ((m : Int) < 0) = false := decide_eq_false (by omega)
          have n3 : (0 : Int) ≤ (m : Int) := by omega
          have n4 : (m : Int) < (j : Int) := by omega
          have hrl : r.length + 1 ≤ 1000 := by omega
          have hbr : b < wr.heap.size := by omega
          have HM := Lib.hid hln
          clear hcm0 hkb hlt hmin hlt2 hkdk hkt ht hln
          go_wp2_with (at_builtin; refine wpList_pushR 22 Tryz.underlying22 rfl _ _ rfl _ _ _ _ rfl hown2 ⟨tj, tp, tn, tc, tl⟩ _ _ rfl _ rfl (by simp) ?c1 ?c2 ?_)
          case c1 => omega
          case c2 => exact hs2
          intro v' w5 hown5 hg5
          have hb5 : Below w1.heap.size w1 w5 := (hb2.alloc hs2 _).grown hg5 (by simp; omega) (fun j hj => (World.ownsRow.lt hown2 j hj).1)
          have cm := HKS.out _ hb5
          go_wp2_with fail
          go_roundw
          case rel => exact ⟨_, kt, rfl, hown5, HGN, by have := HM.out; rw [List.length_append]; simp only [List.length_cons, List.length_nil]; omega, hsm, hb5⟩
          case measure => exact HM.out
theorem rsort_err (b o c : Nat) (ts : List Can.T) (er : Int) (n : Nat) (w : World) (hb0 : b < w.heap.size) (hn : ts.length = n) (hT : Can.TAt b o ts w) (hF : ∀ t ∈ ts, Can.TFit t) (he : Can.err ts = er) (h0 : er ≠ 0) (hl : n ≤ 1000) :
    Calls Tryz.prog 28 #[.slice (some ⟨b, o, none⟩) n c] w fun e w' => e = .returned (.tuple #[.slice none 0 0, .int .i64 er]) ∧ Below w.heap.size w w' := by
  have HK := Lib.hid (rkeys_is b o c ts _ er n w hb0 hn hT hF he rfl hl)
  have q1 : (er != 0) = true := by simpa using h0
  clear hn hT hF he hl
  go_enter Tryz.func28, Tryz.ntmps28
  go_wp2_with (go_at_call 64; refine HK.out.mono ?_)
  first | rintro e w1 v rfl hv hb1 | rintro e w1 ⟨⟨v, rfl, hv⟩, hb1⟩
  clear hv HK
  go_wp2_with fail
  go_ret2
  exact ⟨rfl, hb1⟩
end Go.Proofs.YthnaninhbofeoaaGreatDoor
