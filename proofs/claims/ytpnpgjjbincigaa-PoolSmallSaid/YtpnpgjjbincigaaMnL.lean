/- What a sync of many targets answers: plain law. -/
import Derived.Test.YtpnpgjjbincigaaMnK
namespace Go.Proofs.Ytpnpgjjbincigaa
open Go.RowKit
set_option linter.unusedVariables false

def Mny.U (n : Nat) : List Po.U := (List.range n).map Mny.u
def Mny.K (n : Nat) : List (List UInt8) := (List.range n).map fun i => Po.ky (Mny.u i)
def Mny.s (i : Nat) : Po.V := ((Mny.u i).1, (Mny.u i).2, 9, 9, false)
def Mny.S (n : Nat) : List Po.V := (List.range n).map Mny.s
theorem Mny.asc (n : Nat) (hn : n ≤ 3001) : Po.Asc (Mny.K n) := by
  unfold Po.Asc Mny.K
  rw [List.pairwise_map]
  refine List.Pairwise.imp_of_mem (fun {a b} ha hb h => ?_) (List.pairwise_lt_range (n := n))
  rw [List.mem_range] at ha hb
  exact Mny.lt a b h (by omega)
theorem Mny.inj {i j : Nat} (hi : i < 3001) (hj : j < 3001) (h : Po.ky (Mny.u i) = Po.ky (Mny.u j)) : i = j := by
  rcases Nat.lt_trichotomy i j with h1 | h1 | h1
  · have := Mny.lt i j h1 hj
    rw [h] at this
    exact absurd this (List.lt_irrefl _)
  · exact h1
  · have := Mny.lt j i h1 hi
    rw [h] at this
    exact absurd this (List.lt_irrefl _)
theorem Mny.vk (n : Nat) : (Mny.S n).map Po.vk = Mny.K n := by
  unfold Mny.S Mny.K
  rw [List.map_map]
  rfl
theorem Mny.ky (n : Nat) : (Mny.U n).map Po.ky = Mny.K n := by
  unfold Mny.U Mny.K
  rw [List.map_map]
  rfl
theorem Mny.find {α : Type} (f : Nat → α) (g : α → List UInt8) (hg : ∀ i, g (f i) = Po.ky (Mny.u i)) (n : Nat) (hn : n ≤ 3001) (i : Nat) (hi : i < 3001) : ((List.range n).map f).find? (fun s => decide (g s = Po.ky (Mny.u i))) = if i < n then some (f i) else none := by
  induction n with
  | zero => rfl
  | succ n ih =>
    rw [List.range_succ, List.map_append, List.find?_append, ih (by omega), List.map_cons, List.map_nil, List.find?_cons, List.find?_nil]
    by_cases h : i < n
    · rw [if_pos h, if_pos (by omega)]; rfl
    · rw [if_neg h]
      by_cases h2 : i = n
      · subst h2
        rw [if_pos (by omega), decide_eq_true (hg i)]; rfl
      · rw [if_neg (by omega), decide_eq_false (fun e => by
          rw [hg] at e
          exact h2 (Mny.inj (by omega) hi e).symm)]; rfl
theorem Mny.sl (n : Nat) (hn : n ≤ 3001) (i : Nat) (hi : i < 3001) : Po.sl (Mny.S n) (Po.ky (Mny.u i)) = if i < n then some (Mny.s i) else none := Mny.find Mny.s Po.vk (fun _ => rfl) n hn i hi
theorem Mny.tg (n : Nat) (hn : n ≤ 3001) (i : Nat) (hi : i < 3001) : Po.tg (Mny.U n) (Po.ky (Mny.u i)) = if i < n then some (Mny.u i) else none := Mny.find Mny.u Po.ky (fun _ => rfl) n hn i hi
theorem Mny.ks {S : List Po.V} {T : List Po.U} {n : Nat} (hn : n ≤ 3001) (h : ∀ x, x ∈ Mny.K n ↔ x ∈ S.map Po.vk ++ T.map Po.ky) : Po.ks S T = Mny.K n :=
  Po.asc_eq _ _ (Po.srt_asc _) (Mny.asc n hn) (fun x => by unfold Po.ks; rw [Po.srt_mem, h])
theorem Mny.okT (n : Nat) (hn : n ≤ 3001) : Po.okT (Mny.U n) = true := by
  unfold Po.okT Mny.U
  rw [List.all_map, List.all_eq_true]
  intro i hi
  rw [List.mem_range] at hi
  exact decide_eq_true (Mny.ke i (by omega))
theorem Mny.okS (n : Nat) (hn : n ≤ 3001) : Po.okVs (Mny.S n) = true := by
  refine Po.okVs_of _ (fun s hs => ?_) ?_
  · unfold Mny.S at hs
    obtain ⟨i, hi, rfl⟩ := List.mem_map.1 hs
    rw [List.mem_range] at hi
    exact ⟨Mny.ke i (by omega), (by show Po.num 9 9 = true; decide)⟩
  · rw [Mny.vk]
    exact Mny.asc n hn
theorem Mny.len {α β : Type} (l : List α) (f : α → List β) (h : ∀ x ∈ l, (f x).length = 1) : (l.flatMap f).length = l.length := by
  induction l with
  | nil => rfl
  | cons a r ih =>
    rw [List.flatMap_cons, List.length_append, h a (List.mem_cons_self ..), ih (fun x hx => h x (List.mem_cons_of_mem _ hx)), List.length_cons]
    omega
theorem Mny.flat {β : Type} (n : Nat) (f : List UInt8 → List β) : (Mny.K n).flatMap f = (List.range n).flatMap fun i => f (Po.ky (Mny.u i)) := by
  unfold Mny.K
  rw [List.flatMap_map]
theorem Mny.klen (n : Nat) : (Mny.K n).length = n := by unfold Mny.K; rw [List.length_map, List.length_range]
/-- all of them are new -/
theorem Mny.sS1 (n : Nat) (hn : n ≤ 3001) : Po.sS [] (Mny.U n) 9 9 = Mny.S n ∧ (Po.sM [] (Mny.U n) 9 9).length = n := by
  have hk : Po.ks [] (Mny.U n) = Mny.K n := Mny.ks hn (fun x => by rw [List.map_nil, List.nil_append, Mny.ky])
  unfold Po.sS Po.sM
  rw [hk]
  constructor
  · rw [Mny.flat]
    unfold Mny.S
    have : ∀ m, m ≤ n → ((List.range m).flatMap fun i => Po.oS 9 9 (Po.sl [] (Po.ky (Mny.u i))) (Po.tg (Mny.U n) (Po.ky (Mny.u i)))) = (List.range m).map Mny.s := by
      intro m hm
      induction m with
      | zero => rfl
      | succ m ih =>
        rw [List.range_succ, List.flatMap_append, ih (by omega), List.map_append, List.flatMap_cons, List.flatMap_nil, Mny.tg n hn m (by omega), if_pos (by omega)]
        rfl
    exact this n (Nat.le_refl _)
  · rw [Mny.flat, Mny.len _ _ (fun i hi => ?_), List.length_range]
    rw [List.mem_range] at hi
    rw [Mny.tg n hn i (by omega), if_pos hi]
    rfl
theorem Mny.sync1 : ∃ M, Po.sync [] (Mny.U 3000) 9 9 = (0, Mny.S 3000, M) ∧ M.length = 3000 := by
  obtain ⟨h1, h2⟩ := Mny.sS1 3000 (by omega)
  refine ⟨_, ?_, h2⟩
  unfold Po.sync
  rw [if_pos (by rfl), if_pos (by decide), if_pos (Mny.okT 3000 (by omega)), h1, if_pos (by unfold Mny.S; rw [List.length_map, List.length_range]; exact Nat.le_refl _)]
theorem Mny.sync2 : Po.sync [] (Mny.U 3001) 9 9 = (5, [], []) := by
  obtain ⟨h1, h2⟩ := Mny.sS1 3001 (by omega)
  unfold Po.sync
  rw [if_pos (by rfl), if_pos (by decide), if_pos (Mny.okT 3001 (by omega)), h1, if_neg (by unfold Mny.S; rw [List.length_map, List.length_range]; omega)]
theorem Mny.oS1 (ev ti : Int) (s : Po.V) (t : Option Po.U) : (Po.oS ev ti (some s) t).length = 1 := rfl
/-- one more is too many -/
theorem Mny.sync3 : Po.sync (Mny.S 3000) [Mny.u 3000] 9 9 = (5, [], []) := by
  have hk : Po.ks (Mny.S 3000) [Mny.u 3000] = Mny.K 3001 := Mny.ks (by omega) (fun x => by
    rw [Mny.vk]
    unfold Mny.K
    rw [List.range_succ, List.map_append]
    rfl)
  have h1 : (Po.sS (Mny.S 3000) [Mny.u 3000] 9 9).length = 3001 := by
    unfold Po.sS
    rw [hk, Mny.flat, Mny.len _ _ (fun i hi => ?_), List.length_range]
    rw [List.mem_range] at hi
    rw [Mny.sl 3000 (by omega) i hi]
    by_cases h : i < 3000
    · rw [if_pos h]; rfl
    · obtain rfl : i = 3000 := by omega
      rw [if_neg h]
      unfold Po.tg
      rw [List.find?_cons, decide_eq_true rfl]
      rfl
  unfold Po.sync
  rw [if_pos (Mny.okS 3000 (by omega)), if_pos (by decide), if_pos, if_neg (by rw [h1]; omega)]
  unfold Po.okT
  rw [List.all_cons, decide_eq_true (Mny.ke 3000 (by omega))]
  rfl
/-- all but ten are stopped -/
theorem Mny.sync4 : ∃ S M, Po.sync (Mny.S 3000) (Mny.U 10) 9 9 = (0, S, M) ∧ S.length = 3000 ∧ M.length = 2990 := by
  have hk : Po.ks (Mny.S 3000) (Mny.U 10) = Mny.K 3000 := Mny.ks (by omega) (fun x => by
    rw [Mny.vk, Mny.ky, List.mem_append]
    refine ⟨.inl, fun h => h.elim id fun h => ?_⟩
    unfold Mny.K at h ⊢
    obtain ⟨i, hi, rfl⟩ := List.mem_map.1 h
    rw [List.mem_range] at hi
    exact List.mem_map.2 ⟨i, List.mem_range.2 (by omega), rfl⟩)
  have h1 : (Po.sS (Mny.S 3000) (Mny.U 10) 9 9).length = 3000 := by
    unfold Po.sS
    rw [hk, Mny.flat, Mny.len _ _ (fun i hi => ?_), List.length_range]
    rw [List.mem_range] at hi
    rw [Mny.sl 3000 (by omega) i (by omega), if_pos hi]
    rfl
  have h2 : ∀ n, n ≤ 3000 → ((List.range n).flatMap fun i => Po.oM 9 9 (Po.sl (Mny.S 3000) (Po.ky (Mny.u i))) (Po.tg (Mny.U 10) (Po.ky (Mny.u i)))).length = n - 10 := by
    intro n hn
    induction n with
    | zero => rfl
    | succ n ih =>
      rw [List.range_succ, List.flatMap_append, List.length_append, ih (by omega), List.flatMap_cons, List.flatMap_nil, List.append_nil, Mny.sl 3000 (by omega) n (by omega), if_pos (by omega), Mny.tg 10 (by omega) n (by omega)]
      by_cases h : n < 10
      · rw [if_pos h]
        show n - 10 + 0 = _
        omega
      · rw [if_neg h]
        show n - 10 + 1 = _
        omega
  refine ⟨_, Po.sM (Mny.S 3000) (Mny.U 10) 9 9, ?_, h1, ?_⟩
  · unfold Po.sync
    rw [if_pos (Mny.okS 3000 (by omega)), if_pos (by decide), if_pos (Mny.okT 10 (by omega)), if_pos (by rw [h1]; exact Nat.le_refl _)]
  · unfold Po.sM
    rw [hk, Mny.flat]
    exact h2 3000 (Nat.le_refl _)
end Go.Proofs.Ytpnpgjjbincigaa
