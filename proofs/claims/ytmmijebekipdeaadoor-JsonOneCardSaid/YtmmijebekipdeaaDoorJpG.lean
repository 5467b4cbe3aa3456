/- Plain laws of chapter 14, seven: where a text is wrong. -/
import Derived.Test.YtmmijebekipdeaaDoorJpF
namespace Go.Proofs.YtmmijebekipdeaaDoor
set_option linter.unusedVariables false
set_option linter.unusedSimpArgs false

/-- a place in the text, and a number -/
def Js.Er (s : ByteArray) (p : Nat × Nat) : Prop := p.1 ≤ s.size ∧ p.2 ≠ 0
theorem Js.Er.wrong {s : ByteArray} {k : Nat} (h : k ≤ s.size) : Js.Er s (Js.wrong s k) := ⟨by rw [(Js.wrong_ne s k).2]; exact h, (Js.wrong_ne s k).1⟩
theorem Js.hx_er (s : ByteArray) : ∀ n k x p, k ≤ s.size → Js.hx s n k x = .error p → p ≤ s.size
  | 0, k, x, p, hk, h => by rw [Js.hx] at h; cases h
  | n + 1, k, x, p, hk, h => by
    rw [Js.hx] at h
    cases hd : Js.hexd (Js.nx s k) with
    | none => rw [hd] at h; cases h; exact hk
    | some d =>
      rw [hd] at h
      have := Js.hexd_cases _ _ hd
      exact Js.hx_er s n (k + 1) _ p (Js.lt_of_nx (c := Js.nx s k) rfl (by omega)) h
theorem Js.esc_er (s : ByteArray) (k : Nat) (p : Nat × Nat) (hk : k < s.size) (h : Js.esc s k = .error p) : Js.Er s p := by
  unfold Js.esc at h
  cases hs : Js.short (Js.nx s (k + 1)) with
  | some x => rw [hs] at h; cases h
  | none =>
    rw [hs] at h
    dsimp only at h
    by_cases h117 : Js.nx s (k + 1) = 117
    · have hlt := Js.lt_of_nx h117 (by decide)
      rw [if_pos h117] at h
      cases hx : Js.hx s 4 (k + 2) 0 with
      | error q =>
        rw [hx] at h
        cases h
        exact .wrong (Js.hx_er s 4 (k + 2) 0 q hlt hx)
      | ok x =>
        rw [hx] at h
        dsimp only at h
        split at h
        · cases h
        · split at h
          · split at h
            · cases h
            · cases h; exact ⟨Nat.le_of_lt hk, show 145 ≠ 0 by decide⟩
          · cases h; exact ⟨Nat.le_of_lt hk, show 145 ≠ 0 by decide⟩
    · rw [if_neg h117] at h
      cases h
      exact .wrong hk
theorem Js.txF_er (s : ByteArray) : ∀ n k out p, k ≤ s.size → Js.txF s n k out = .error p → Js.Er s p
  | 0, k, out, p, hk, h => by rw [Js.txF] at h; cases h; exact .wrong hk
  | n + 1, k, out, p, hk, h => by
    rw [Js.txF] at h
    by_cases h0 : Js.nx s k < 32
    · rw [if_pos h0] at h; cases h; exact .wrong hk
    · rw [if_neg h0] at h
      have hlt : k < s.size := Js.lt_of_nx (c := Js.nx s k) rfl (by omega)
      by_cases h1 : Js.nx s k = 34
      · rw [if_pos h1] at h; cases h
      · rw [if_neg h1] at h
        by_cases h2 : Js.nx s k = 92
        · rw [if_pos h2] at h
          cases he : Js.esc s k with
          | error e => rw [he] at h; cases h; exact Js.esc_er s k _ hlt he
          | ok y =>
            obtain ⟨x, j⟩ := y
            rw [he] at h
            obtain ⟨_, _, hj⟩ := Js.esc_ok s k x j he
            exact Js.txF_er s n j _ p hj h
        · rw [if_neg h2] at h
          exact Js.txF_er s n (k + 1) _ p hlt h
theorem Js.wd_er (s : ByteArray) : ∀ (l : List Nat) k p, (∀ c ∈ l, c ≠ 0) → k ≤ s.size → Js.wd s l k = .error p → Js.Er s p
  | [], k, p, _, hk, h => by rw [Js.wd] at h; cases h
  | c :: l, k, p, hl, hk, h => by
    rw [Js.wd] at h
    by_cases hc : Js.nx s k = c
    · rw [if_pos hc] at h
      exact Js.wd_er s l (k + 1) p (fun x hx => hl x (List.mem_cons_of_mem _ hx)) (Js.lt_of_nx hc (hl c (by simp))) h
    · rw [if_neg hc] at h; cases h; exact .wrong hk
theorem Js.tail_er (s : ByteArray) (obj : Bool) (more : Nat → Nat → List ByteArray → List Js.V → Js.R (Js.V × Nat × Nat)) (ns : List ByteArray) (xs : List Js.V) (q : Js.R (Js.V × Nat × Nat)) (p : Nat × Nat)
    (hq : ∀ e, q = .error e → Js.Er s e) (hk : ∀ x k b, q = .ok (x, k, b) → k ≤ s.size ∧ b ≤ 4096) (hm : ∀ k b ns xs, k ≤ s.size → b ≤ 4096 → more k b ns xs = .error p → Js.Er s p) (h : Js.tail s obj more ns xs q = .error p) : Js.Er s p := by
  cases q with
  | error e => cases h; exact hq _ rfl
  | ok y =>
    obtain ⟨x, k, b⟩ := y
    obtain ⟨h1, h2⟩ := hk x k b rfl
    unfold Js.tail at h
    dsimp only at h
    have hle := Js.sp_le s k h1
    by_cases he : Js.nx s (Js.sp s k) = Js.ends obj
    · rw [if_pos he] at h; cases h
    · rw [if_neg he] at h
      by_cases h44 : Js.nx s (Js.sp s k) = 44
      · rw [if_pos h44] at h
        exact hm _ _ _ _ (Js.lt_of_nx h44 (by decide)) h2 h
      · rw [if_neg h44] at h; cases h; exact .wrong hle
theorem Js.lsF_arrT (s : ByteArray) (val : Nat → Nat → Js.R (Js.V × Nat × Nat)) (f i b : Nat) (ns : List ByteArray) (xs : List Js.V) : Js.lsF s false val (f + 1) i b ns xs = Js.tail s false (Js.lsF s false val f) ns xs (val i b) := by
  rw [Js.lsF]
  rw [if_neg (by decide)]
  dsimp only
  cases val i b with
  | error e => rfl
  | ok y => rfl
theorem Js.list_er (s : ByteArray) (d : Nat) (IH : ∀ k b p, k ≤ s.size → b ≤ 4096 → Js.val s d k b = .error p → Js.Er s p) (obj : Bool) : ∀ n k b ns xs p, k ≤ s.size → b ≤ 4096 → Js.lsF s obj (Js.val s d) n k b ns xs = .error p → Js.Er s p := by
  have hV := Js.val_ok s d
  intro n
  induction n with
  | zero => intro k b ns xs p hk hb h; rw [Js.lsF] at h; cases h; exact .wrong hk
  | succ n ih =>
    intro k b ns xs p hk hb h
    cases obj with
    | false =>
      rw [Js.lsF_arrT] at h
      exact Js.tail_er s _ _ _ _ _ p (fun e he => IH k b e hk hb he) (fun x k' b' he => (hV k b x k' b' hk hb he).2) (fun k b ns xs h1 h2 h3 => ih k b ns xs p h1 h2 h3) h
    | true =>
      rw [Js.lsF_obj] at h
      have hm := Js.sp_le s k hk
      by_cases h34 : Js.nx s (Js.sp s k) = 34
      · rw [if_pos h34] at h
        have hlt := Js.lt_of_nx h34 (by decide)
        cases ht : Js.tx s (Js.sp s k) with
        | error e => rw [ht] at h; cases h; exact Js.txF_er s _ _ _ _ hlt ht
        | ok tc =>
          obtain ⟨t, c⟩ := tc
          rw [ht] at h
          dsimp only at h
          have hc := (Js.txF_ok s _ _ _ _ _ hlt ht).2
          cases hn : ns.contains ⟨t.toArray⟩ with
          | true => rw [hn, if_pos rfl] at h; cases h; exact ⟨hm, show 141 ≠ 0 by decide⟩
          | false =>
            rw [hn, if_neg (by decide)] at h
            by_cases h58 : Js.nx s (Js.sp s c) = 58
            · rw [if_pos h58] at h
              have hlt2 := Js.lt_of_nx h58 (by decide)
              exact Js.tail_er s _ _ _ _ _ p (fun e he => IH _ b e hlt2 hb he) (fun x k' b' he => (hV _ b x k' b' hlt2 hb he).2) (fun k b ns xs h1 h2 h3 => ih k b ns xs p h1 h2 h3) h
            · rw [if_neg h58] at h; cases h; exact .wrong (Js.sp_le s c hc)
      · rw [if_neg h34] at h; cases h; exact .wrong hm
theorem Js.word_er (s : ByteArray) (a b kd : Nat) (l : List Nat) (p : Nat × Nat) (hl : ∀ c ∈ l, c ≠ 0) (ha : a ≤ s.size)
    (h : ((Js.wd s l a).map fun j => (Js.V.mk kd ⟨#[]⟩ [] [], j, b + 1) : Js.R (Js.V × Nat × Nat)) = .error p) : Js.Er s p := by
  cases hx : Js.wd s l a with
  | error e => rw [hx] at h; cases h; exact Js.wd_er s l a _ hl ha hx
  | ok i => rw [hx] at h; cases h
theorem Js.val_er0 (s : ByteArray) (d : Nat) (IH : ∀ d', d = d' + 1 → ∀ k b p, k ≤ s.size → b ≤ 4096 → Js.val s d' k b = .error p → Js.Er s p) : ∀ k b p, k ≤ s.size → b ≤ 4096 → Js.val s d k b = .error p → Js.Er s p := by
  intro k b p hk hb h
  have hal := Js.sp_le s k hk
  cases e : Js.begins (Js.nx s (Js.sp s k)) with
  | false => rw [Js.val.eq_def] at h; dsimp only at h; rw [if_pos e] at h; cases h; exact .wrong hal
  | true =>
    by_cases h4 : b = 4096
    · rw [Js.val.eq_def] at h
      dsimp only at h
      rw [if_neg (by rw [e]; decide), if_pos h4] at h
      cases h
      exact ⟨hal, show 5 ≠ 0 by decide⟩
    rw [Js.val_head s d k b _ rfl e h4] at h
    obtain ⟨a, ha⟩ : ∃ a, Js.sp s k = a := ⟨_, rfl⟩
    rw [ha] at h hal e
    have hlt : a < s.size := Nat.lt_of_not_le fun hh => by rw [Js.nx_end s a hh] at e; cases e
    by_cases hls : Js.nx s a = 91 ∨ Js.nx s a = 123
    · rw [if_pos hls] at h
      cases d with
      | zero => cases h; exact ⟨hal, show 140 ≠ 0 by decide⟩
      | succ d =>
        dsimp only at h
        unfold Js.ls at h
        dsimp only at h
        split at h
        · cases h
        · exact Js.list_er s d (IH d rfl) _ _ _ _ _ _ p (Js.sp_le s (a + 1) hlt) (by omega) h
    rw [if_neg hls] at h
    by_cases h34 : Js.nx s a = 34
    · rw [if_pos h34] at h
      cases ht : Js.tx s a with
      | error e => rw [ht] at h; cases h; exact Js.txF_er s _ _ _ _ hlt ht
      | ok q => obtain ⟨t, c⟩ := q; rw [ht] at h; cases h
    rw [if_neg h34] at h
    by_cases h110 : Js.nx s a = 110
    · rw [if_pos h110] at h; exact Js.word_er s a b 1 _ p (by decide) hal h
    rw [if_neg h110] at h
    by_cases h102 : Js.nx s a = 102
    · rw [if_pos h102] at h; exact Js.word_er s a b 2 _ p (by decide) hal h
    rw [if_neg h102] at h
    by_cases h116 : Js.nx s a = 116
    · rw [if_pos h116] at h; exact Js.word_er s a b 3 _ p (by decide) hal h
    rw [if_neg h116] at h
    by_cases hn : (Js.num s a).2 = true
    · rw [if_pos hn] at h; cases h
    · rw [if_neg hn] at h; cases h; exact .wrong (Js.num_ok s a hal).2
theorem Js.val_er (s : ByteArray) : ∀ d k b p, k ≤ s.size → b ≤ 4096 → Js.val s d k b = .error p → Js.Er s p := by
  intro d
  induction d with
  | zero => exact Js.val_er0 s 0 (fun _ e => by cases e)
  | succ d ih => exact Js.val_er0 s (d + 1) (fun d' e => by cases e; exact ih)
theorem Js.badF_er (s : ByteArray) : ∀ n k j, Js.badF s n k = some j → j ≤ s.size
  | 0, k, j, h => by rw [Js.badF] at h; cases h
  | n + 1, k, j, h => by
    rw [Js.badF] at h
    by_cases hk : s.size ≤ k
    · rw [if_pos hk] at h; cases h
    · rw [if_neg hk] at h
      by_cases hr : Js.rune s k = 0
      · rw [if_pos hr] at h; cases h; omega
      · rw [if_neg hr] at h; exact Js.badF_er s n _ j h
/-- WHERE A TEXT IS WRONG: a place in it, and a number that is not 0 -/
theorem Js.read_er (s : ByteArray) (p : Nat × Nat) (h : Js.read s = .error p) : p.1 ≤ s.size ∧ p.2 ≠ 0 := by
  unfold Js.read at h
  by_cases hs : 65536 < s.size
  · rw [if_pos hs] at h; cases h; exact ⟨Nat.zero_le _, show 3 ≠ 0 by decide⟩
  · rw [if_neg hs] at h
    cases hb : Js.bad8 s with
    | some k => rw [hb] at h; cases h; exact ⟨Js.badF_er s _ _ _ hb, show 142 ≠ 0 by decide⟩
    | none =>
      rw [hb] at h
      dsimp only at h
      cases hv : Js.val s 16 0 0 with
      | error e => rw [hv] at h; cases h; exact Js.val_er s 16 0 0 _ (Nat.zero_le _) (Nat.zero_le _) hv
      | ok q =>
        obtain ⟨x, k, b⟩ := q
        rw [hv] at h
        dsimp only at h
        have hk := (Js.val_ok s 16 0 0 x k b (Nat.zero_le _) (Nat.zero_le _) hv).2.1
        by_cases hk2 : Js.sp s k < s.size
        · rw [if_pos hk2] at h; cases h; exact Js.Er.wrong (Js.sp_le s k hk)
        · rw [if_neg hk2] at h; cases h
end Go.Proofs.YtmmijebekipdeaaDoor
