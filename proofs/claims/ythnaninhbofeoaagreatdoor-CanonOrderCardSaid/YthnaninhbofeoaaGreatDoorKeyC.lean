/- Contract of canon: Compare. (Printed by gen_cmp.py.) -/
import Derived.Test.YthnaninhbofeoaaGreatDoorKeyK
import Derived.BigQuiet
namespace Go.Proofs.YthnaninhbofeoaaGreatDoor
open Go.RowKit

theorem Can.key_len (job : ByteArray) (ls : List Lab.L) (h1 : ls.length ≤ 70) (hF : Lab.Fit 1100 ls) (h2 : job.size ≤ 1000000) : (Can.key (Lab.bs job) ls).1.length ≤ 3000000 := by
  have hb : (Can.bytes ls).1.length ≤ 1000000 := by
    unfold Can.bytes
    split
    · have := Can.raw_length ls 1100 hF
      exact Nat.le_trans this (Nat.le_trans (Nat.mul_le_mul_right _ h1) (by decide))
    · simp
  have hj : (Lab.bs job).length = job.size := by simp [Lab.bs]
  unfold Can.key
  split
  · split
    · simp only [List.length_append, List.length_cons, List.length_nil]; omega
    · simp
  · simp
theorem Can.keyB_len (t : Can.T) (h : Can.TFit t) : (Can.keyB t).size ≤ 3000000 := by
  obtain ⟨h1, h2, h3, h4⟩ := h
  have := Can.key_len t.job t.ls (by omega) h3 h4
  have e : (Can.keyB t).size = (Can.key (Lab.bs t.job) t.ls).1.length := List.size_toArray
  omega
def Can.cmp (a b : Can.T) : Int × Int := if Can.err [a, b] = 0 then (Lib.compareBytes (Lab.bs (Can.keyB a)) (Lab.bs (Can.keyB b)), 0) else (0, Can.err [a, b])
theorem Can.cmp_law (x y : List UInt8) : Lib.compareBytes x y = if x < y then -1 else if x = y then 0 else 1 := by
  induction x generalizing y with
  | nil =>
    cases y with
    | nil => simp [Lib.compareBytes]
    | cons c r => simp [Lib.compareBytes]
  | cons a x ih =>
    cases y with
    | nil => simp [Lib.compareBytes]
    | cons b y =>
      unfold Lib.compareBytes
      have hc : (a :: x < b :: y) ↔ (a < b ∨ a = b ∧ x < y) := List.cons_lt_cons_iff
      rw [ih y]
      by_cases h1 : a < b
      · rw [if_pos h1, if_pos (hc.2 (.inl h1))]
      · rw [if_neg h1]
        by_cases h2 : b < a
        · have hne : a ≠ b := fun e => by subst e; exact h1 h2
          rw [if_pos h2, if_neg (fun h => (hc.1 h).elim h1 (fun q => hne q.1)), if_neg (by intro e; exact hne (List.cons.inj e).1)]
        · have he : a = b := UInt8.toNat_inj.1 (by rw [UInt8.lt_iff_toNat_lt] at h1 h2; omega)
          subst he
          rw [if_neg h2]
          by_cases h3 : x < y
          · rw [if_pos h3, if_pos (hc.2 (.inr ⟨rfl, h3⟩))]
          · rw [if_neg h3, if_neg (fun h => (hc.1 h).elim h1 (fun q => h3 q.2))]
            simp

theorem ctwo_keys (a b : Can.T) (ks : List ByteArray) (er : Int) (fa : Can.TFit a) (fb : Can.TFit b) (he : Can.err [a, b] = er) (hk : Can.keysOf [a, b] = ks) (G : Nat) (W : World) (hG : G = W.heap.size) (hA : Lab.At a.p a.ls W) (hB : Lab.At b.p b.ls W) :
    Calls Tryz.prog 33 #[.slice (some ⟨G, 0, none⟩) 2 2] (W.alloc (.cells #[.string a.job, .slice a.p a.n a.c, .string b.job, .slice b.p b.n b.c] 37)) fun e w' =>
      (∃ v, e = .returned (.tuple #[v, .int .i64 er]) ∧ OwnTexts (G + 1) v ks w') ∧ Below (G + 1) (W.alloc (.cells #[.string a.job, .slice a.p a.n a.c, .string b.job, .slice b.p b.n b.c] 37)) w' := by
  subst hG
  have h := ckeys_is W.heap.size 0 2 [a, b] ks er 2 (W.alloc (.cells #[.string a.job, .slice a.p a.n a.c, .string b.job, .slice b.p b.n b.c] 37)) (by simp) rfl ?_ ?_ he hk (by omega)
  · rw [World.size_alloc] at h
    exact h
  · intro i hi
    match i, hi with
    | 0, _ => exact ⟨by simp, by simp, hA.alloc _⟩
    | 1, _ => exact ⟨by simp, by simp, hB.alloc _⟩
  · intro t ht
    simp only [List.mem_cons, List.not_mem_nil, or_false] at ht
    rcases ht with rfl | rfl
    · exact fa
    · exact fb

set_option maxHeartbeats 1600000 in
set_option maxRecDepth 100000 in
theorem ccompare_is (a b : Can.T) (r er : Int) (h : Can.cmp a b = (r, er)) (w : World) (hA : Lab.At a.p a.ls w) (hB : Lab.At b.p b.ls w) (fa : Can.TFit a) (fb : Can.TFit b) :
    Calls Tryz.prog 12 #[.agg #[.string a.job, .slice a.p a.n a.c], .agg #[.string b.job, .slice b.p b.n b.c]] w fun e w' => e = .returned (.tuple #[.int .i64 r, .int .i64 er]) ∧ Below w.heap.size w w' := by
  unfold Can.cmp at h
  obtain ⟨e0, he⟩ : ∃ e0, Can.err [a, b] = e0 := ⟨_, rfl⟩
  rw [he] at h
  have hlx := Can.keyB_len a fa
  obtain ⟨x, hx⟩ : ∃ x, Can.keyB a = x := ⟨_, rfl⟩
  obtain ⟨y, hy⟩ : ∃ y, Can.keyB b = y := ⟨_, rfl⟩
  have hks : Can.keysOf [a, b] = if e0 = 0 then [x, y] else [] := by
    unfold Can.keysOf
    rw [he, ← hx, ← hy]; rfl
  rw [hx] at hlx
  rw [hx, hy] at h
  by_cases h0 : e0 = 0
  · subst h0
    rw [if_pos rfl] at h hks
    have HK := Lib.hid (fun G W hG hA hB => ctwo_keys a b [x, y] 0 fa fb he hks G W hG hA hB)
    simp only [Prod.mk.injEq] at h
    obtain ⟨hr, rfl⟩ := h
    have HS := Lib.hid (fun w => Tryz.strings_Compare x y w)
    have HS2 : Hid (∀ w : World, Calls Tryz.prog 36 #[.string x, .string y] w fun e w' => e = .returned (.int .i64 r) ∧ ∃ n, w' = w.drewN n) := by
      show ∀ w : World, _
      intro w
      refine (HS.out w).mono fun e w' ⟨h1, h2⟩ => ⟨?_, 0, h2⟩
      rw [h1]
      have hr' : Lib.compareBytes x.data.toList y.data.toList = r := hr
      rw [hr']
    clear hr HS
    clear hx hy hks he hlx fa fb
    obtain ⟨aj, ap, an, ac, al⟩ := a
    obtain ⟨bj, bp, bn, bc, bl⟩ := b
    dsimp only at hA hB HK ⊢
    go_enter Tryz.func12, Tryz.ntmps12
    go_wp2_with (go_at_call 33; refine (HK.out _ _ (by simp) ((hA.alloc _).alloc _) ((hB.alloc _).alloc _)).mono ?_)
    first | rintro e w1 v rfl hv hb1 | rintro e w1 ⟨⟨v, rfl, hv⟩, hb1⟩
    rcases hv.open with ⟨_, hno⟩ | ⟨g, cc, rfl, hg, _, _, hcells⟩
    · cases hno
    have d0 := hcells 0 x rfl
    have d1 := hcells 1 y rfl
    rw [show [x, y].length = 2 from rfl]
    have hB1 : Below w.heap.size w w1 := ((((Below.refl _ _).alloc (Nat.le_refl _) _).alloc (by simp) _).alloc (by simp; omega) _).trans (hb1.mono (by omega))
    clear hcells hv hA hB HK
    go_wp2_with fail
    go_quiet ((go_at_call 36; exact Calls.quiet_of (HS2.out _)))
    go_wp2_with fail
    go_ret2
    exact ⟨rfl, below_drewN hB1 _⟩
  · rw [if_neg h0] at h hks
    have HK := Lib.hid (fun G W hG hA hB => ctwo_keys a b [] e0 fa fb he hks G W hG hA hB)
    simp only [Prod.mk.injEq] at h
    obtain ⟨rfl, rfl⟩ := h
    have q1 : (e0 != 0) = true := by simpa using h0
    clear hx hy hks he hlx fa fb h0
    obtain ⟨aj, ap, an, ac, al⟩ := a
    obtain ⟨bj, bp, bn, bc, bl⟩ := b
    dsimp only at hA hB HK ⊢
    go_enter Tryz.func12, Tryz.ntmps12
    go_wp2_with (go_at_call 33; refine (HK.out _ _ (by simp) ((hA.alloc _).alloc _) ((hB.alloc _).alloc _)).mono ?_)
    first | rintro e w1 v rfl hv hb1 | rintro e w1 ⟨⟨v, rfl, hv⟩, hb1⟩
    have hB1 : Below w.heap.size w w1 := ((((Below.refl _ _).alloc (Nat.le_refl _) _).alloc (by simp) _).alloc (by simp; omega) _).trans (hb1.mono (by omega))
    go_wp2_with fail
    go_ret2
    exact ⟨rfl, hB1⟩
end Go.Proofs.YthnaninhbofeoaaGreatDoor
