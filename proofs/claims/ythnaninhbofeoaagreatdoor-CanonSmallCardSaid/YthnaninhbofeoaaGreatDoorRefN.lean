/- Contract of the reference's canon: Compare. (Printed by gen_cmp.py.) -/
import Derived.Test.YthnaninhbofeoaaGreatDoorRefL
import Derived.Test.YthnaninhbofeoaaGreatDoorKeyC
namespace Go.Proofs.YthnaninhbofeoaaGreatDoor
open Go.RowKit

theorem rtwo_keys (a b : Can.T) (ks : List ByteArray) (er : Int) (fa : Can.TFit a) (fb : Can.TFit b) (he : Can.err [a, b] = er) (hk : Can.keysOf [a, b] = ks) (G : Nat) (W : World) (hG : G = W.heap.size) (hA : Lab.At a.p a.ls W) (hB : Lab.At b.p b.ls W) :
    Calls Tryz.prog 64 #[.slice (some ⟨G, 0, none⟩) 2 2] (W.alloc (.cells #[.string a.job, .slice a.p a.n a.c, .string b.job, .slice b.p b.n b.c] 37)) fun e w' =>
      (∃ v, e = .returned (.tuple #[v, .int .i64 er]) ∧ OwnTexts (G + 1) v ks w') ∧ Below (G + 1) (W.alloc (.cells #[.string a.job, .slice a.p a.n a.c, .string b.job, .slice b.p b.n b.c] 37)) w' := by
  subst hG
  have h := rkeys_is W.heap.size 0 2 [a, b] ks er 2 (W.alloc (.cells #[.string a.job, .slice a.p a.n a.c, .string b.job, .slice b.p b.n b.c] 37)) (by simp) rfl ?_ ?_ he hk (by omega)
  · rw [World.size_alloc] at h
    exact h
  · intro i hi
    match i, hi with
    | 0, _ => exact ⟨by simp, by simp, hA.alloc _⟩
    | 1, _ => exact ⟨by simp, by simp, hB.alloc _⟩
  · intro t ht
    simp only [List.mem_cons, List.not_mem_nil, or_false] at ht
    rcases ht with rfl | rfl
    · exact fa
    · exact fb

set_option maxHeartbeats 1600000 in
set_option maxRecDepth 100000 in
theorem rcompare_is (a b : Can.T) (r er : Int) (h : Can.cmp a b = (r, er)) (w : World) (hA : Lab.At a.p a.ls w) (hB : Lab.At b.p b.ls w) (fa : Can.TFit a) (fb : Can.TFit b) :
    Calls Tryz.prog 46 #[.agg #[.string a.job, .slice a.p a.n a.c], .agg #[.string b.job, .slice b.p b.n b.c]] w fun e w' => e = .returned (.tuple #[.int .i64 r, .int .i64 er]) ∧ Below w.heap.size w w' := by
  unfold Can.cmp at h
  obtain ⟨e0, he⟩ : ∃ e0, Can.err [a, b] = e0 := ⟨_, rfl⟩
  rw [he] at h
  have hlx := Can.keyB_len a fa
  obtain ⟨x, hx⟩ : ∃ x, Can.keyB a = x := ⟨_, rfl⟩
  obtain ⟨y, hy⟩ : ∃ y, Can.keyB b = y := ⟨_, rfl⟩
  have hks : Can.keysOf [a, b] = if e0 = 0 then [x, y] else [] := by
    unfold Can.keysOf
    rw [he, ← hx, ← hy]; rfl
  rw [hx] at hlx
  rw [hx, hy] at h
  by_cases h0 : e0 = 0
  · subst h0
    rw [if_pos rfl] at h hks
    have HK := Lib.hid (fun G W hG hA hB => rtwo_keys a b [x, y] 0 fa fb he hks G W hG hA hB)
    simp only [Prod.mk.injEq] at h
    obtain ⟨hr, rfl⟩ := h
    rw [Can.cmp_law] at hr
    obtain ⟨p, hp⟩ : ∃ p, decide (Lab.bs x < Lab.bs y) = p := ⟨_, rfl⟩
    have HL := Lib.hid (fun w => less_is x y p hp w (by unfold maxLen; omega))
    obtain ⟨q, hq⟩ : ∃ q, (x.toList == y.toList) = q := ⟨_, rfl⟩
    have hq2 : q = decide (Lab.bs x = Lab.bs y) := by
      rw [← hq, ByteArray.toList_eq, ByteArray.toList_eq]
      rw [Bool.eq_iff_iff]; simp [Lab.bs]
    have hr2 : r = if p = true then -1 else if q = true then 0 else 1 := by
      rw [← hr, ← hp, hq2]
      by_cases g1 : Lab.bs x < Lab.bs y
      · simp [g1]
      · by_cases g2 : Lab.bs x = Lab.bs y <;> simp [g1, g2]
    have HR := Lib.hid hr2
    clear hr hr2 hp hq2
    clear hx hy hks he hlx fa fb
    obtain ⟨aj, ap, an, ac, al⟩ := a
    obtain ⟨bj, bp, bn, bc, bl⟩ := b
    dsimp only at hA hB HK ⊢
    go_enter Tryz.func46, Tryz.ntmps46
    go_wp2_with (go_at_call 64; refine (HK.out _ _ (by simp) ((hA.alloc _).alloc _) ((hB.alloc _).alloc _)).mono ?_)
    first | rintro e w1 v rfl hv hb1 | rintro e w1 ⟨⟨v, rfl, hv⟩, hb1⟩
    rcases hv.open with ⟨_, hno⟩ | ⟨g, cc, rfl, hg, _, _, hcells⟩
    · cases hno
    have d0 := hcells 0 x rfl
    have d1 := hcells 1 y rfl
    rw [show [x, y].length = 2 from rfl]
    have hB1 : Below w.heap.size w w1 := ((((Below.refl _ _).alloc (Nat.le_refl _) _).alloc (by simp) _).alloc (by simp; omega) _).trans (hb1.mono (by omega))
    clear hcells hv hA hB HK
    cases p
    · cases q
      · obtain rfl : r = 1 := HR.out
        go_wp2_with fail
        go_quiet ((go_at_call 65; exact Calls.quiet_of (HL.out _)))
        go_wp2_with fail
        go_quiet (fail)
        go_wp2_with fail
        go_ret2
        exact ⟨rfl, below_drewN (below_drewN hB1 _) _⟩
      · obtain rfl : r = 0 := HR.out
        go_wp2_with fail
        go_quiet ((go_at_call 65; exact Calls.quiet_of (HL.out _)))
        go_wp2_with fail
        go_quiet (fail)
        go_wp2_with fail
        go_ret2
        exact ⟨rfl, below_drewN (below_drewN hB1 _) _⟩
    · obtain rfl : r = -1 := HR.out
      go_wp2_with fail
      go_quiet ((go_at_call 65; exact Calls.quiet_of (HL.out _)))
      go_wp2_with fail
      go_ret2
      exact ⟨rfl, below_drewN hB1 _⟩
  · rw [if_neg h0] at h hks
    have HK := Lib.hid (fun G W hG hA hB => rtwo_keys a b [] e0 fa fb he hks G W hG hA hB)
    simp only [Prod.mk.injEq] at h
    obtain ⟨rfl, rfl⟩ := h
    have q1 : (e0 != 0) = true := by simpa using h0
    clear hx hy hks he hlx fa fb h0
    obtain ⟨aj, ap, an, ac, al⟩ := a
    obtain ⟨bj, bp, bn, bc, bl⟩ := b
    dsimp only at hA hB HK ⊢
    go_enter Tryz.func46, Tryz.ntmps46
    go_wp2_with (go_at_call 64; refine (HK.out _ _ (by simp) ((hA.alloc _).alloc _) ((hB.alloc _).alloc _)).mono ?_)
    first | rintro e w1 v rfl hv hb1 | rintro e w1 ⟨⟨v, rfl, hv⟩, hb1⟩
    have hB1 : Below w.heap.size w w1 := ((((Below.refl _ _).alloc (Nat.le_refl _) _).alloc (by simp) _).alloc (by simp; omega) _).trans (hb1.mono (by omega))
    go_wp2_with fail
    go_ret2
    exact ⟨rfl, hB1⟩
end Go.Proofs.YthnaninhbofeoaaGreatDoor
