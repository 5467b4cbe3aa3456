/- Contracts of gaugerlaw35: has, find; slices.ContainsFunc at targets and moves with the laws' own functions. (Printed in part by gen_idx.py.) -/
import Derived.Test.YtpnpgjjbincigaaPoH
namespace Go.Proofs.Ytpnpgjjbincigaa
open Go.RowKit
set_option linter.unusedVariables false

/-- targets at a place -/
def Po.TAt1 (p : Option Addr) (ts : List Can.T) (w : World) : Prop := Can.TPos p ts w
theorem Po.TAt1.cells {p : Option Addr} {l : List Can.T} {w : World} (h : Po.TAt1 p l w) (h0 : 0 < l.length) : ∃ b o, p = some ⟨b, o, none⟩ ∧ ∀ i (hi : i < l.length),
    w.cell? ⟨b, o + i * 2, none⟩ = some (.string l[i].job) ∧ w.cell? ⟨b, o + i * 2 + 1, none⟩ = some (.slice l[i].p l[i].n l[i].c) := by
  rcases h with h1 | ⟨b, o, hp, _, hc⟩
  · rw [h1] at h0; cases h0
  · exact ⟨b, o, hp, fun i hi => ⟨(hc i hi).1, (hc i hi).2.1⟩⟩
theorem Po.TAt1.lab {p : Option Addr} {l : List Can.T} {w : World} (h : Po.TAt1 p l w) : ∀ i (hi : i < l.length), Lab.At l[i].p l[i].ls w := fun i hi => by
  rcases h with h1 | ⟨b, o, hp, _, hc⟩
  · rw [h1] at hi; cases hi
  · exact (hc i hi).2.2

set_option maxHeartbeats 1600000 in
set_option maxRecDepth 100000 in
theorem idxT_is (p : Option Addr) (l : List Can.T) (n c : Nat) (bx : Nat) (f : Nat → Bool) (r : Int) (w : World) (hn : l.length = n) (hA : Po.TAt1 p l w) (hl : n ≤ 1000000)
    (HG : ∀ i (h : i < l.length) w', Below w.heap.size w w' → Calls Try.prog 67 #[.agg #[.string l[i].job, .slice l[i].p l[i].n l[i].c], .pointer (some ⟨bx, 0, none⟩)] w' fun e w'' => e = .returned (.bool (f i)) ∧ Below w'.heap.size w' w'')
    (h1 : ∀ k, k < n → (∀ j, j < k → f j = false) → f k = true → r = k) (h2 : (∀ j, j < n → f j = false) → r = -1) :
    Calls Try.prog 89 #[.slice p n c, .func (.func 67) #[] #[.pointer (some ⟨bx, 0, none⟩)]] w fun e w' => e = .returned (.int .i64 r) ∧ Below w.heap.size w w' := by
  have HN := Lib.hid hn
  have HA := Lib.hid hA
  have HG := Lib.hid HG
  have H1 := Lib.hid h1
  have H2 := Lib.hid h2
  clear hn hA h1 h2
  go_enter Try.func89, Try.ntmps89
  go_wp2_with fail
  go_loopw [8] (fun i wr => ∃ k : Nat, k ≤ n ∧ i = .int .i64 (k : Int) ∧ Hid (∀ j, j < k → f j = false) ∧ Hid (Below w.heap.size w wr)) (fun i _ => n - (intOf i).toNat)
  case atStart => exact ⟨0, Nat.zero_le _, rfl, fun j hj => absurd hj (Nat.not_lt_zero _), Below.refl _ _⟩
  case round =>
    obtain ⟨k, hk, rfl, HF, HB⟩ := hrel
    by_cases hlt : k < n
    · have hkl : k < l.length := by rw [HN.out]; exact hlt
      obtain ⟨b, o, rfl, hc⟩ := HA.out.cells (by omega)
      obtain ⟨d0, d1⟩ := hc k hkl
      have hb := World.block_lt_of_cell? _ _ d0
      replace d0 := (HB.out.cell (p := ⟨b, o + k * 2, none⟩) hb).trans d0
      replace d1 := (HB.out.cell (p := ⟨b, o + k * 2 + 1, none⟩) hb).trans d1
      have HX := Lib.hid (HG.out k hkl wr HB.out)
      obtain ⟨x, hx⟩ : ∃ x, l[k] = x := ⟨_, rfl⟩
      obtain ⟨bq, hbq⟩ : ∃ bq, f k = bq := ⟨_, rfl⟩
      have HBQ := Lib.hid hbq
      rw [hx] at d0 d1
      rw [hx, hbq] at HX
      have n1 : (0 : Int) ≤ (k : Int) := by omega
      have n2 : (k : Int) < (n : Int) := by omega
      clear hx hc hbq
      go_wp2_with (go_at_call 67; refine HX.out.mono ?_)
      first | rintro e w3 rfl hb3 | rintro e w3 ⟨rfl, hb3⟩
      have hb4 : Below w.heap.size w w3 := HB.out.trans (hb3.mono HB.out.size)
      clear hb3
      cases bq
      · go_wp2_with fail
        go_roundw
        case rel => exact ⟨k + 1, by omega, by go_num, (fun j hj => by by_cases e : j = k; (subst e; exact HBQ.out); exact HF.out j (by omega)), hb4⟩
        case measure => simp [intOf]; omega
      · obtain rfl := H1.out k hlt HF.out HBQ.out
        go_wp2_with fail
        go_ret
        exact ⟨rfl, hb4⟩
    · have n2 : (n : Int) ≤ (k : Int) := by omega
      obtain rfl := H2.out (fun j hj => HF.out j (by omega))
      go_wp2_with fail
      go_ret
      exact ⟨rfl, HB.out⟩

set_option maxHeartbeats 1600000 in
theorem conT_is (p : Option Addr) (l : List Can.T) (n c : Nat) (bx : Nat) (f : Nat → Bool) (q : Bool) (w : World) (hn : l.length = n) (hA : Po.TAt1 p l w) (hl : n ≤ 1000000)
    (HG : ∀ i (h : i < l.length) w', Below w.heap.size w w' → Calls Try.prog 67 #[.agg #[.string l[i].job, .slice l[i].p l[i].n l[i].c], .pointer (some ⟨bx, 0, none⟩)] w' fun e w'' => e = .returned (.bool (f i)) ∧ Below w'.heap.size w' w'')
    (h1 : ∀ k, k < n → f k = true → q = true) (h2 : (∀ j, j < n → f j = false) → q = false) :
    Calls Try.prog 66 #[.slice p n c, .func (.func 67) #[] #[.pointer (some ⟨bx, 0, none⟩)]] w fun e w' => e = .returned (.bool q) ∧ Below w.heap.size w w' := by
  obtain ⟨r, hr1, hr2, hr3⟩ : ∃ r : Int, (∀ k, k < n → (∀ j, j < k → f j = false) → f k = true → r = k) ∧ ((∀ j, j < n → f j = false) → r = -1) ∧ ((decide (0 ≤ r)) = q) := Po.first_ix f n q h1 h2
  have HI := Lib.hid (idxT_is p l n c bx f r w hn hA hl HG hr1 hr2)
  have q1 : decide (r ≥ 0) = q := hr3
  clear hn hA HG h1 h2 hr1 hr2 hr3
  go_enter Try.func66, Try.ntmps66
  go_wp2_with (go_at_call 89; refine HI.out.mono ?_)
  first | rintro e w3 rfl hb3 | rintro e w3 ⟨rfl, hb3⟩
  go_wp2_with fail
  go_ret
  exact ⟨rfl, hb3⟩

set_option maxHeartbeats 1600000 in
theorem has1_is (s : Can.T) (t : Can.T) (bx : Nat) (r : Bool) (h : r = true ↔ Po.tv s = Po.tv t) (w : World) (hb : Po.Box bx t w) (hs : s.ls.length = s.n) (ht : t.ls.length = t.n) (hA : Lab.At s.p s.ls w) (hB : Lab.At t.p t.ls w) (hl : s.n ≤ maxLen) (hl2 : t.n ≤ maxLen) :
    Calls Try.prog 67 #[.agg #[.string s.job, .slice s.p s.n s.c], .pointer (some ⟨bx, 0, none⟩)] w fun e w' => e = .returned (.bool r) ∧ Below w.heap.size w w' := by
  have hlt := lt_of_heap hb
  obtain ⟨j, p, n, c, ls⟩ := s
  obtain ⟨i, p2, m, c2, ls2⟩ := t
  dsimp only at hs ht hA hB hl hl2 ⊢
  have h' : r = true ↔ (j = i ∧ ls = ls2) := by
    rw [h]
    simp [Po.tv]
  have HS := Lib.hid (fun w hA hB => sametarget_is j i p p2 ls ls2 n m c c2 r h' w hs ht hA hB hl hl2)
  have HA := Lib.hid hA
  have HB := Lib.hid hB
  have c0 : w.cell? ⟨bx, 0, none⟩ = some (.string i) := by rw [Lib.cell_of_heap hb]; rfl
  have c1 : w.cell? ⟨bx, 1, none⟩ = some (.slice p2 m c2) := by rw [Lib.cell_of_heap hb]; rfl
  clear h h' hs ht hl hl2 hA hB hb
  go_enter Try.func67, Try.ntmps67
  go_wp2_with (go_at_call 19; refine (HS.out _ (by first | exact HA.out | exact HA.out.alloc _) (by first | exact HB.out | exact HB.out.alloc _)).mono ?_)
  first | rintro e w1 rfl hb1 | rintro e w1 ⟨rfl, hb1⟩
  go_wp2_with fail
  go_ret
  exact ⟨rfl, by first | exact hb1 | exact ((Below.refl _ _).alloc (Nat.le_refl _) _).trans (hb1.mono (by simp))⟩
set_option maxHeartbeats 1600000 in
theorem has_is (p : Option Addr) (ts : List Can.T) (t : Can.T) (n c : Nat) (q : Bool) (h : q = true ↔ Po.tv t ∈ ts.map Po.tv) (w : World) (hn : ts.length = n) (hA : Can.TPos p ts w) (hB : Lab.At t.p t.ls w) (hF : ∀ s ∈ ts, s.ls.length = s.n ∧ s.n ≤ maxLen) (ht : t.ls.length = t.n) (ht2 : t.n ≤ maxLen) (hl : n ≤ 1000000) :
    Calls Try.prog 31 #[.slice p n c, .agg #[.string t.job, .slice t.p t.n t.c]] w fun e w' => e = .returned (.bool q) ∧ Below w.heap.size w w' := by
  have hb0 : Below w.heap.size w (w.alloc (.cells #[.string t.job, .slice t.p t.n t.c] 29)) := (Below.refl _ _).alloc (Nat.le_refl _) _
  have HI := Lib.hid (conT_is p ts n c w.heap.size (fun j => decide ((ts[j]?).map Po.tv = some (Po.tv t))) q _ hn (show Po.TAt1 p ts _ from hA.below hb0 (Nat.le_refl _)) hl (fun i hi w' hb' => by
    have hw := hb0.trans (hb'.mono (by simp))
    refine has1_is ts[i] t w.heap.size _ ?_ w' ?_ (hF _ (List.getElem_mem _)).1 ht ((Po.TAt1.lab (show Po.TAt1 p ts w' from hA.below hw (Nat.le_refl _))) i hi) (hB.below hw (Nat.le_refl _)) (hF _ (List.getElem_mem _)).2 ht2
    · rw [decide_eq_true_eq, List.getElem?_eq_getElem hi]
      simp
    · exact below_kept hb' (alloc_new w _) (by simp))
    (fun k hk hf => by
      have hk2 : k < ts.length := by omega
      have := of_decide_eq_true hf
      rw [List.getElem?_eq_getElem hk2, Option.map_some, Option.some.injEq] at this
      exact h.2 (by rw [← this]; exact List.mem_map_of_mem (List.getElem_mem _)))
    (fun hall => by
      cases q with
      | false => rfl
      | true =>
        obtain ⟨s, hs, e⟩ := List.mem_map.1 (h.1 rfl)
        obtain ⟨i, hi, rfl⟩ := List.getElem_of_mem hs
        have := hall i (by omega)
        rw [List.getElem?_eq_getElem hi, Option.map_some, e] at this
        simp at this))
  obtain ⟨j, tp, tn, tc, tl⟩ := t
  dsimp only at HI hb0 ⊢
  have HB0 := Lib.hid hb0
  clear hn hA hB hF h hb0 ht
  go_enter Try.func31, Try.ntmps31
  go_wp2_with (go_at_call 66; refine HI.out.mono ?_)
  first | rintro e w3 rfl hb3 | rintro e w3 ⟨rfl, hb3⟩
  go_wp2_with fail
  go_ret
  exact ⟨rfl, HB0.out.trans (hb3.mono (by simp))⟩
theorem Po.find_lt {S : List Po.V} {u : Po.U} {i : Int} (h : Po.find S u = (i, true)) : ∃ k : Nat, i = (k : Int) ∧ ∃ hk : k < S.length, Po.vu S[k] = u := by
  unfold Po.find at h
  cases hf : Po.fx S u with
  | none => rw [hf] at h; cases h
  | some k =>
    rw [hf] at h
    simp only [Prod.mk.injEq] at h
    obtain ⟨h1, h2, _⟩ := (Po.fx_facts S u).1 k hf
    exact ⟨k, h.1.symm, h1, h2⟩
theorem Po.find_zero {S : List Po.V} {u : Po.U} {i : Int} (h : Po.find S u = (i, false)) : i = 0 ∧ Po.fx S u = none := by
  unfold Po.find at h
  cases hf : Po.fx S u with
  | none => rw [hf] at h; simp only [Prod.mk.injEq] at h; exact ⟨h.1.symm, rfl⟩
  | some k => rw [hf] at h; cases h
set_option maxHeartbeats 1600000 in
theorem lfind_is (p : Option Addr) (ss : List Sl) (t : Can.T) (n c : Nat) (i : Int) (q : Bool) (h : Po.find (ss.map Sl.view) (Po.tv t) = (i, q)) (w : World) (hn : ss.length = n) (hA : Po.At p ss w) (hB : Lab.At t.p t.ls w) (hF : ∀ s ∈ ss, s.t.ls.length = s.t.n ∧ s.t.n ≤ maxLen) (ht : t.ls.length = t.n) (ht2 : t.n ≤ maxLen) (hl : n ≤ 1000000) :
    Calls Try.prog 28 #[.slice p n c, .agg #[.string t.job, .slice t.p t.n t.c]] w fun e w' => e = .returned (.tuple #[.int .i64 i, .bool q]) ∧ Below w.heap.size w w' := by
  have HB0 : Hid (Below w.heap.size w (w.alloc (.cells #[.string t.job, .slice t.p t.n t.c] 29))) := (Below.refl _ _).alloc (Nat.le_refl _) _
  have HI := Lib.hid (find_is p ss t n c i q h _ hn (hA.below HB0.out (Nat.le_refl _)) (hB.below HB0.out (Nat.le_refl _)) hF ht ht2 hl)
  obtain ⟨j, tp, tn, tc, tl⟩ := t
  dsimp only at HI HB0 ⊢
  cases q with
  | false =>
    obtain ⟨rfl, _⟩ := Po.find_zero h
    clear hn hA hB hF h ht
    go_enter Try.func28, Try.ntmps28
    go_wp2_with (go_at_call 45; refine HI.out.mono ?_)
    first | rintro e w3 rfl hb3 | rintro e w3 ⟨rfl, hb3⟩
    go_wp2_with fail
    go_ret2
    exact ⟨rfl, HB0.out.trans (hb3.mono (by simp))⟩
  | true =>
    obtain ⟨k, rfl, hk, _⟩ := Po.find_lt h
    rw [List.length_map, hn] at hk
    have n1 : (0 : Int) ≤ (k : Int) := by omega
    have n2 : (k : Int) < (n : Int) := by omega
    have q1 : decide ((k : Int) < 0) = false := decide_eq_false (by omega)
    have q2 : decide ((k : Int) ≥ (n : Int)) = false := decide_eq_false (by omega)
    clear hn hA hB hF h ht
    go_enter Try.func28, Try.ntmps28
    go_wp2_with (go_at_call 45; refine HI.out.mono ?_)
    first | rintro e w3 rfl hb3 | rintro e w3 ⟨rfl, hb3⟩
    go_wp2_with fail
    go_ret2
    exact ⟨rfl, HB0.out.trans (hb3.mono (by simp))⟩
end Go.Proofs.Ytpnpgjjbincigaa
