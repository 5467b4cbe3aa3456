/- Contracts of label: Merge; filter at each of its closures; Keep, Drop, Without. (Printed by gen_filter.py.) -/
import Derived.Test.YtbilaghljlobpaaGreatL4G
import Derived.Test.YtbilaghljlobpaaGreatL4F
import Derived.BigQuiet
namespace Go.Proofs.YtbilaghljlobpaaGreat
open Go.RowKit

def Lab.merge (a b : List Lab.L) : List Lab.L × Int := if (Lab.right a && Lab.right b) = true then Lab.set b a else ([], 44)
set_option maxHeartbeats 1600000 in
set_option maxRecDepth 100000 in
theorem lmerge_is (p q : Option Addr) (a b : List Lab.L) (n c n2 c2 : Nat) (r : List Lab.L) (er : Int) (h : Lab.merge a b = (r, er)) (w : World) (hn : a.length = n) (hn2 : b.length = n2) (hA : Lab.At p a w) (hB : Lab.At q b w) (hF : Lab.Fit maxLen a) (hF2 : Lab.Fit maxLen b) (hl : n ≤ 10000) (hl2 : n2 ≤ 10000) :
    Calls Tryz.prog 34 #[.slice p n c, .slice q n2 c2] w fun e w' => (∃ v, e = .returned (.tuple #[v, .int .i64 er]) ∧ OwnLabels w.heap.size v r w') ∧ Below w.heap.size w w' := by
  obtain ⟨ra, hra⟩ : ∃ ra, Lab.right a = ra := ⟨_, rfl⟩
  obtain ⟨rb, hrb⟩ : ∃ rb, Lab.right b = rb := ⟨_, rfl⟩
  have R1 := Lib.hid (right_is p a n c ra hra w hn hA hF (by unfold maxLen; omega))
  have R2 := Lib.hid (fun w hB => right_is q b n2 c2 rb hrb w hn2 hB hF2 (by unfold maxLen; omega))
  have HS := Lib.hid (fun r er h w hA hB => lset_is q p b a n2 c2 n c r er h w hn2 hn hB hA hF2 hF hl2 hl)
  unfold Lab.merge at h
  rw [hra, hrb] at h
  clear hra hrb hn hn2 hF hF2
  cases ra
  · rw [if_neg (by simp)] at h
    simp only [Prod.mk.injEq] at h
    obtain ⟨rfl, rfl⟩ := h
    go_enter Tryz.func34, Tryz.ntmps34
    go_wp2_with (go_at_call 20; refine R1.out.mono ?_)
    first | rintro e w1 rfl hb1 | rintro e w1 ⟨rfl, hb1⟩
    go_wp2_with fail
    go_ret2
    exact ⟨⟨_, rfl, OwnLabels.nil _ _⟩, hb1⟩
  cases rb
  · rw [if_neg (by simp)] at h
    simp only [Prod.mk.injEq] at h
    obtain ⟨rfl, rfl⟩ := h
    go_enter Tryz.func34, Tryz.ntmps34
    go_wp2_with (go_at_call 20; refine R1.out.mono ?_)
    first | rintro e w1 rfl hb1 | rintro e w1 ⟨rfl, hb1⟩
    go_wp2_with (go_at_call 20; refine (R2.out _ (hB.below hb1 (Nat.le_refl _))).mono ?_)
    first | rintro e w2 rfl hb2 | rintro e w2 ⟨rfl, hb2⟩
    go_wp2_with fail
    go_ret2
    exact ⟨⟨_, rfl, OwnLabels.nil _ _⟩, below_next hb1 hb2⟩
  rw [if_pos (by simp)] at h
  have HS2 := Lib.hid (fun w hA hB => HS.out r er h w hA hB)
  clear h HS
  go_enter Tryz.func34, Tryz.ntmps34
  go_wp2_with (go_at_call 20; refine R1.out.mono ?_)
  first | rintro e w1 rfl hb1 | rintro e w1 ⟨rfl, hb1⟩
  go_wp2_with (go_at_call 20; refine (R2.out _ (hB.below hb1 (Nat.le_refl _))).mono ?_)
  first | rintro e w2 rfl hb2 | rintro e w2 ⟨rfl, hb2⟩
  have hb3 := below_next hb1 hb2
  go_wp2_with (go_at_call 33; refine (HS2.out _ (hA.below hb3 (Nat.le_refl _)) (hB.below hb3 (Nat.le_refl _))).mono ?_)
  first | rintro e w4 v rfl hv hb4 | rintro e w4 ⟨⟨v, rfl, hv⟩, hb4⟩
  go_wp2_with fail
  go_ret2
  exact ⟨⟨_, rfl, row_lift hv hb3.size⟩, below_next hb3 hb4⟩

theorem Lab.filter_take (ls : List Lab.L) (f : ByteArray → Bool) (k : Nat) (h : k < ls.length) : (ls.take (k + 1)).filter (fun x => f x.n) = if f ls[k].n = true then (ls.take k).filter (fun x => f x.n) ++ [ls[k]] else (ls.take k).filter (fun x => f x.n) := by
  rw [List.take_succ_eq_append_getElem h, List.filter_append]
  cases hb : f ls[k].n <;> simp [hb]

set_option maxHeartbeats 1600000 in
set_option maxRecDepth 100000 in
theorem filterKeep_is (f : ByteArray → Bool) (bx : Nat) (p : Option Addr) (ls : List Lab.L) (n c : Nat) (r : List Lab.L) (er : Int) (h : (if Lab.right ls = true then (ls.filter (fun x => f x.n), 0) else ([], 44)) = (r, er)) (w : World) (hn : ls.length = n) (hA : Lab.At p ls w) (hF : Lab.Fit maxLen ls) (hl : n ≤ 10000)
    (hf : ∀ x ∈ ls, ∀ w', Below w.heap.size w w' → Calls Tryz.prog 75 #[.string x.n, .pointer (some ⟨bx, 0, none⟩)] w' fun e w'' => e = .returned (.bool (f x.n)) ∧ Below w'.heap.size w' w'') :
    Calls Tryz.prog 74 #[.slice p n c, .func (.func 75) #[] #[.pointer (some ⟨bx, 0, none⟩)]] w fun e w' => (∃ v, e = .returned (.tuple #[v, .int .i64 er]) ∧ OwnLabels w.heap.size v r w') ∧ Below w.heap.size w w' := by
  obtain ⟨ra, hra⟩ : ∃ ra, Lab.right ls = ra := ⟨_, rfl⟩
  have R1 := Lib.hid (right_is p ls n c ra hra w hn hA hF (by unfold maxLen; omega))
  have HN := Lib.hid hn
  have HA := Lib.hid hA
  have HFF := Lib.hid hf
  have HT := Lib.hid (fun k h => Lab.filter_take ls f k h)
  rw [hra] at h
  clear hra hn hF hA hf
  cases ra
  · rw [if_neg (by simp)] at h
    simp only [Prod.mk.injEq] at h
    obtain ⟨rfl, rfl⟩ := h
    go_enter Tryz.func74, Tryz.ntmps74
    go_wp2_with (go_at_call 20; refine R1.out.mono ?_)
    first | rintro e w1 rfl hb1 | rintro e w1 ⟨rfl, hb1⟩
    go_wp2_with fail
    go_ret2
    exact ⟨⟨_, rfl, OwnLabels.nil _ _⟩, hb1⟩
  rw [if_pos rfl] at h
  simp only [Prod.mk.injEq] at h
  obtain ⟨hr, rfl⟩ := h
  have HR := Lib.hid hr
  clear hr
  go_enter Tryz.func74, Tryz.ntmps74
  go_wp2_with (go_at_call 20; refine R1.out.mono ?_)
  first | rintro e w1 rfl hb1 | rintro e w1 ⟨rfl, hb1⟩
  clear R1
  go_wp2_with fail
  go_loopw [6, 14] (fun v i wr => ∃ k : Nat, k ≤ n ∧ i = .int .i64 (k : Int) ∧ OwnLabels w.heap.size v ((ls.take k).filter (fun x => f x.n)) wr ∧ Below w.heap.size w wr) (fun _ i _ => n - (intOf i).toNat)
  case atStart => exact ⟨0, Nat.zero_le _, rfl, OwnLabels.nil _ _, hb1⟩
  case round =>
    obtain ⟨k, hk, rfl, hown, hb⟩ := hrel
    by_cases hlt : k < n
    · have hkl : k < ls.length := by rw [HN.out]; exact hlt
      obtain ⟨b, o, rfl, hc⟩ := (HA.out.below hb (Nat.le_refl _)).open k hkl
      have hst := HT.out k hkl
      have hfx := HFF.out ls[k] (List.getElem_mem _)
      obtain ⟨x, hx⟩ : ∃ x, ls[k] = x := ⟨_, rfl⟩
      have c0 := (hc k hkl).1
      have c1 := (hc k hkl).2
      rw [hx] at c0 c1 hst hfx
      have hbx : b < wr.heap.size := World.block_lt_of_cell? _ _ c0
      obtain ⟨l0, hl0⟩ : ∃ l0, (ls.take k).filter (fun x => f x.n) = l0 := ⟨_, rfl⟩
      have hll : l0.length ≤ 10000 := by
        rw [← hl0]
        have := List.length_filter_le (fun x => f x.n) (ls.take k)
        have := List.length_take_le k ls
        omega
      rw [hl0] at hst hown
      obtain ⟨bq, hbq⟩ : ∃ bq, f x.n = bq := ⟨_, rfl⟩
      rw [hbq] at hst hfx
      have HFX := Lib.hid hfx
      have n1 : (0 : Int) ≤ (k : Int) := by omega
      have n2 : (k : Int) < (n : Int) := by omega
      have hb2 := hb.alloc hb.size (.cells #[.string x.n, .string x.v] 31)
      have hown2 := hown.alloc (.cells #[.string x.n, .string x.v] 31)
      have hk2 := alloc_new wr (.cells #[.string x.n, .string x.v] 31)
      clear hx hc hl0 hfx hbq
      go_wp2_with (go_at_call 75; refine (HFX.out _ hb2).mono ?_)
      first | rintro e w3 rfl hb3 | rintro e w3 ⟨rfl, hb3⟩
      have hk3 := below_kept hb3 hk2 (by simp)
      have d0 : w3.cell? ⟨wr.heap.size, 0, none⟩ = some (.string x.n) := by rw [Lib.cell_of_heap hk3]; rfl
      have d1 : w3.cell? ⟨wr.heap.size, 1, none⟩ = some (.string x.v) := by rw [Lib.cell_of_heap hk3]; rfl
      have hb4 : Below w.heap.size w w3 := hb2.trans (hb3.mono hb2.size)
      have hown3 := hown2.below hb3 (Nat.le_refl _)
      have hlt3 : wr.heap.size < w3.heap.size := lt_of_heap hk3
      clear hk2 hk3 hb3 hown2 hown hb2 hb HFX
      cases bq
      · rw [if_neg (by simp)] at hst
        have HST := Lib.hid hst
        clear hst
        go_wp2_with fail
        go_roundw
        case rel => exact ⟨k + 1, by omega, by go_num, by rw [HST.out]; exact hown3, hb4⟩
        case measure => simp [intOf]; omega
      · rw [if_pos rfl] at hst
        have HST := Lib.hid hst
        clear hst
        go_wp2_with (at_builtin; refine wpList_pushL 25 Tryz.underlying25 rfl _ _ rfl _ _ _ _ rfl hown3 x _ _ rfl _ rfl (by simp) ?d1 ?d2 ?_)
        case d1 => omega
        case d2 => exact hb4.size
        intro v6 w6 hown6 hg6
        have hb6 := below_push _ hb4 hown3 hg6
        go_wp2_with fail
        go_roundw
        case rel => exact ⟨k + 1, by omega, by go_num, by rw [HST.out]; exact hown6, hb6⟩
        case measure => simp [intOf]; omega
    · have he : ls.take k = ls := List.take_of_length_le (by rw [HN.out]; omega)
      rw [he, HR.out] at hown
      have n2 : (n : Int) ≤ (k : Int) := by omega
      clear he
      go_wp2_with fail
      go_ret2
      exact ⟨⟨_, rfl, hown⟩, hb⟩

set_option maxHeartbeats 1600000 in
set_option maxRecDepth 100000 in
theorem filterDrop_is (f : ByteArray → Bool) (bx : Nat) (p : Option Addr) (ls : List Lab.L) (n c : Nat) (r : List Lab.L) (er : Int) (h : (if Lab.right ls = true then (ls.filter (fun x => f x.n), 0) else ([], 44)) = (r, er)) (w : World) (hn : ls.length = n) (hA : Lab.At p ls w) (hF : Lab.Fit maxLen ls) (hl : n ≤ 10000)
    (hf : ∀ x ∈ ls, ∀ w', Below w.heap.size w w' → Calls Tryz.prog 77 #[.string x.n, .pointer (some ⟨bx, 0, none⟩)] w' fun e w'' => e = .returned (.bool (f x.n)) ∧ Below w'.heap.size w' w'') :
    Calls Tryz.prog 74 #[.slice p n c, .func (.func 77) #[] #[.pointer (some ⟨bx, 0, none⟩)]] w fun e w' => (∃ v, e = .returned (.tuple #[v, .int .i64 er]) ∧ OwnLabels w.heap.size v r w') ∧ Below w.heap.size w w' := by
  obtain ⟨ra, hra⟩ : ∃ ra, Lab.right ls = ra := ⟨_, rfl⟩
  have R1 := Lib.hid (right_is p ls n c ra hra w hn hA hF (by unfold maxLen; omega))
  have HN := Lib.hid hn
  have HA := Lib.hid hA
  have HFF := Lib.hid hf
  have HT := Lib.hid (fun k h => Lab.filter_take ls f k h)
  rw [hra] at h
  clear hra hn hF hA hf
  cases ra
  · rw [if_neg (by simp)] at h
    simp only [Prod.mk.injEq] at h
    obtain ⟨rfl, rfl⟩ := h
    go_enter Tryz.func74, Tryz.ntmps74
    go_wp2_with (go_at_call 20; refine R1.out.mono ?_)
    first | rintro e w1 rfl hb1 | rintro e w1 ⟨rfl, hb1⟩
    go_wp2_with fail
    go_ret2
    exact ⟨⟨_, rfl, OwnLabels.nil _ _⟩, hb1⟩
  rw [if_pos rfl] at h
  simp only [Prod.mk.injEq] at h
  obtain ⟨hr, rfl⟩ := h
  have HR := Lib.hid hr
  clear hr
  go_enter Tryz.func74, Tryz.ntmps74
  go_wp2_with (go_at_call 20; refine R1.out.mono ?_)
  first | rintro e w1 rfl hb1 | rintro e w1 ⟨rfl, hb1⟩
  clear R1
  go_wp2_with fail
  go_loopw [6, 14] (fun v i wr => ∃ k : Nat, k ≤ n ∧ i = .int .i64 (k : Int) ∧ OwnLabels w.heap.size v ((ls.take k).filter (fun x => f x.n)) wr ∧ Below w.heap.size w wr) (fun _ i _ => n - (intOf i).toNat)
  case atStart => exact ⟨0, Nat.zero_le _, rfl, OwnLabels.nil _ _, hb1⟩
  case round =>
    obtain ⟨k, hk, rfl, hown, hb⟩ := hrel
    by_cases hlt : k < n
    · have hkl : k < ls.length := by rw [HN.out]; exact hlt
      obtain ⟨b, o, rfl, hc⟩ := (HA.out.below hb (Nat.le_refl _)).open k hkl
      have hst := HT.out k hkl
      have hfx := HFF.out ls[k] (List.getElem_mem _)
      obtain ⟨x, hx⟩ : ∃ x, ls[k] = x := ⟨_, rfl⟩
      have c0 := (hc k hkl).1
      have c1 := (hc k hkl).2
      rw [hx] at c0 c1 hst hfx
      have hbx : b < wr.heap.size := World.block_lt_of_cell? _ _ c0
      obtain ⟨l0, hl0⟩ : ∃ l0, (ls.take k).filter (fun x => f x.n) = l0 := ⟨_, rfl⟩
      have hll : l0.length ≤ 10000 := by
        rw [← hl0]
        have := List.length_filter_le (fun x => f x.n) (ls.take k)
        have := List.length_take_le k ls
        omega
      rw [hl0] at hst hown
      obtain ⟨bq, hbq⟩ : ∃ bq, f x.n = bq := ⟨_, rfl⟩
      rw [hbq] at hst hfx
      have HFX := Lib.hid hfx
      have n1 : (0 : Int) ≤ (k : Int) := by omega
      have n2 : (k : Int) < (n : Int) := by omega
      have hb2 := hb.alloc hb.size (.cells #[.string x.n, .string x.v] 31)
      have hown2 := hown.alloc (.cells #[.string x.n, .string x.v] 31)
      have hk2 := alloc_new wr (.cells #[.string x.n, .string x.v] 31)
      clear hx hc hl0 hfx hbq
      go_wp2_with (go_at_call 77; refine (HFX.out _ hb2).mono ?_)
      first | rintro e w3 rfl hb3 | rintro e w3 ⟨rfl, hb3⟩
      have hk3 := below_kept hb3 hk2 (by simp)
      have d0 : w3.cell? ⟨wr.heap.size, 0, none⟩ = some (.string x.n) := by rw [Lib.cell_of_heap hk3]; rfl
      have d1 : w3.cell? ⟨wr.heap.size, 1, none⟩ = some (.string x.v) := by rw [Lib.cell_of_heap hk3]; rfl
      have hb4 : Below w.heap.size w w3 := hb2.trans (hb3.mono hb2.size)
      have hown3 := hown2.below hb3 (Nat.le_refl _)
      have hlt3 : wr.heap.size < w3.heap.size := lt_of_heap hk3
      clear hk2 hk3 hb3 hown2 hown hb2 hb HFX
      cases bq
      · rw [if_neg (by simp)] at hst
        have HST := Lib.hid hst
        clear hst
        go_wp2_with fail
        go_roundw
        case rel => exact ⟨k + 1, by omega, by go_num, by rw [HST.out]; exact hown3, hb4⟩
        case measure => simp [intOf]; omega
      · rw [if_pos rfl] at hst
        have HST := Lib.hid hst
        clear hst
        go_wp2_with (at_builtin; refine wpList_pushL 25 Tryz.underlying25 rfl _ _ rfl _ _ _ _ rfl hown3 x _ _ rfl _ rfl (by simp) ?d1 ?d2 ?_)
        case d1 => omega
        case d2 => exact hb4.size
        intro v6 w6 hown6 hg6
        have hb6 := below_push _ hb4 hown3 hg6
        go_wp2_with fail
        go_roundw
        case rel => exact ⟨k + 1, by omega, by go_num, by rw [HST.out]; exact hown6, hb6⟩
        case measure => simp [intOf]; omega
    · have he : ls.take k = ls := List.take_of_length_le (by rw [HN.out]; omega)
      rw [he, HR.out] at hown
      have n2 : (n : Int) ≤ (k : Int) := by omega
      clear he
      go_wp2_with fail
      go_ret2
      exact ⟨⟨_, rfl, hown⟩, hb⟩

set_option maxHeartbeats 1600000 in
set_option maxRecDepth 100000 in
theorem filterWithout_is (f : ByteArray → Bool) (bx : Nat) (p : Option Addr) (ls : List Lab.L) (n c : Nat) (r : List Lab.L) (er : Int) (h : (if Lab.right ls = true then (ls.filter (fun x => f x.n), 0) else ([], 44)) = (r, er)) (w : World) (hn : ls.length = n) (hA : Lab.At p ls w) (hF : Lab.Fit maxLen ls) (hl : n ≤ 10000)
    (hf : ∀ x ∈ ls, ∀ w', Below w.heap.size w w' → Calls Tryz.prog 78 #[.string x.n, .pointer (some ⟨bx, 0, none⟩)] w' fun e w'' => e = .returned (.bool (f x.n)) ∧ Below w'.heap.size w' w'') :
    Calls Tryz.prog 74 #[.slice p n c, .func (.func 78) #[] #[.pointer (some ⟨bx, 0, none⟩)]] w fun e w' => (∃ v, e = .returned (.tuple #[v, .int .i64 er]) ∧ OwnLabels w.heap.size v r w') ∧ Below w.heap.size w w' := by
  obtain ⟨ra, hra⟩ : ∃ ra, Lab.right ls = ra := ⟨_, rfl⟩
  have R1 := Lib.hid (right_is p ls n c ra hra w hn hA hF (by unfold maxLen; omega))
  have HN := Lib.hid hn
  have HA := Lib.hid hA
  have HFF := Lib.hid hf
  have HT := Lib.hid (fun k h => Lab.filter_take ls f k h)
  rw [hra] at h
  clear hra hn hF hA hf
  cases ra
  · rw [if_neg (by simp)] at h
    simp only [Prod.mk.injEq] at h
    obtain ⟨rfl, rfl⟩ := h
    go_enter Tryz.func74, Tryz.ntmps74
    go_wp2_with (go_at_call 20; refine R1.out.mono ?_)
    first | rintro e w1 rfl hb1 | rintro e w1 ⟨rfl, hb1⟩
    go_wp2_with fail
    go_ret2
    exact ⟨⟨_, rfl, OwnLabels.nil _ _⟩, hb1⟩
  rw [if_pos rfl] at h
  simp only [Prod.mk.injEq] at h
  obtain ⟨hr, rfl⟩ := h
  have HR := Lib.hid hr
  clear hr
  go_enter Tryz.func74, Tryz.ntmps74
  go_wp2_with (go_at_call 20; refine R1.out.mono ?_)
  first | rintro e w1 rfl hb1 | rintro e w1 ⟨rfl, hb1⟩
  clear R1
  go_wp2_with fail
  go_loopw [6, 14] (fun v i wr => ∃ k : Nat, k ≤ n ∧ i = .int .i64 (k : Int) ∧ OwnLabels w.heap.size v ((ls.take k).filter (fun x => f x.n)) wr ∧ Below w.heap.size w wr) (fun _ i _ => n - (intOf i).toNat)
  case atStart => exact ⟨0, Nat.zero_le _, rfl, OwnLabels.nil _ _, hb1⟩
  case round =>
    obtain ⟨k, hk, rfl, hown, hb⟩ := hrel
    by_cases hlt : k < n
    · have hkl : k < ls.length := by rw [HN.out]; exact hlt
      obtain ⟨b, o, rfl, hc⟩ := (HA.out.below hb (Nat.le_refl _)).open k hkl
      have hst := HT.out k hkl
      have hfx := HFF.out ls[k] (List.getElem_mem _)
      obtain ⟨x, hx⟩ : ∃ x, ls[k] = x := ⟨_, rfl⟩
      have c0 := (hc k hkl).1
      have c1 := (hc k hkl).2
      rw [hx] at c0 c1 hst hfx
      have hbx : b < wr.heap.size := World.block_lt_of_cell? _ _ c0
      obtain ⟨l0, hl0⟩ : ∃ l0, (ls.take k).filter (fun x => f x.n) = l0 := ⟨_, rfl⟩
      have hll : l0.length ≤ 10000 := by
        rw [← hl0]
        have := List.length_filter_le (fun x => f x.n) (ls.take k)
        have := List.length_take_le k ls
        omega
      rw [hl0] at hst hown
      obtain ⟨bq, hbq⟩ : ∃ bq, f x.n = bq := ⟨_, rfl⟩
      rw [hbq] at hst hfx
      have HFX := Lib.hid hfx
      have n1 : (0 : Int) ≤ (k : Int) := by omega
      have n2 : (k : Int) < (n : Int) := by omega
      have hb2 := hb.alloc hb.size (.cells #[.string x.n, .string x.v] 31)
      have hown2 := hown.alloc (.cells #[.string x.n, .string x.v] 31)
      have hk2 := alloc_new wr (.cells #[.string x.n, .string x.v] 31)
      clear hx hc hl0 hfx hbq
      go_wp2_with (go_at_call 78; refine (HFX.out _ hb2).mono ?_)
      first | rintro e w3 rfl hb3 | rintro e w3 ⟨rfl, hb3⟩
      have hk3 := below_kept hb3 hk2 (by simp)
      have d0 : w3.cell? ⟨wr.heap.size, 0, none⟩ = some (.string x.n) := by rw [Lib.cell_of_heap hk3]; rfl
      have d1 : w3.cell? ⟨wr.heap.size, 1, none⟩ = some (.string x.v) := by rw [Lib.cell_of_heap hk3]; rfl
      have hb4 : Below w.heap.size w w3 := hb2.trans (hb3.mono hb2.size)
      have hown3 := hown2.below hb3 (Nat.le_refl _)
      have hlt3 : wr.heap.size < w3.heap.size := lt_of_heap hk3
      clear hk2 hk3 hb3 hown2 hown hb2 hb HFX
      cases bq
      · rw [if_neg (by simp)] at hst
        have HST := Lib.hid hst
        clear hst
        go_wp2_with fail
        go_roundw
        case rel => exact ⟨k + 1, by omega, by go_num, by rw [HST.out]; exact hown3, hb4⟩
        case measure => simp [intOf]; omega
      · rw [if_pos rfl] at hst
        have HST := Lib.hid hst
        clear hst
        go_wp2_with (at_builtin; refine wpList_pushL 25 Tryz.underlying25 rfl _ _ rfl _ _ _ _ rfl hown3 x _ _ rfl _ rfl (by simp) ?d1 ?d2 ?_)
        case d1 => omega
        case d2 => exact hb4.size
        intro v6 w6 hown6 hg6
        have hb6 := below_push _ hb4 hown3 hg6
        go_wp2_with fail
        go_roundw
        case rel => exact ⟨k + 1, by omega, by go_num, by rw [HST.out]; exact hown6, hb6⟩
        case measure => simp [intOf]; omega
    · have he : ls.take k = ls := List.take_of_length_le (by rw [HN.out]; omega)
      rw [he, HR.out] at hown
      have n2 : (n : Int) ≤ (k : Int) := by omega
      clear he
      go_wp2_with fail
      go_ret2
      exact ⟨⟨_, rfl, hown⟩, hb⟩
end Go.Proofs.YtbilaghljlobpaaGreat
