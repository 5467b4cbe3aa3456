/- Contracts: slices.Index, slices.Contains (strings); label.Keep, Drop, Without. -/
import Derived.Test.YtbilaghljlobpaaGreatL4H
namespace Go.Proofs.YtbilaghljlobpaaGreat
open Go.RowKit

/-- behind p lie strings -/
def Txt.At (p : Option Addr) (xs : List ByteArray) (w : World) : Prop :=
  xs = [] ∨ ∃ b o, p = some ⟨b, o, none⟩ ∧ ∀ i (h : i < xs.length), w.cell? ⟨b, o + i, none⟩ = some (.string xs[i])
theorem Txt.At.below {p : Option Addr} {xs : List ByteArray} {w w' : World} {C : Nat} (h : Txt.At p xs w) (hb : Below C w w') (hC : w.heap.size ≤ C) : Txt.At p xs w' := by
  rcases h with h | ⟨b, o, hp, hc⟩
  · exact .inl h
  · exact .inr ⟨b, o, hp, fun i hi => cell_later hb (hc i hi) hC⟩
theorem Txt.At.open {p : Option Addr} {xs : List ByteArray} {w : World} (h : Txt.At p xs w) (k : Nat) (hk : k < xs.length) : ∃ b o, p = some ⟨b, o, none⟩ ∧ ∀ i (h : i < xs.length), w.cell? ⟨b, o + i, none⟩ = some (.string xs[i]) := by
  rcases h with rfl | h
  · simp at hk
  · exact h
def Lab.has (xs : List ByteArray) (s : ByteArray) : Bool := xs.any fun x => decide (Lab.bs s = Lab.bs x)
def Lab.Idx (b : Bool) (w : World) (e : Ending) (w' : World) : Prop := ∃ i : Int, e = .returned (.int .i64 i) ∧ decide (0 ≤ i) = b ∧ w = w'
theorem Lab.has_drop (xs : List ByteArray) (s : ByteArray) (k : Nat) (h : k < xs.length) : Lab.has (xs.drop k) s = (decide (Lab.bs s = Lab.bs xs[k]) || Lab.has (xs.drop (k + 1)) s) := by
  rw [List.drop_eq_getElem_cons h]; rfl

set_option maxHeartbeats 1600000 in
set_option maxRecDepth 100000 in
theorem sindex_is (p : Option Addr) (xs : List ByteArray) (n c : Nat) (s : ByteArray) (b : Bool) (h : Lab.has xs s = b) (w : World) (hn : xs.length = n) (hA : Txt.At p xs w) (hl : n ≤ 100000) :
    Calls Tryz.prog 93 #[.slice p n c, .string s] w (Lab.Idx b w) := by
  have HN := Lib.hid hn
  have HD := Lib.hid (fun k h => Lab.has_drop xs s k h)
  have H0 : Hid (Lab.has (xs.drop 0) s = b) := h
  have HA := Lib.hid hA
  clear hn h hA
  go_enter Tryz.func93, Tryz.ntmps93
  go_wp2_with fail
  go_loop [8] (fun i => ∃ k : Nat, k ≤ n ∧ i = .int .i64 (k : Int) ∧ Hid (Lab.has (xs.drop k) s = b)) (fun i => n - (intOf i).toNat)
  case atStart => exact ⟨0, Nat.zero_le _, rfl, H0⟩
  case round =>
    obtain ⟨k, hk, rfl, HK⟩ := hrel
    by_cases hlt : k < n
    · have hkl : k < xs.length := by rw [HN.out]; exact hlt
      obtain ⟨b0, o, rfl, hc⟩ := HA.out.open k hkl
      have hst := HK.out
      rw [HD.out k hkl] at hst
      have c0 := hc k hkl
      obtain ⟨x, hx⟩ : ∃ x, xs[k] = x := ⟨_, rfl⟩
      rw [hx] at c0 hst
      obtain ⟨bq, hbq⟩ : ∃ bq, decide (Lab.bs s = Lab.bs x) = bq := ⟨_, rfl⟩
      have q1 : (s.toList == x.toList) = bq := by rw [← hbq]; exact Lab.bytes_beq _ _
      rw [hbq] at hst
      have n1 : (0 : Int) ≤ (k : Int) := by omega
      have n2 : (k : Int) < (n : Int) := by omega
      clear hx hc HK hbq
      cases bq
      · rw [Bool.false_or] at hst
        have HG := Lib.hid hst
        clear hst
        go_wp2_with fail
        go_round
        case rel => exact ⟨k + 1, by omega, by go_num, HG⟩
        case measure => simp [intOf]; omega
      · rw [Bool.true_or] at hst
        subst hst
        go_wp2_with fail
        go_ret
        exact ⟨_, rfl, decide_eq_true n1, rfl⟩
    · have hst := HK.out
      rw [List.drop_eq_nil_iff.2 (by rw [HN.out]; omega)] at hst
      have n2 : (n : Int) ≤ (k : Int) := by omega
      subst hst
      clear HK H0
      go_wp2_with fail
      go_ret
      exact ⟨_, rfl, rfl, rfl⟩
set_option maxHeartbeats 1600000 in
theorem scontains_is (p : Option Addr) (xs : List ByteArray) (n c : Nat) (s : ByteArray) (b : Bool) (h : Lab.has xs s = b) (w : World) (hn : xs.length = n) (hA : Txt.At p xs w) (hl : n ≤ 100000) :
    Calls Tryz.prog 76 #[.slice p n c, .string s] w fun e w' => e = .returned (.bool b) ∧ w = w' := by
  have HI := Lib.hid (sindex_is p xs n c s b h w hn hA hl)
  clear h hn hA
  go_enter Tryz.func76, Tryz.ntmps76
  go_wp2_with (go_at_call 93; refine HI.out.mono ?_; rintro e w' ⟨i, rfl, hi, rfl⟩)
  go_wp2_with fail
  go_ret
  first | exact ⟨by rw [hi], rfl⟩ | exact ⟨rfl, rfl⟩
set_option maxHeartbeats 1600000 in
theorem keep1_is (bx : Nat) (p : Option Addr) (xs : List ByteArray) (n c : Nat) (s : ByteArray) (b : Bool) (h : Lab.has xs s = b) (w : World) (hn : xs.length = n) (hA : Txt.At p xs w) (hl : n ≤ 100000) (hc : w.cell? ⟨bx, 0, none⟩ = some (.slice p n c)) :
    Calls Tryz.prog 75 #[.string s, .pointer (some ⟨bx, 0, none⟩)] w fun e w' => e = .returned (.bool b) ∧ Below w.heap.size w w' := by
  have HI := Lib.hid (scontains_is p xs n c s b h w hn hA hl)
  clear h hn hA
  go_enter Tryz.func75, Tryz.ntmps75
  go_wp2_with (go_at_call 76; refine HI.out.mono ?_)
  try rintro _ _ ⟨rfl, rfl⟩
  go_wp2_with fail
  go_ret
  exact ⟨rfl, Below.refl _ _⟩
set_option maxHeartbeats 1600000 in
theorem drop1_is (bx : Nat) (p : Option Addr) (xs : List ByteArray) (n c : Nat) (s : ByteArray) (b : Bool) (h : Lab.has xs s = b) (w : World) (hn : xs.length = n) (hA : Txt.At p xs w) (hl : n ≤ 100000) (hc : w.cell? ⟨bx, 0, none⟩ = some (.slice p n c)) :
    Calls Tryz.prog 77 #[.string s, .pointer (some ⟨bx, 0, none⟩)] w fun e w' => e = .returned (.bool (!b)) ∧ Below w.heap.size w w' := by
  have HI := Lib.hid (scontains_is p xs n c s b h w hn hA hl)
  clear h hn hA
  go_enter Tryz.func77, Tryz.ntmps77
  go_wp2_with (go_at_call 76; refine HI.out.mono ?_)
  try rintro _ _ ⟨rfl, rfl⟩
  go_wp2_with fail
  go_ret
  exact ⟨rfl, Below.refl _ _⟩
def Lab.filt (f : ByteArray → Bool) (ls : List Lab.L) : List Lab.L × Int := if Lab.right ls = true then (ls.filter (fun x => f x.n), 0) else ([], 44)
set_option maxHeartbeats 1600000 in
theorem lkeep_is (p q : Option Addr) (ls : List Lab.L) (xs : List ByteArray) (n c n2 c2 : Nat) (r : List Lab.L) (er : Int) (h : Lab.filt (Lab.has xs) ls = (r, er)) (w : World) (hn : ls.length = n) (hn2 : xs.length = n2) (hA : Lab.At p ls w) (hB : Txt.At q xs w) (hF : Lab.Fit maxLen ls) (hl : n ≤ 10000) (hl2 : n2 ≤ 10000) :
    Calls Tryz.prog 36 #[.slice p n c, .slice q n2 c2] w fun e w' => (∃ v, e = .returned (.tuple #[v, .int .i64 er]) ∧ OwnLabels w.heap.size v r w') ∧ Below w.heap.size w w' := by
  have hb0 : Below w.heap.size w (w.alloc (.cells #[.slice q n2 c2] 32)) := (Below.refl _ _).alloc (Nat.le_refl _) _
  have hc0 : (w.alloc (.cells #[.slice q n2 c2] 32)).cell? ⟨w.heap.size, 0, none⟩ = some (.slice q n2 c2) := by rw [Lib.cell_of_heap (alloc_new w _)]; rfl
  have HF := Lib.hid (filterKeep_is (Lab.has xs) w.heap.size p ls n c r er h (w.alloc (.cells #[.slice q n2 c2] 32)) hn (hA.alloc _) hF hl
    (fun x _ w' hw => keep1_is w.heap.size q xs n2 c2 x.n _ rfl w' hn2 ((hB.below hb0 (Nat.le_refl _)).below hw (Nat.le_refl _)) (by omega) (cell_later hw hc0 (Nat.le_refl _))))
  clear h hn hn2 hA hB hF hc0 hb0
  go_enter Tryz.func36, Tryz.ntmps36
  go_wp2_with (go_at_call 74; refine HF.out.mono ?_)
  first | rintro e w1 v rfl hv hb1 | rintro e w1 ⟨⟨v, rfl, hv⟩, hb1⟩
  go_wp2_with fail
  go_ret2
  exact ⟨⟨_, rfl, row_lift hv (by simp)⟩, ((Below.refl _ _).alloc (Nat.le_refl _) _).trans (hb1.mono (by simp))⟩
set_option maxHeartbeats 1600000 in
theorem ldrop_is (p q : Option Addr) (ls : List Lab.L) (xs : List ByteArray) (n c n2 c2 : Nat) (r : List Lab.L) (er : Int) (h : Lab.filt (fun s => !Lab.has xs s) ls = (r, er)) (w : World) (hn : ls.length = n) (hn2 : xs.length = n2) (hA : Lab.At p ls w) (hB : Txt.At q xs w) (hF : Lab.Fit maxLen ls) (hl : n ≤ 10000) (hl2 : n2 ≤ 10000) :
    Calls Tryz.prog 37 #[.slice p n c, .slice q n2 c2] w fun e w' => (∃ v, e = .returned (.tuple #[v, .int .i64 er]) ∧ OwnLabels w.heap.size v r w') ∧ Below w.heap.size w w' := by
  have hb0 : Below w.heap.size w (w.alloc (.cells #[.slice q n2 c2] 32)) := (Below.refl _ _).alloc (Nat.le_refl _) _
  have hc0 : (w.alloc (.cells #[.slice q n2 c2] 32)).cell? ⟨w.heap.size, 0, none⟩ = some (.slice q n2 c2) := by rw [Lib.cell_of_heap (alloc_new w _)]; rfl
  have HF := Lib.hid (filterDrop_is (fun s => !Lab.has xs s) w.heap.size p ls n c r er h (w.alloc (.cells #[.slice q n2 c2] 32)) hn (hA.alloc _) hF hl
    (fun x _ w' hw => drop1_is w.heap.size q xs n2 c2 x.n _ rfl w' hn2 ((hB.below hb0 (Nat.le_refl _)).below hw (Nat.le_refl _)) (by omega) (cell_later hw hc0 (Nat.le_refl _))))
  clear h hn hn2 hA hB hF hc0 hb0
  go_enter Tryz.func37, Tryz.ntmps37
  go_wp2_with (go_at_call 74; refine HF.out.mono ?_)
  first | rintro e w1 v rfl hv hb1 | rintro e w1 ⟨⟨v, rfl, hv⟩, hb1⟩
  go_wp2_with fail
  go_ret2
  exact ⟨⟨_, rfl, row_lift hv (by simp)⟩, ((Below.refl _ _).alloc (Nat.le_refl _) _).trans (hb1.mono (by simp))⟩
end Go.Proofs.YtbilaghljlobpaaGreat
