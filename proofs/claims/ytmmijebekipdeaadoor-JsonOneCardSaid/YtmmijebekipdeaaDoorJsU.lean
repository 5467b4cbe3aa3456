/- Contract of json.valid: the first byte that belongs to no code point. -/
import Derived.Test.YtmmijebekipdeaaDoorJsM
import Derived.Lib.DecodeN
import Derived.Lib.OthersKept
import Derived.Deep.LoopGhost
import Derived.Shelf.Strings.MapAny
import Derived.BigQuiet
namespace Go.Proofs.YtmmijebekipdeaaDoor
open Go.RowKit
set_option maxRecDepth 100000

def Js.runeN (c c1 c2 c3 : Nat) : Nat :=
  if c < 128 then 1
  else if 194 ≤ c ∧ c ≤ 223 then (if 128 ≤ c1 ∧ c1 ≤ 191 then 2 else 0)
  else if 224 ≤ c ∧ c ≤ 239 then
    (if 128 ≤ c1 ∧ c1 ≤ 191 ∧ 128 ≤ c2 ∧ c2 ≤ 191 ∧ (c ≠ 224 ∨ 160 ≤ c1) ∧ (c ≠ 237 ∨ c1 < 160) then 3 else 0)
  else if 240 ≤ c ∧ c ≤ 244 then
    (if 128 ≤ c1 ∧ c1 ≤ 191 ∧ 128 ≤ c2 ∧ c2 ≤ 191 ∧ 128 ≤ c3 ∧ c3 ≤ 191 ∧ (c ≠ 240 ∨ 144 ≤ c1) ∧ (c ≠ 244 ∨ c1 < 144) then 4 else 0)
  else 0
theorem Js.rune_eq (s : ByteArray) (k : Nat) : Js.rune s k = Js.runeN (Js.nx s k) (Js.nx s (k + 1)) (Js.nx s (k + 2)) (Js.nx s (k + 3)) := by
  unfold Js.rune Js.runeN
  simp only [Bool.and_eq_true, Bool.or_eq_true, decide_eq_true_eq, bne_iff_ne, and_assoc]
set_option maxHeartbeats 4000000 in
theorem Js.runeN_decode (n b0 b1 b2 b3 : Nat) (h0 : b0 < 256) (h1 : b1 < 256) (h2 : b2 < 256) (h3 : b3 < 256) (g1 : 128 ≤ b1 → 1 < n) (g2 : 128 ≤ b2 → 2 < n) (g3 : 128 ≤ b3 → 3 < n) :
    (Js.runeN b0 b1 b2 b3 = 0 → Go.Lib.decodeN n b0 b1 b2 b3 = (65533, 1)) ∧
    (Js.runeN b0 b1 b2 b3 ≠ 0 → (Go.Lib.decodeN n b0 b1 b2 b3).2 = Js.runeN b0 b1 b2 b3 ∧ ((Go.Lib.decodeN n b0 b1 b2 b3).1 = 65533 → Js.runeN b0 b1 b2 b3 = 3)) := by
  obtain ⟨r, hr⟩ : ∃ r, Js.runeN b0 b1 b2 b3 = r := ⟨_, rfl⟩
  obtain ⟨d, hd⟩ : ∃ d, Go.Lib.decodeN n b0 b1 b2 b3 = d := ⟨_, rfl⟩
  rw [hr, hd]
  unfold Js.runeN at hr
  unfold Go.Lib.decodeN at hd
  obtain ⟨d1, d2⟩ := d
  have goal : (r = 0 → d1 = 65533 ∧ d2 = 1) ∧ (r ≠ 0 → d2 = r ∧ (d1 = 65533 → r = 3)) := by
    split at hd
    · simp only [Prod.mk.injEq] at hd
      split at hr <;> omega
    · split at hd
      · split at hd <;> simp only [Prod.mk.injEq] at hd <;> (repeat' split at hr) <;> omega
      · split at hd
        · split at hd <;> simp only [Prod.mk.injEq] at hd <;> (repeat' split at hr) <;> omega
        · split at hd
          · split at hd <;> simp only [Prod.mk.injEq] at hd <;> (repeat' split at hr) <;> omega
          · simp only [Prod.mk.injEq] at hd
            (repeat' split at hr) <;> omega
  exact ⟨fun h => by rw [(goal.1 h).1, (goal.1 h).2], fun h => goal.2 h⟩

theorem Js.nx_get! (s : ByteArray) (k : Nat) : Js.nx s k = (s.get! k).toNat := by
  unfold Js.nx
  by_cases h : k < s.size
  · rw [dif_pos h]
    congr 1
    exact (Utf8W.get!_of_lt s k h).symm
  · rw [dif_neg h]
    have : s.get! k = default := by
      show s.data[k]! = default
      rw [getElem!_neg s.data k (by simpa using h)]
    rw [this]
    rfl
theorem Js.decode_rune (s : ByteArray) (i : Nat) : (Js.rune s i = 0 → Utf8.decode s i = (65533, 1)) ∧ (Js.rune s i ≠ 0 → (Utf8.decode s i).2 = Js.rune s i ∧ ((Utf8.decode s i).1 = 65533 → Js.rune s i = 3)) := by
  rw [Js.rune_eq, Lib.decode_at, ← Js.nx_get!, ← Js.nx_get!, ← Js.nx_get!, ← Js.nx_get!]
  have hn : ∀ k, 128 ≤ Js.nx s k → k < s.size := fun k h => Nat.lt_of_not_le fun hh => by have := Js.nx_end s k hh; omega
  exact Js.runeN_decode _ _ _ _ _ (Js.nx_lt s _) (Js.nx_lt s _) (Js.nx_lt s _) (Js.nx_lt s _) (fun h => by have := hn _ h; omega) (fun h => by have := hn _ h; omega) (fun h => by have := hn _ h; omega)
def Js.badI : Option Nat → Int
  | none => -1
  | some k => k

set_option maxHeartbeats 4000000 in
theorem Js.valid_is (s : ByteArray) (w : World) (hT : Lib.Utf8Tabs 0 1 w) :
    Calls Tryd.prog 50 #[.string s] w fun e w' => e = .returned (.int .i64 (Js.badI (Js.bad8 s))) ∧ Below w.heap.size w w' := by
  obtain ⟨r, hr⟩ : ∃ r : Int, Js.badI (Js.bad8 s) = r := ⟨_, rfl⟩
  rw [hr]
  have HR : Hid (Js.badI (Js.badF s s.size 0) = r) := hr
  have HT := Lib.hid hT
  clear hr hT
  go_enter Tryd.func50, Tryd.ntmps50
  go_wp2
  go_loopg [] (s.size + 1) (fun gk wr => ∃ i f : Nat, s.size < gk + i ∧ s.size ≤ f + i ∧ Hid (Js.badI (Js.badF s f i) = r) ∧ Hid (wr.heap[w.heap.size]? = some (.stringIter s i)) ∧ Hid (Below w.heap.size w wr))
  case atStart => exact ⟨0, s.size, by omega, by omega, HR.out, World.iter_heap w s 0, (Below.refl _ w).alloc (Nat.le_refl _) _⟩
  case round =>
    clear HR
    obtain ⟨i, f, hg, hf, HR, HI, HB⟩ := hrel
    have hlI := (Array.getElem?_eq_some_iff.1 HI.out).1
    have hsz := HB.out.size
    by_cases h : i < s.size
    · have hnx : ∀ ty, (Instr.next (.pointer (some ⟨w.heap.size, 0, none⟩)) true ty).run Tryd.prog wr = _ := fun ty => Lib.run_next_any_at wr w.heap.size s i ty HI.out h
      obtain ⟨f', rfl⟩ : ∃ f', f = f' + 1 := ⟨f - 1, by omega⟩
      have HR2 : Hid (Js.badI (if Js.rune s i = 0 then some i else Js.badF s f' (i + Js.rune s i)) = r) := by
        have h9 : _ = r := HR.out
        rw [Js.badF, if_neg (by omega)] at h9
        exact h9
      obtain ⟨hd0, hd1⟩ := Js.decode_rune s i
      have hdg := Lib.decodeGo_extract s i h
      have i0 : (0 : Int) ≤ i := by omega
      have i1 : (i : Int) ≤ s.size := by omega
      obtain ⟨W1, hW1⟩ : ∃ W1, wr.iterAt w.heap.size s (i + (Utf8.decode s i).2) = W1 := ⟨_, rfl⟩
      have HB1 : Hid (Below w.heap.size w W1) := by subst hW1; exact Lib.below_iterAt HB.out (Nat.le_refl _) _ _
      have HI1 : Hid (W1.heap[w.heap.size]? = some (.stringIter s (i + (Utf8.decode s i).2))) := by subst hW1; exact Lib.iterAt_heap wr w.heap.size s i _ HI.out
      have hsz1 := HB1.out.size
      have hl1 := (Array.getElem?_eq_some_iff.1 HI1.out).1
      have HD := Lib.hid (Tryd.utf8_DecodeRuneInString (s.extract i s.size) W1 (Utf8Tabs_below HT.out HB1.out))
      rw [hdg] at HD
      rw [hW1] at hnx
      clear hW1 HR hdg
      obtain ⟨D, hD⟩ : ∃ D, Utf8.decode s i = D := ⟨_, rfl⟩
      rw [hD] at hnx hd0 hd1 HI1 HD
      clear hD
      obtain ⟨d1, d2⟩ := D
      by_cases hr0 : Js.rune s i = 0
      · obtain ⟨rfl, rfl⟩ : d1 = 65533 ∧ d2 = 1 := by have := hd0 hr0; simpa using this
        have HE : Hid ((i : Int) = r) := by have h9 : _ = r := HR2.out; rw [if_pos hr0] at h9; exact h9
        clear hd0 hd1 hr0 HR2
        go_wp2_with (go_at_call 27; refine HD.out.mono ?_)
        first | rintro e w2 rfl b2 | rintro e w2 ⟨rfl, b2⟩
        go_wp2
        go_ret
        obtain rfl : _ = r := HE.out
        exact ⟨rfl, HB1.out.trans (b2.mono (by omega))⟩
      · obtain ⟨rfl, h3⟩ := hd1 hr0
        have HR3 : Hid (Js.badI (Js.badF s f' (i + Js.rune s i)) = r) := by have h9 : _ = r := HR2.out; rw [if_neg hr0] at h9; exact h9
        obtain ⟨g', rfl⟩ : ∃ g', gk = g' + 1 := ⟨gk - 1, by omega⟩
        have hr1 : 1 ≤ Js.rune s i := by omega
        clear hd0 hd1 hr0 HR2
        by_cases h65 : d1 = 65533
        · have e3 := h3 h65
          subst h65
          rw [e3] at HD HR3 HI1 hr1
          clear h3 e3
          go_wp2_with (go_at_call 27; refine HD.out.mono ?_)
          first | rintro e w2 rfl b2 | rintro e w2 ⟨rfl, b2⟩
          go_wp2
          go_roundg g'
          case measure => omega
          case rel => exact ⟨i + 3, f', by omega, by omega, HR3.out, (b2.block _ hl1).trans HI1.out, HB1.out.trans (b2.mono (by omega))⟩
        · have b1 : ((d1 : Int) == 65533) = false := by rw [beq_eq_false_iff_ne]; omega
          clear h3 h65 HD
          go_wp2
          go_roundg g'
          case measure => omega
          case rel => exact ⟨i + Js.rune s i, f', by omega, by omega, HR3.out, HI1.out, HB1.out⟩
    · have hnx : ∀ ty, (Instr.next (.pointer (some ⟨w.heap.size, 0, none⟩)) true ty).run Tryd.prog wr = _ := fun ty => Lib.run_next_end_at wr w.heap.size s i ty HI.out h
      have HE : Hid ((-1 : Int) = r) := by
        have h9 : _ = r := HR.out
        cases f with
        | zero => exact h9
        | succ f => rw [Js.badF, if_pos (by omega)] at h9; exact h9
      go_wp2
      go_ret
      obtain rfl : _ = r := HE.out
      exact ⟨rfl, HB.out⟩
end Go.Proofs.YtmmijebekipdeaaDoor
