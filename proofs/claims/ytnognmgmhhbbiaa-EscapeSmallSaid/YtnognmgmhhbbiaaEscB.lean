/- Contract of write: the forms of a string. -/
import Derived.Test.YtnognmgmhhbbiaaEscA
namespace Go.Proofs.Ytnognmgmhhbbiaa
open Go.RowKit

set_option maxHeartbeats 400000 in
theorem write_long (s : ByteArray) (n : Int) (w : World) (hs : 65536 < s.size) (hm : s.size ≤ maxLen) :
    Calls Try.prog 24 #[.string s, .int .i64 n] w fun e w' => e = .returned (.tuple #[.string ⟨#[]⟩, .int .i64 3]) ∧ Below w.heap.size w w' := by
  unfold maxLen at hm
  go_enter Try.func24, Try.ntmps24
  go_wp2
  go_ret2
  exact ⟨rfl, (Below.refl _ _).alloc (Nat.le_refl _) _⟩

theorem take_snoc (s : ByteArray) (k : Nat) (h : k < s.size) : s.data.toList.take (k + 1) = s.data.toList.take k ++ [s[k]] := by
  rw [List.take_succ_eq_append_getElem (by simpa using h)]; rfl

set_option maxHeartbeats 400000 in
theorem write_any (v : Bool) (s : ByteArray) (w : World) (hs : s.size ≤ 65536) :
    Calls Try.prog 24 #[.string s, .int .i64 (if v then 3 else 2)] w fun e w' => e = .returned (.tuple #[.string ⟨(Esc.form v s.data.toList).toArray⟩, .int .i64 0]) ∧ Below w.heap.size w w' := by
  obtain ⟨n, hn⟩ : ∃ n : Int, n = (if v then 3 else 2) := ⟨_, rfl⟩
  rw [← hn]
  have Hn := Lib.hid hn
  clear hn
  go_enter Try.func24, Try.ntmps24
  go_wp2_with (go_at_call 37; refine (pairs_any _).mono ?_)
  rintro e w1 ⟨rfl, hb1⟩
  have hs1 := hb1.size
  simp only [World.size_alloc] at hs1
  go_wp2
  have hN1 : w1.heap[w.heap.size]? = some (.cells #[.int .i64 n] 3) := by
    rw [hb1.block _ (by simp; omega)]
    exact alloc_kept (alloc_new _ _)
  have hb0 : Lib.IsBuilderF 55 5 (w.heap.size + 1) (w.heap.size + 1) [] w1 :=
    fresh_at (Nat.le_refl _) (below_kept hb1 (by simpa using alloc_new (w.alloc _) _) (by simp))
  have hbw : Below w.heap.size w w1 := (((Below.refl _ w).alloc (Nat.le_refl _) _).alloc (by simp) _).trans (hb1.mono (by simp; omega))
  have Hf : Hid (∀ k (h : k < s.size), Esc.form v (s.data.toList.take (k + 1)) = Esc.form v (s.data.toList.take k) ++ Esc.enc v s[k]) := by
    intro k h
    rw [take_snoc s k h, Esc.form_append]
    simp [Esc.form]
  go_loopw [17] (fun i wr => ∃ k : Nat, k ≤ s.size ∧ i = .int .i64 k ∧ wr.heap[w1.heap.size]? = some pairsObj ∧ wr.heap[w.heap.size]? = some (.cells #[.int .i64 n] 3) ∧
      Lib.IsBuilderF 55 5 (w.heap.size + 1) (w.heap.size + 1) (Lib.byteCells (Esc.form v (s.data.toList.take k))) wr ∧ Below w.heap.size w wr ∧ w1.heap.size + 1 ≤ wr.heap.size) (fun i _ => s.size - (intOf i).toNat)
  case atStart => exact ⟨0, Nat.zero_le _, rfl, alloc_new _ _, alloc_kept hN1, hb0.alloc _, hbw.alloc (by omega) _, by simp⟩
  case round =>
    obtain ⟨k, hk, rfl, hA, hN, hB, hbl, hsz⟩ := hrel
    by_cases hlt : k < s.size
    · have hf := Esc.form_le v (s.data.toList.take k)
      have hl : (s.data.toList.take k).length ≤ k := List.length_take_le _ _
      go_wp2_with (go_at_call 39; refine (put_any v _ _ _ _ _ s[k] _ hA (by rw [← Hn.out]; exact hN) hB (by omega) (by omega)).mono ?_)
      rintro e w2 ⟨rfl, hB2, hl2, hk2⟩
      have hs2 := hl2.size
      go_wp2
      go_roundw
      case rel => exact ⟨k + 1, by omega, by go_num, kept_cells hk2 hA (by omega) (by decide), kept_cells hk2 hN (by omega) (by decide), by rw [Hf.out k hlt]; exact hB2, hbl.trans (hl2.mono (by omega)), by omega⟩
      case measure => simp [intOf]; omega
    · have hks : k = s.size := by omega
      have ht : s.data.toList.take k = s.data.toList := List.take_of_length_le (by simp; omega)
      rw [ht] at hB
      clear ht hks
      go_wp2_with (go_at_call 36; refine (Try.Builder_String_any_k _ _ _ _ hB (by omega)).mono ?_)
      rintro e w2 ⟨rfl, hB2, hl2, hk2⟩
      go_wp2
      go_ret2
      exact ⟨rfl, hbl.trans (hl2.mono (by omega))⟩
end Go.Proofs.Ytnognmgmhhbbiaa
