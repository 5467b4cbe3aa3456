/- The walk of EscapeSmall. -/
import Derived.Test.YtnognmgmhhbbiaaEscTells
import Derived.Test.YtnognmgmhhbbiaaEscBack
namespace Go.Proofs.Ytnognmgmhhbbiaa
open Go.RowKit

/-- the seven signs -/
def signs : Array Value := #[.string ⟨#[]⟩, .string ⟨#[97]⟩, .string ⟨#[110]⟩, .string ⟨#[92]⟩, .string ⟨#[34]⟩, .string ⟨#[10]⟩, .string ⟨#[0]⟩]
theorem sign_at (i : Nat) (h : i < 7) : ∃ x : ByteArray, signs[i]? = some (.string x) ∧ x.size ≤ 1 := by
  match i, h with
  | 0, _ => exact ⟨_, rfl, by decide⟩
  | 1, _ => exact ⟨_, rfl, by decide⟩
  | 2, _ => exact ⟨_, rfl, by decide⟩
  | 3, _ => exact ⟨_, rfl, by decide⟩
  | 4, _ => exact ⟨_, rfl, by decide⟩
  | 5, _ => exact ⟨_, rfl, by decide⟩
  | 6, _ => exact ⟨_, rfl, by decide⟩

theorem conv_one (x : UInt8) (u : World) : (convert 31 9 (.slice (some ⟨u.heap.size, 0, none⟩) 1 1)).run Try.prog (u.alloc (.cells #[.int .u8 (x.toNat : Int)] 5)) = .ok (.string ⟨#[x]⟩) (u.alloc (.cells #[.int .u8 (x.toNat : Int)] 5)) :=
  run_convert_bytes_back _ 31 9 5 ⟨u.heap.size, 0, none⟩ 1 [x] Try.underlying31 Try.underlying5 Try.underlying9 (by
    intro j hj
    obtain rfl : j = 0 := by simp at hj; omega
    simp [Addr.add])
theorem sz2 (c d : UInt8) : (ByteArray.mk #[c, d]).size = 2 := rfl
/-- the longest string of backslashes -/
def slashes (n : Nat) : List UInt8 := List.replicate n 92
theorem repeat_slashes (n : Nat) : Lib.repeatL [92] n = slashes n := by
  induction n with
  | zero => rfl
  | succ n ih => rw [Lib.repeatL, ih]; rfl
theorem form_slashes (v : Bool) (n : Nat) : Esc.form v (slashes n) = slashes (n + n) := by
  induction n with
  | zero => rfl
  | succ n ih =>
    show Esc.enc v 92 ++ Esc.form v (slashes n) = _
    rw [ih, enc_92, show n + 1 + (n + 1) = n + n + 1 + 1 by omega]; rfl
theorem long_ex : ∃ L : ByteArray, Hid (ByteArray.mk (Lib.repeatL (ByteArray.mk #[92]).data.toList 65536).toArray = L) ∧ Hid (L.data.toList = slashes 65536) := by
  refine ⟨_, rfl, ?_⟩
  show (Lib.repeatL [92] 65536).toArray.toList = slashes 65536
  rw [repeat_slashes]
theorem long_help (L : ByteArray) (h : Hid (L.data.toList = slashes 65536)) : (L ++ L).data.toList = Esc.form false L.data.toList := by
  rw [list_append, h.out, form_slashes, slashes, slashes, List.replicate_append_replicate]
theorem long_half (L : ByteArray) (h : Hid (L.data.toList = slashes 65536)) : (L.extract 0 32768).data.toList = slashes 32768 := by
  rw [Lib.extract_data, h.out, List.drop_zero]
  unfold slashes
  rw [List.take_replicate, show min (32768 - 0) 65536 = 32768 by decide]
theorem long_read (v : Bool) (L : ByteArray) (h : Hid (L.data.toList = slashes 65536)) : Esc.rd v false L.data.toList = .good (L.extract 0 32768).data.toList 65536 := by
  have e : slashes 65536 = Esc.form v (slashes 32768) := by rw [form_slashes]
  rw [long_half L h, h.out, e, Esc.rd_whole, ← e]
  unfold slashes
  rw [List.length_replicate]
section
variable (s : ByteArray) (w : World) (h : 65536 < s.size) (hm : s.size ≤ maxLen)
include h hm
theorem help_big : Calls Try.prog 14 #[.string s] w fun e w' => e = .returned (.tuple #[.string ⟨#[]⟩, .int .i64 3]) ∧ Below w.heap.size w w' := by
  have e : wrote false s = .tuple #[.string ⟨#[]⟩, .int .i64 3] := by unfold wrote; rw [if_neg (by omega)]
  rw [← e]; exact help_any s w hm
theorem value_big : Calls Try.prog 15 #[.string s] w fun e w' => e = .returned (.tuple #[.string ⟨#[]⟩, .int .i64 3]) ∧ Below w.heap.size w w' := by
  have e : wrote true s = .tuple #[.string ⟨#[]⟩, .int .i64 3] := by unfold wrote; rw [if_neg (by omega)]
  rw [← e]; exact value_any s w hm
theorem quote_big : Calls Try.prog 12 #[.string s] w fun e w' => e = .returned (.tuple #[.string ⟨#[]⟩, .int .i64 3]) ∧ Below w.heap.size w w' := by
  have e : quoted s = .tuple #[.string ⟨#[]⟩, .int .i64 3] := by unfold quoted; rw [if_neg (by omega)]
  rw [← e]; exact quote_any s w hm
theorem readHelp_big : Calls Try.prog 16 #[.string s] w fun e w' => e = .returned (.tuple #[.string ⟨#[]⟩, .int .i64 3]) ∧ Below w.heap.size w w' := by
  have e : readVal false s = .tuple #[.string ⟨#[]⟩, .int .i64 3] := by unfold readVal; rw [if_neg (by omega)]
  rw [← e]; exact readHelp_any s w hm
theorem readValue_big : Calls Try.prog 17 #[.string s] w fun e w' => e = .returned (.tuple #[.string ⟨#[]⟩, .int .i64 3]) ∧ Below w.heap.size w w' := by
  have e : readVal true s = .tuple #[.string ⟨#[]⟩, .int .i64 3] := by unfold readVal; rw [if_neg (by omega)]
  rw [← e]; exact readValue_any s w hm
theorem readQuote_big (at_ : Int) : Calls Try.prog 13 #[.string s, .int .i64 at_] w fun e w' => e = .returned (.tuple #[.string ⟨#[]⟩, .int .i64 0, .int .i64 3]) ∧ Below w.heap.size w w' := by
  have e : quoteVal s at_ = .tuple #[.string ⟨#[]⟩, .int .i64 0, .int .i64 3] := by unfold quoteVal; rw [if_neg (by omega)]
  rw [← e]; exact readQuote_any s at_ w hm
end
set_option maxHeartbeats 3200000 in
set_option maxRecDepth 100000 in
theorem walk_EscapeSmall (w : World) :
    Calls Try.prog 9 #[] w fun e w' => e = .returned (.bool true) ∧ Below w.heap.size w w' := by
  go_enter Try.func9, Try.ntmps9
  go_wp2
  go_loopw [29] (fun i wr => ∃ k : Nat, k ≤ 16807 ∧ i = .int .i64 k ∧ wr.heap[w.heap.size]? = some (.cells signs 9) ∧ Below w.heap.size w wr) (fun i _ => 16807 - (intOf i).toNat)
  case atStart => exact ⟨0, Nat.zero_le _, rfl, alloc_new _ _, (Below.refl _ w).alloc (Nat.le_refl _) _⟩
  case round =>
    obtain ⟨k, hk, rfl, hS, hbl⟩ := hrel
    by_cases hlt : k < 16807
    · obtain ⟨x0, h0, s0⟩ := sign_at (k % 7) (by omega)
      obtain ⟨x1, h1, s1⟩ := sign_at (k / 7 % 7) (by omega)
      obtain ⟨x2, h2, s2⟩ := sign_at (k / 49 % 7) (by omega)
      obtain ⟨x3, h3, s3⟩ := sign_at (k / 343 % 7) (by omega)
      obtain ⟨x4, h4, s4⟩ := sign_at (k / 2401) (by omega)
      have c0 : wr.cell? ⟨w.heap.size, k % 7, none⟩ = some (.string x0) := by rw [Lib.cell_of_heap hS]; exact h0
      have c1 : wr.cell? ⟨w.heap.size, k / 7 % 7, none⟩ = some (.string x1) := by rw [Lib.cell_of_heap hS]; exact h1
      have c2 : wr.cell? ⟨w.heap.size, k / 49 % 7, none⟩ = some (.string x2) := by rw [Lib.cell_of_heap hS]; exact h2
      have c3 : wr.cell? ⟨w.heap.size, k / 343 % 7, none⟩ = some (.string x3) := by rw [Lib.cell_of_heap hS]; exact h3
      have c4 : wr.cell? ⟨w.heap.size, k / 2401, none⟩ = some (.string x4) := by rw [Lib.cell_of_heap hS]; exact h4
      clear h0 h1 h2 h3 h4
      have HS := Lib.hid hS
      clear hS
      go_wp2
      go_quiet (fail)
      go_wp2_with (go_at_call 21; refine (tells_any _ _ _ (by simp only [ByteArray.size_append]; unfold maxLen; omega)).mono ?_)
      first | rintro e z1 rfl hb1 | rintro e z1 ⟨rfl, hb1⟩
      go_wp2_with (go_at_call 21; refine (tells_any _ _ _ (by simp only [ByteArray.size_append, sz1]; unfold maxLen; omega)).mono ?_)
      first | rintro e z2 rfl hb2 | rintro e z2 ⟨rfl, hb2⟩
      have hb3 := below_next hb1 hb2
      go_wp2
      go_roundw
      case rel => exact ⟨k + 1, by omega, by go_num, below_kept hb3 HS.out (lt_of_heap HS.out), below_next (below_drewN hbl _) hb3⟩
      case measure => simp [intOf]; omega
    · clear hS hk
      go_wp2
      go_loopw [77] (fun i wr => ∃ k : Nat, k ≤ 256 ∧ i = .int .i64 k ∧ Below w.heap.size w wr) (fun i _ => 256 - (intOf i).toNat)
      case atStart => exact ⟨0, by omega, rfl, hbl⟩
      case round =>
        clear hbl
        obtain ⟨j, hj, rfl, hbl⟩ := hrel
        by_cases hlj : j < 256
        · obtain ⟨x, hx⟩ : ∃ x : UInt8, Hid ((x.toNat : Int) = (j : Int)) := ⟨UInt8.ofNat j, by show ((UInt8.ofNat j).toNat : Int) = j; rw [UInt8.toNat_ofNat_of_lt' (by show j < 256; omega)]⟩
          have hcv := conv_one x wr
          rw [hx.out] at hcv
          have hb := hbl.alloc hbl.size (.cells #[.int .u8 (j : Int)] 5)
          clear hbl
          go_wp2_with (go_at_call 21; refine (tells_any _ _ _ (by rw [sz1]; decide)).mono ?_)
          first | rintro e z0 rfl hb1 | rintro e z0 ⟨rfl, hb1⟩
          replace hb := below_next hb hb1
          clear hb1
          go_wp2_with (go_at_call 21; refine (tells_any _ _ _ (by simp only [ByteArray.size_append, sz1]; unfold maxLen; omega)).mono ?_)
          first | rintro e z1 rfl hb1 | rintro e z1 ⟨rfl, hb1⟩
          replace hb := below_next hb hb1
          clear hb1
          go_wp2_with (go_at_call 21; refine (tells_any _ _ _ (by simp only [ByteArray.size_append, sz1]; unfold maxLen; omega)).mono ?_)
          first | rintro e z2 rfl hb1 | rintro e z2 ⟨rfl, hb1⟩
          replace hb := below_next hb hb1
          clear hb1
          go_wp2_with (go_at_call 21; refine (tells_any _ _ _ (by simp only [ByteArray.size_append, sz1, sz2]; unfold maxLen; omega)).mono ?_)
          first | rintro e z3 rfl hb1 | rintro e z3 ⟨rfl, hb1⟩
          replace hb := below_next hb hb1
          clear hb1
          go_wp2_with (go_at_call 21; refine (tells_any _ _ _ (by simp only [ByteArray.size_append, sz1, sz2]; unfold maxLen; omega)).mono ?_)
          first | rintro e z4 rfl hb1 | rintro e z4 ⟨rfl, hb1⟩
          replace hb := below_next hb hb1
          clear hb1
          go_wp2
          go_roundw
          case rel => exact ⟨j + 1, by omega, by go_num, hb⟩
          case measure => simp [intOf]; omega
        · have hb := hbl
          clear hbl
          go_wp2_with (go_at_call 22; refine (Try.strings_Repeat_main ⟨#[92]⟩ 65536 _ (by omega) (by omega) (by decide) (by decide)).mono ?_)
          first | rintro e u0 rfl hb1 | rintro e u0 ⟨rfl, hb1⟩
          replace hb := below_next hb hb1
          clear hb1
          obtain ⟨L, hL, hL1⟩ := long_ex
          rw [hL.out]
          have hLs : L.size ≤ 65536 := by rw [← len_list, hL1.out, slashes, List.length_replicate]; exact Nat.le_refl _
          have hLg : 65536 ≤ L.size := by rw [← len_list, hL1.out, slashes, List.length_replicate]; exact Nat.le_refl _
          clear hL
          go_wp2_with (go_at_call 14; refine (help_is L (L ++ L) (long_help L hL1) _ hLs).mono ?_)
          first | rintro e y0 rfl hb1 | rintro e y0 ⟨rfl, hb1⟩
          replace hb := below_next hb hb1
          clear hb1
          go_wp2_with (go_at_call 16; refine (readHelp_of L (L.extract 0 32768) _ (long_read false L hL1) _ hLs).mono ?_)
          first | rintro e y1 rfl hb1 | rintro e y1 ⟨rfl, hb1⟩
          replace hb := below_next hb hb1
          clear hb1
          go_wp2_with (go_at_call 17; refine (readValue_of L (L.extract 0 32768) _ (long_read true L hL1) _ hLs).mono ?_)
          first | rintro e y2 rfl hb1 | rintro e y2 ⟨rfl, hb1⟩
          replace hb := below_next hb hb1
          clear hb1
          go_wp2_with (go_at_call 14; refine (help_big _ _ (by simp only [ByteArray.size_append, sz1]; omega) (by simp only [ByteArray.size_append, sz1]; unfold maxLen; omega)).mono ?_)
          first | rintro e y3 rfl hb1 | rintro e y3 ⟨rfl, hb1⟩
          replace hb := below_next hb hb1
          clear hb1
          go_wp2_with (go_at_call 16; refine (readHelp_big _ _ (by simp only [ByteArray.size_append, sz1]; omega) (by simp only [ByteArray.size_append, sz1]; unfold maxLen; omega)).mono ?_)
          first | rintro e y4 rfl hb1 | rintro e y4 ⟨rfl, hb1⟩
          replace hb := below_next hb hb1
          clear hb1
          go_wp2_with (go_at_call 15; refine (value_big _ _ (by simp only [ByteArray.size_append, sz1]; omega) (by simp only [ByteArray.size_append, sz1]; unfold maxLen; omega)).mono ?_)
          first | rintro e y5 rfl hb1 | rintro e y5 ⟨rfl, hb1⟩
          replace hb := below_next hb hb1
          clear hb1
          go_wp2_with (go_at_call 17; refine (readValue_big _ _ (by simp only [ByteArray.size_append, sz1]; omega) (by simp only [ByteArray.size_append, sz1]; unfold maxLen; omega)).mono ?_)
          first | rintro e y6 rfl hb1 | rintro e y6 ⟨rfl, hb1⟩
          replace hb := below_next hb hb1
          clear hb1
          go_wp2_with (go_at_call 12; refine (quote_big _ _ (by simp only [ByteArray.size_append, sz1]; omega) (by simp only [ByteArray.size_append, sz1]; unfold maxLen; omega)).mono ?_)
          first | rintro e y7 rfl hb1 | rintro e y7 ⟨rfl, hb1⟩
          replace hb := below_next hb hb1
          clear hb1
          go_wp2_with (go_at_call 13; refine (readQuote_big _ _ (by simp only [ByteArray.size_append, sz1]; omega) (by simp only [ByteArray.size_append, sz1]; unfold maxLen; omega) _).mono ?_)
          first | rintro e y8 rfl hb1 | rintro e y8 ⟨rfl, hb1⟩
          replace hb := below_next hb hb1
          clear hb1
          go_wp2_with fail
          replace hb := hb.alloc hb.size (.cells #[.int .i64 3, .int .i64 3, .int .i64 3, .int .i64 3, .int .i64 3, .int .i64 3] 25)
          have hC := alloc_new y8 (.cells #[.int .i64 3, .int .i64 3, .int .i64 3, .int .i64 3, .int .i64 3, .int .i64 3] 25)
          generalize y8.alloc (.cells #[.int .i64 3, .int .i64 3, .int .i64 3, .int .i64 3, .int .i64 3, .int .i64 3] 25) = y9 at *
          have hcell : ∀ i, i < 6 → y9.cell? ⟨y8.heap.size, i, none⟩ = some (.int .i64 3) := by
            intro i hi
            rw [Lib.cell_of_heap hC]
            match i, hi with
            | 0, _ => rfl
            | 1, _ => rfl
            | 2, _ => rfl
            | 3, _ => rfl
            | 4, _ => rfl
            | 5, _ => rfl
          have HC := Lib.hid hcell
          clear hC hcell
          go_loop [200] (fun i => ∃ k : Nat, k ≤ 6 ∧ i = .int .i64 k) (fun i => 6 - (intOf i).toNat)
          case atStart => exact ⟨0, by omega, rfl⟩
          case round =>
            obtain ⟨m, hm, rfl⟩ := hrel
            by_cases hlm : m < 6
            · have hc := HC.out m hlm
              go_wp2
              go_round
              case rel => exact ⟨m + 1, by omega, by go_num⟩
              case measure => simp [intOf]; omega
            · go_wp2_with (go_at_call 21; refine (tells_any _ _ _ (by decide)).mono ?_)
              first | rintro e z1 rfl hb1 | rintro e z1 ⟨rfl, hb1⟩
              replace hb := below_next hb hb1
              clear hb1
              go_wp2_with (go_at_call 21; refine (tells_any _ _ _ (by decide)).mono ?_)
              first | rintro e z2 rfl hb1 | rintro e z2 ⟨rfl, hb1⟩
              replace hb := below_next hb hb1
              clear hb1
              go_wp2_with (go_at_call 21; refine (tells_any _ _ _ (by decide)).mono ?_)
              first | rintro e z3 rfl hb1 | rintro e z3 ⟨rfl, hb1⟩
              replace hb := below_next hb hb1
              clear hb1
              go_wp2_with (go_at_call 10; refine (awake_any _).mono ?_)
              first | rintro e z4 rfl hb1 | rintro e z4 ⟨rfl, hb1⟩
              replace hb := below_next hb hb1
              clear hb1
              go_wp2
              go_ret
              exact ⟨rfl, hb⟩
end Go.Proofs.Ytnognmgmhhbbiaa
