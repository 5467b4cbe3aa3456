/- Contract of read: how the forms are read. (Printed by gen_read.py.) -/
import Derived.Test.YtnognmgmhhbbiaaEscB
import Derived.Deep.QuietTactic
import Derived.BigQuiet
namespace Go.Proofs.Ytnognmgmhhbbiaa
open Go.RowKit

def outVal : Esc.Out → Value
  | .bad e => .tuple #[.string ⟨#[]⟩, .int .i64 0, .int .i64 e]
  | .good l n => .tuple #[.string ⟨l.toArray⟩, .int .i64 n, .int .i64 0]

set_option maxHeartbeats 3200000 in
set_option maxRecDepth 100000 in
theorem read_false (v : Bool) (s : ByteArray) (n : Nat) (Hn : Hid (n = if v then 3 else 2)) (hn2 : 2 ≤ n) (hn3 : n ≤ 3) (w : World) (hs : s.size ≤ 65536) :
    Calls Try.prog 23 #[.string s, .int .i64 (n : Int), .bool false] w fun e w' => e = .returned (outVal (Esc.rd v false s.data.toList)) ∧ Below w.heap.size w w' := by
  have hsl : ∀ (kk : Nat) (u : World), Sem.run Try.prog (Instr.sliceAt 65 (Value.pointer (some ⟨kk, 0, none⟩)) none (some (Value.int .i64 (n : Int))) none) u = .ok (.slice (some ⟨kk, 0, none⟩) n 3) u := by
    intro kk u
    obtain rfl | rfl : n = 2 ∨ n = 3 := by omega
    · kernel_rfl
    · kernel_rfl
  go_enter Try.func23, Try.ntmps23
  go_wp2_with fail
  go_step3
  go_wp2_with (go_at_call 37; refine (pairs_any _).mono ?_)
  rintro e w1 ⟨rfl, hb1⟩
  have hs1 := hb1.size
  simp only [World.size_alloc] at hs1
  have hb0 : Lib.IsBuilderF 55 5 w.heap.size w.heap.size [] w1 :=
    fresh_at (Nat.le_refl _) (below_kept hb1 (alloc_new _ _) (by simp))
  have hbw : Below w.heap.size w w1 := ((Below.refl _ w).alloc (Nat.le_refl _) _).trans (hb1.mono (by simp))
  go_wp2
  go_step3
  go_wp2
  go_loopw [11, 12] (fun i e wr => ∃ (k : Nat) (acc : List UInt8), k ≤ s.size ∧ acc.length ≤ k ∧ i = .int .i64 k ∧ e = .int .i64 (Esc.e0 false) ∧ Hid (Esc.rd v false s.data.toList = (Esc.rd v false (s.data.toList.drop k)).pre acc k) ∧ wr.heap[w1.heap.size]? = some pairsObj ∧ Lib.IsBuilderF 55 5 w.heap.size w.heap.size (Lib.byteCells acc) wr ∧ Below w.heap.size w wr ∧ w1.heap.size + 1 ≤ wr.heap.size) (fun i _ _ => s.size - (intOf i).toNat)
  case atStart => exact ⟨0, [], Nat.zero_le _, Nat.zero_le _, rfl, rfl, (by rw [List.drop_zero, Esc.Out.pre_nil]; rfl), alloc_new _ _, hb0.alloc _, hbw.alloc (by omega) _, by simp⟩
  case round =>
    obtain ⟨k, acc, hk, hacc, rfl, rfl, hR, hA, hB, hbl, hsz⟩ := hrel
    obtain ⟨wo, rfl⟩ : ∃ wo : World, wo = wr := ⟨_, rfl⟩
    clear hb0 hbw hb1
    by_cases hlt : k < s.size
    · have hd := Lib.hid (Esc.drop_one s k hlt)
      by_cases h10 : s[k] = 10
      · have b10 := Esc.beq_yes (n := 10) rfl h10
        have H := Lib.hid h10
        clear h10
        go_wp2
        rw [Exit.noGoto_ret]
        go_ret3
        refine ⟨?_, hbl⟩
        rw [hR.out, hd.out, H.out, Esc.rd_feed]; rfl
      have b10 := Esc.beq_no (n := 10) rfl h10
      by_cases h92 : s[k] = 92
      · have b34 : ((s[k].toNat : Int) == 34) = false := Esc.beq_no (k := 34) rfl (by rw [h92]; decide)
        have bw : ((s[k].toNat : Int) != 92) = false := Esc.bne_no (k := 92) rfl h92
        have H := Lib.hid h92
        clear h92 h10
        by_cases hl : k + 1 < s.size
        · have bl : (((k : Int) + 1) == (s.size : Int)) = false := by simp; omega
          have hd1 := Lib.hid (Esc.drop_one s (k + 1) hl)
          go_wp2
          go_loopw [14, 55] (fun fd jv wr => ∃ j : Nat, j ≤ n ∧ jv = .int .i64 j ∧ fd = .bool (Esc.hit j s[k + 1]) ∧ wr.heap[w1.heap.size]? = some pairsObj ∧ Lib.IsBuilderF 55 5 w.heap.size w.heap.size (Lib.byteCells (acc ++ Esc.part j s[k + 1])) wr ∧ Below w.heap.size w wr ∧ w1.heap.size + 1 ≤ wr.heap.size) (fun _ jv _ => n - (intOf jv).toNat)
          case atStart => exact ⟨0, by omega, rfl, by rw [(Esc.part_zero _).2], hA, by rw [(Esc.part_zero _).1, List.append_nil]; exact hB, hbl, hsz⟩
          case round =>
            clear hA hB hbl hsz
            obtain ⟨j, hjn, rfl, rfl, hA, hB, hbl, hsz⟩ := hrel
            by_cases hj : j < n
            · obtain rfl | rfl | rfl : j = 0 ∨ j = 1 ∨ j = 2 := by omega
              · have cc : wr.cell? ⟨w1.heap.size, 0, none⟩ = some (.int .u8 92) := by rw [Lib.cell_of_heap hA]; rfl
                have cl : wr.cell? ⟨w1.heap.size, 1, none⟩ = some (.int .u8 92) := by rw [Lib.cell_of_heap hA]; rfl
                have hlA := lt_of_heap hA
                by_cases hm : s[k + 1] = 92
                · have bm := Esc.beq_yes (n := 92) rfl hm
                  have H := Lib.hid hm
                  clear hm
                  go_wp2
                  have q1 : (0 : Int) ≤ (k : Int) + 1 := by omega
                  have q2 : (k : Int) + 1 < (s.size : Int) := by omega
                  have q3 : ((k : Int) + 1).toNat = k + 1 := by omega
                  go_quiet (fail)
                  have hpl : (Lib.byteCells (acc ++ Esc.part 0 s[k + 1])).length + 1 ≤ 140737488355328 := by have := Esc.part_le 0 s[k + 1]; rw [Lib.byteCells_length, List.length_append]; omega
                  go_wp2_with (go_at_call 38; refine (writeByte_k _ _ _ _ _ (isb_drewN (hB.alloc _) _) hpl (by simp; omega)).mono ?_)
                  rintro e w2 ⟨rfl, hB2, hl2, hk2⟩
                  have hs2 := hl2.size
                  simp only [World.heap_drewN, World.size_alloc] at hs2
                  go_wp2
                  have hA2 : ((wr.alloc (.cells #[.int .u8 92, .int .u8 92] 64)).drewN nq).heap[w1.heap.size]? = some pairsObj := alloc_kept hA
                  go_roundw
                  case rel => exact ⟨1, by omega, by go_num, (by rw [H.out]; rfl), kept_cells hk2 hA2 (by omega) (by decide), (by rw [show Lib.byteCells (acc ++ Esc.part 1 s[k + 1]) = Lib.byteCells (acc ++ Esc.part 0 s[k + 1]) ++ [.int .u8 92] from (by rw [H.out]; simp [Lib.byteCells, Esc.part])]; exact .inr hB2), (below_drewN (hbl.alloc (by omega) _) _).trans hl2, by omega⟩
                  case measure => simp [intOf]; omega
                · have bm := Esc.beq_no (n := 92) rfl hm
                  have H := Lib.hid (Esc.part_miss0 _ hm)
                  clear hm
                  go_wp2
                  have q1 : (0 : Int) ≤ (k : Int) + 1 := by omega
                  have q2 : (k : Int) + 1 < (s.size : Int) := by omega
                  have q3 : ((k : Int) + 1).toNat = k + 1 := by omega
                  go_quiet (fail)
                  go_wp2
                  go_roundw
                  case rel => exact ⟨1, by omega, by go_num, (by rw [H.out.2]), alloc_kept hA, (by rw [show Esc.part 1 s[k + 1] = Esc.part 0 s[k + 1] from H.out.1]; exact isb_drewN (hB.alloc _) _), below_drewN (hbl.alloc (by omega) _) _, by simp; omega⟩
                  case measure => simp [intOf]; omega
              · have cc : wr.cell? ⟨w1.heap.size, 2, none⟩ = some (.int .u8 10) := by rw [Lib.cell_of_heap hA]; rfl
                have cl : wr.cell? ⟨w1.heap.size, 3, none⟩ = some (.int .u8 110) := by rw [Lib.cell_of_heap hA]; rfl
                have hlA := lt_of_heap hA
                by_cases hm : s[k + 1] = 110
                · have bm := Esc.beq_yes (n := 110) rfl hm
                  have H := Lib.hid hm
                  clear hm
                  go_wp2
                  have q1 : (0 : Int) ≤ (k : Int) + 1 := by omega
                  have q2 : (k : Int) + 1 < (s.size : Int) := by omega
                  have q3 : ((k : Int) + 1).toNat = k + 1 := by omega
                  go_quiet (fail)
                  have hpl : (Lib.byteCells (acc ++ Esc.part 1 s[k + 1])).length + 1 ≤ 140737488355328 := by have := Esc.part_le 1 s[k + 1]; rw [Lib.byteCells_length, List.length_append]; omega
                  go_wp2_with (go_at_call 38; refine (writeByte_k _ _ _ _ _ (isb_drewN (hB.alloc _) _) hpl (by simp; omega)).mono ?_)
                  rintro e w2 ⟨rfl, hB2, hl2, hk2⟩
                  have hs2 := hl2.size
                  simp only [World.heap_drewN, World.size_alloc] at hs2
                  go_wp2
                  have hA2 : ((wr.alloc (.cells #[.int .u8 10, .int .u8 110] 64)).drewN nq).heap[w1.heap.size]? = some pairsObj := alloc_kept hA
                  go_roundw
                  case rel => exact ⟨2, by omega, by go_num, (by rw [H.out]; rfl), kept_cells hk2 hA2 (by omega) (by decide), (by rw [show Lib.byteCells (acc ++ Esc.part 2 s[k + 1]) = Lib.byteCells (acc ++ Esc.part 1 s[k + 1]) ++ [.int .u8 10] from (by rw [H.out]; simp [Lib.byteCells, Esc.part])]; exact .inr hB2), (below_drewN (hbl.alloc (by omega) _) _).trans hl2, by omega⟩
                  case measure => simp [intOf]; omega
                · have bm := Esc.beq_no (n := 110) rfl hm
                  have H := Lib.hid (Esc.part_miss1 _ hm)
                  clear hm
                  go_wp2
                  have q1 : (0 : Int) ≤ (k : Int) + 1 := by omega
                  have q2 : (k : Int) + 1 < (s.size : Int) := by omega
                  have q3 : ((k : Int) + 1).toNat = k + 1 := by omega
                  go_quiet (fail)
                  go_wp2
                  go_roundw
                  case rel => exact ⟨2, by omega, by go_num, (by rw [H.out.2]), alloc_kept hA, (by rw [show Esc.part 2 s[k + 1] = Esc.part 1 s[k + 1] from H.out.1]; exact isb_drewN (hB.alloc _) _), below_drewN (hbl.alloc (by omega) _) _, by simp; omega⟩
                  case measure => simp [intOf]; omega
              · have cc : wr.cell? ⟨w1.heap.size, 4, none⟩ = some (.int .u8 34) := by rw [Lib.cell_of_heap hA]; rfl
                have cl : wr.cell? ⟨w1.heap.size, 5, none⟩ = some (.int .u8 34) := by rw [Lib.cell_of_heap hA]; rfl
                have hlA := lt_of_heap hA
                by_cases hm : s[k + 1] = 34
                · have bm := Esc.beq_yes (n := 34) rfl hm
                  have H := Lib.hid hm
                  clear hm
                  go_wp2
                  have q1 : (0 : Int) ≤ (k : Int) + 1 := by omega
                  have q2 : (k : Int) + 1 < (s.size : Int) := by omega
                  have q3 : ((k : Int) + 1).toNat = k + 1 := by omega
                  go_quiet (fail)
                  have hpl : (Lib.byteCells (acc ++ Esc.part 2 s[k + 1])).length + 1 ≤ 140737488355328 := by have := Esc.part_le 2 s[k + 1]; rw [Lib.byteCells_length, List.length_append]; omega
                  go_wp2_with (go_at_call 38; refine (writeByte_k _ _ _ _ _ (isb_drewN (hB.alloc _) _) hpl (by simp; omega)).mono ?_)
                  rintro e w2 ⟨rfl, hB2, hl2, hk2⟩
                  have hs2 := hl2.size
                  simp only [World.heap_drewN, World.size_alloc] at hs2
                  go_wp2
                  have hA2 : ((wr.alloc (.cells #[.int .u8 34, .int .u8 34] 64)).drewN nq).heap[w1.heap.size]? = some pairsObj := alloc_kept hA
                  go_roundw
                  case rel => exact ⟨3, by omega, by go_num, (by rw [H.out]; rfl), kept_cells hk2 hA2 (by omega) (by decide), (by rw [show Lib.byteCells (acc ++ Esc.part 3 s[k + 1]) = Lib.byteCells (acc ++ Esc.part 2 s[k + 1]) ++ [.int .u8 34] from (by rw [H.out]; simp [Lib.byteCells, Esc.part])]; exact .inr hB2), (below_drewN (hbl.alloc (by omega) _) _).trans hl2, by omega⟩
                  case measure => simp [intOf]; omega
                · have bm := Esc.beq_no (n := 34) rfl hm
                  have H := Lib.hid (Esc.part_miss2 _ hm)
                  clear hm
                  go_wp2
                  have q1 : (0 : Int) ≤ (k : Int) + 1 := by omega
                  have q2 : (k : Int) + 1 < (s.size : Int) := by omega
                  have q3 : ((k : Int) + 1).toNat = k + 1 := by omega
                  go_quiet (fail)
                  go_wp2
                  go_roundw
                  case rel => exact ⟨3, by omega, by go_num, (by rw [H.out.2]), alloc_kept hA, (by rw [show Esc.part 3 s[k + 1] = Esc.part 2 s[k + 1] from H.out.1]; exact isb_drewN (hB.alloc _) _), below_drewN (hbl.alloc (by omega) _) _, by simp; omega⟩
                  case measure => simp [intOf]; omega
            · obtain rfl : j = n := by omega
              rcases Esc.part_end v s[k + 1] j Hn.out with ⟨hh, hdn⟩ | ⟨hh, x, hdx, hpx⟩
              · have HD := Lib.hid hdn
                clear hdn
                go_wp2
                rw [Exit.noGoto_ret]
                go_ret3
                refine ⟨?_, hbl⟩
                rw [hR.out, hd.out, hd1.out, H.out, Esc.rd_bad _ _ _ _ HD.out]; rfl
              · have HD := Lib.hid hdx
                rw [hpx] at hB
                clear hdx hpx
                go_wp2
                go_roundw
                case rel => exact ⟨k + 2, acc ++ [x], by omega, by simp; omega, by go_num, rfl, (by rw [hR.out, hd.out, hd1.out, H.out, Esc.rd_two _ _ _ _ _ HD.out, Esc.Out.pre_cons]; rfl), hA, hB, hbl, hsz⟩
                case measure => simp [intOf]; omega
        · have bl : (((k : Int) + 1) == (s.size : Int)) = true := by simp; omega
          have hnil := Lib.hid (show s.data.toList.drop (k + 1) = [] from List.drop_eq_nil_iff.2 (by simp; omega))
          go_wp2
          rw [Exit.noGoto_ret]
          go_ret3
          refine ⟨?_, hbl⟩
          rw [hR.out, hd.out, hnil.out, H.out, Esc.rd_last]; rfl
      by_cases hq : s[k] = 34
      · have b34 : ((s[k].toNat : Int) == 34) = true := Esc.beq_yes rfl hq
        by_cases hv : v = true
        · have bn : ((n : Int) == 3) = true := by rw [Hn.out, hv]; rfl
          have H := Lib.hid hq
          have HV := Lib.hid hv
          clear hq hv h10 h92
          go_wp2
          rw [Exit.noGoto_ret]
          go_ret3
          refine ⟨?_, hbl⟩
          rw [hR.out, hd.out, H.out, HV.out, Esc.rd_quote]; rfl
        · have hnv : ¬ (v = true ∧ s[k] = 34) := fun h => hv h.1
          have bn : ((n : Int) == 3) = false := by
            rw [Hn.out]; cases v with
            | true => exact absurd rfl hv
            | false => rfl
          clear hq
          have hp := Lib.hid (Esc.rd_plain v false s[k] (s.data.toList.drop (k + 1)) h10 hnv h92)
          have bw : ((s[k].toNat : Int) != 92) = true := Esc.bne_yes rfl h92
          go_wp2_with (go_at_call 38; refine (writeByte_k _ _ _ _ _ hB (by rw [Lib.byteCells_length]; omega) (by omega)).mono ?_)
          rintro e w2 ⟨rfl, hB2, hl2, hk2⟩
          have hs2 := hl2.size
          go_wp2
          go_roundw
          case rel => exact ⟨k + 1, acc ++ [s[k]], by omega, by simp; omega, by go_num, rfl, (by rw [hR.out, hd.out, hp.out, Esc.Out.pre_cons]; rfl), kept_cells hk2 hA (by omega) (by decide), .inr (by rw [Lib.byteCells_append]; exact hB2), hbl.trans (hl2.mono (by omega)), by omega⟩
          case measure => simp [intOf]; omega
      · have hnv : ¬ (v = true ∧ s[k] = 34) := fun h => hq h.2
        have b34 : ((s[k].toNat : Int) == 34) = false := Esc.beq_no rfl hq
        have hp := Lib.hid (Esc.rd_plain v false s[k] (s.data.toList.drop (k + 1)) h10 hnv h92)
        have bw : ((s[k].toNat : Int) != 92) = true := Esc.bne_yes rfl h92
        go_wp2_with (go_at_call 38; refine (writeByte_k _ _ _ _ _ hB (by rw [Lib.byteCells_length]; omega) (by omega)).mono ?_)
        rintro e w2 ⟨rfl, hB2, hl2, hk2⟩
        have hs2 := hl2.size
        go_wp2
        go_roundw
        case rel => exact ⟨k + 1, acc ++ [s[k]], by omega, by simp; omega, by go_num, rfl, (by rw [hR.out, hd.out, hp.out, Esc.Out.pre_cons]; rfl), kept_cells hk2 hA (by omega) (by decide), .inr (by rw [Lib.byteCells_append]; exact hB2), hbl.trans (hl2.mono (by omega)), by omega⟩
        case measure => simp [intOf]; omega
    · have hnil := Lib.hid (show s.data.toList.drop k = [] from List.drop_eq_nil_iff.2 (by simp; omega))
      rw [show Esc.e0 false = 0 from rfl]
      go_wp2_with (go_at_call 36; refine (Try.Builder_String_any_k _ _ _ _ hB (by omega)).mono ?_)
      rintro e w2 ⟨rfl, hB2, hl2, hk2⟩
      go_wp2
      rw [Exit.noGoto_ret]
      go_ret3
      refine ⟨?_, hbl.trans (hl2.mono (by omega))⟩
      rw [hR.out, hnil.out, Esc.rd_nil]
      simp [Esc.Out.pre, outVal]

set_option maxHeartbeats 3200000 in
set_option maxRecDepth 100000 in
theorem read_true (v : Bool) (s : ByteArray) (n : Nat) (Hn : Hid (n = if v then 3 else 2)) (hn2 : 2 ≤ n) (hn3 : n ≤ 3) (w : World) (hs : s.size ≤ 65536) :
    Calls Try.prog 23 #[.string s, .int .i64 (n : Int), .bool true] w fun e w' => e = .returned (outVal (Esc.rd v true s.data.toList)) ∧ Below w.heap.size w w' := by
  have hsl : ∀ (kk : Nat) (u : World), Sem.run Try.prog (Instr.sliceAt 65 (Value.pointer (some ⟨kk, 0, none⟩)) none (some (Value.int .i64 (n : Int))) none) u = .ok (.slice (some ⟨kk, 0, none⟩) n 3) u := by
    intro kk u
    obtain rfl | rfl : n = 2 ∨ n = 3 := by omega
    · kernel_rfl
    · kernel_rfl
  go_enter Try.func23, Try.ntmps23
  go_wp2_with fail
  go_step3
  go_wp2_with (go_at_call 37; refine (pairs_any _).mono ?_)
  rintro e w1 ⟨rfl, hb1⟩
  have hs1 := hb1.size
  simp only [World.size_alloc] at hs1
  have hb0 : Lib.IsBuilderF 55 5 w.heap.size w.heap.size [] w1 :=
    fresh_at (Nat.le_refl _) (below_kept hb1 (alloc_new _ _) (by simp))
  have hbw : Below w.heap.size w w1 := ((Below.refl _ w).alloc (Nat.le_refl _) _).trans (hb1.mono (by simp))
  go_wp2
  go_step3
  go_wp2
  go_loopw [11, 12] (fun i e wr => ∃ (k : Nat) (acc : List UInt8), k ≤ s.size ∧ acc.length ≤ k ∧ i = .int .i64 k ∧ e = .int .i64 (Esc.e0 true) ∧ Hid (Esc.rd v true s.data.toList = (Esc.rd v true (s.data.toList.drop k)).pre acc k) ∧ wr.heap[w1.heap.size]? = some pairsObj ∧ Lib.IsBuilderF 55 5 w.heap.size w.heap.size (Lib.byteCells acc) wr ∧ Below w.heap.size w wr ∧ w1.heap.size + 1 ≤ wr.heap.size) (fun i _ _ => s.size - (intOf i).toNat)
  case atStart => exact ⟨0, [], Nat.zero_le _, Nat.zero_le _, rfl, rfl, (by rw [List.drop_zero, Esc.Out.pre_nil]; rfl), alloc_new _ _, hb0.alloc _, hbw.alloc (by omega) _, by simp⟩
  case round =>
    obtain ⟨k, acc, hk, hacc, rfl, rfl, hR, hA, hB, hbl, hsz⟩ := hrel
    obtain ⟨wo, rfl⟩ : ∃ wo : World, wo = wr := ⟨_, rfl⟩
    clear hb0 hbw hb1
    by_cases hlt : k < s.size
    · have hd := Lib.hid (Esc.drop_one s k hlt)
      by_cases h10 : s[k] = 10
      · have b10 := Esc.beq_yes (n := 10) rfl h10
        have H := Lib.hid h10
        clear h10
        go_wp2
        rw [Exit.noGoto_ret]
        go_ret3
        refine ⟨?_, hbl⟩
        rw [hR.out, hd.out, H.out, Esc.rd_feed]; rfl
      have b10 := Esc.beq_no (n := 10) rfl h10
      by_cases h92 : s[k] = 92
      · have b34 : ((s[k].toNat : Int) == 34) = false := Esc.beq_no (k := 34) rfl (by rw [h92]; decide)
        have bw : ((s[k].toNat : Int) != 92) = false := Esc.bne_no (k := 92) rfl h92
        have H := Lib.hid h92
        clear h92 h10
        by_cases hl : k + 1 < s.size
        · have bl : (((k : Int) + 1) == (s.size : Int)) = false := by simp; omega
          have hd1 := Lib.hid (Esc.drop_one s (k + 1) hl)
          go_wp2
          go_loopw [14, 55] (fun fd jv wr => ∃ j : Nat, j ≤ n ∧ jv = .int .i64 j ∧ fd = .bool (Esc.hit j s[k + 1]) ∧ wr.heap[w1.heap.size]? = some pairsObj ∧ Lib.IsBuilderF 55 5 w.heap.size w.heap.size (Lib.byteCells (acc ++ Esc.part j s[k + 1])) wr ∧ Below w.heap.size w wr ∧ w1.heap.size + 1 ≤ wr.heap.size) (fun _ jv _ => n - (intOf jv).toNat)
          case atStart => exact ⟨0, by omega, rfl, by rw [(Esc.part_zero _).2], hA, by rw [(Esc.part_zero _).1, List.append_nil]; exact hB, hbl, hsz⟩
          case round =>
            clear hA hB hbl hsz
            obtain ⟨j, hjn, rfl, rfl, hA, hB, hbl, hsz⟩ := hrel
            by_cases hj : j < n
            · obtain rfl | rfl | rfl : j = 0 ∨ j = 1 ∨ j = 2 := by omega
              · have cc : wr.cell? ⟨w1.heap.size, 0, none⟩ = some (.int .u8 92) := by rw [Lib.cell_of_heap hA]; rfl
                have cl : wr.cell? ⟨w1.heap.size, 1, none⟩ = some (.int .u8 92) := by rw [Lib.cell_of_heap hA]; rfl
                have hlA := lt_of_heap hA
                by_cases hm : s[k + 1] = 92
                · have bm := Esc.beq_yes (n := 92) rfl hm
                  have H := Lib.hid hm
                  clear hm
                  go_wp2
                  have q1 : (0 : Int) ≤ (k : Int) + 1 := by omega
                  have q2 : (k : Int) + 1 < (s.size : Int) := by omega
                  have q3 : ((k : Int) + 1).toNat = k + 1 := by omega
                  go_quiet (fail)
                  have hpl : (Lib.byteCells (acc ++ Esc.part 0 s[k + 1])).length + 1 ≤ 140737488355328 := by have := Esc.part_le 0 s[k + 1]; rw [Lib.byteCells_length, List.length_append]; omega
                  go_wp2_with (go_at_call 38; refine (writeByte_k _ _ _ _ _ (isb_drewN (hB.alloc _) _) hpl (by simp; omega)).mono ?_)
                  rintro e w2 ⟨rfl, hB2, hl2, hk2⟩
                  have hs2 := hl2.size
                  simp only [World.heap_drewN, World.size_alloc] at hs2
                  go_wp2
                  have hA2 : ((wr.alloc (.cells #[.int .u8 92, .int .u8 92] 64)).drewN nq).heap[w1.heap.size]? = some pairsObj := alloc_kept hA
                  go_roundw
                  case rel => exact ⟨1, by omega, by go_num, (by rw [H.out]; rfl), kept_cells hk2 hA2 (by omega) (by decide), (by rw [show Lib.byteCells (acc ++ Esc.part 1 s[k + 1]) = Lib.byteCells (acc ++ Esc.part 0 s[k + 1]) ++ [.int .u8 92] from (by rw [H.out]; simp [Lib.byteCells, Esc.part])]; exact .inr hB2), (below_drewN (hbl.alloc (by omega) _) _).trans hl2, by omega⟩
                  case measure => simp [intOf]; omega
                · have bm := Esc.beq_no (n := 92) rfl hm
                  have H := Lib.hid (Esc.part_miss0 _ hm)
                  clear hm
                  go_wp2
                  have q1 : (0 : Int) ≤ (k : Int) + 1 := by omega
                  have q2 : (k : Int) + 1 < (s.size : Int) := by omega
                  have q3 : ((k : Int) + 1).toNat = k + 1 := by omega
                  go_quiet (fail)
                  go_wp2
                  go_roundw
                  case rel => exact ⟨1, by omega, by go_num, (by rw [H.out.2]), alloc_kept hA, (by rw [show Esc.part 1 s[k + 1] = Esc.part 0 s[k + 1] from H.out.1]; exact isb_drewN (hB.alloc _) _), below_drewN (hbl.alloc (by omega) _) _, by simp; omega⟩
                  case measure => simp [intOf]; omega
              · have cc : wr.cell? ⟨w1.heap.size, 2, none⟩ = some (.int .u8 10) := by rw [Lib.cell_of_heap hA]; rfl
                have cl : wr.cell? ⟨w1.heap.size, 3, none⟩ = some (.int .u8 110) := by rw [Lib.cell_of_heap hA]; rfl
                have hlA := lt_of_heap hA
                by_cases hm : s[k + 1] = 110
                · have bm := Esc.beq_yes (n := 110) rfl hm
                  have H := Lib.hid hm
                  clear hm
                  go_wp2
                  have q1 : (0 : Int) ≤ (k : Int) + 1 := by omega
                  have q2 : (k : Int) + 1 < (s.size : Int) := by omega
                  have q3 : ((k : Int) + 1).toNat = k + 1 := by omega
                  go_quiet (fail)
                  have hpl : (Lib.byteCells (acc ++ Esc.part 1 s[k + 1])).length + 1 ≤ 140737488355328 := by have := Esc.part_le 1 s[k + 1]; rw [Lib.byteCells_length, List.length_append]; omega
                  go_wp2_with (go_at_call 38; refine (writeByte_k _ _ _ _ _ (isb_drewN (hB.alloc _) _) hpl (by simp; omega)).mono ?_)
                  rintro e w2 ⟨rfl, hB2, hl2, hk2⟩
                  have hs2 := hl2.size
                  simp only [World.heap_drewN, World.size_alloc] at hs2
                  go_wp2
                  have hA2 : ((wr.alloc (.cells #[.int .u8 10, .int .u8 110] 64)).drewN nq).heap[w1.heap.size]? = some pairsObj := alloc_kept hA
                  go_roundw
                  case rel => exact ⟨2, by omega, by go_num, (by rw [H.out]; rfl), kept_cells hk2 hA2 (by omega) (by decide), (by rw [show Lib.byteCells (acc ++ Esc.part 2 s[k + 1]) = Lib.byteCells (acc ++ Esc.part 1 s[k + 1]) ++ [.int .u8 10] from (by rw [H.out]; simp [Lib.byteCells, Esc.part])]; exact .inr hB2), (below_drewN (hbl.alloc (by omega) _) _).trans hl2, by omega⟩
                  case measure => simp [intOf]; omega
                · have bm := Esc.beq_no (n := 110) rfl hm
                  have H := Lib.hid (Esc.part_miss1 _ hm)
                  clear hm
                  go_wp2
                  have q1 : (0 : Int) ≤ (k : Int) + 1 := by omega
                  have q2 : (k : Int) + 1 < (s.size : Int) := by omega
                  have q3 : ((k : Int) + 1).toNat = k + 1 := by omega
                  go_quiet (fail)
                  go_wp2
                  go_roundw
                  case rel => exact ⟨2, by omega, by go_num, (by rw [H.out.2]), alloc_kept hA, (by rw [show Esc.part 2 s[k + 1] = Esc.part 1 s[k + 1] from H.out.1]; exact isb_drewN (hB.alloc _) _), below_drewN (hbl.alloc (by omega) _) _, by simp; omega⟩
                  case measure => simp [intOf]; omega
              · have cc : wr.cell? ⟨w1.heap.size, 4, none⟩ = some (.int .u8 34) := by rw [Lib.cell_of_heap hA]; rfl
                have cl : wr.cell? ⟨w1.heap.size, 5, none⟩ = some (.int .u8 34) := by rw [Lib.cell_of_heap hA]; rfl
                have hlA := lt_of_heap hA
                by_cases hm : s[k + 1] = 34
                · have bm := Esc.beq_yes (n := 34) rfl hm
                  have H := Lib.hid hm
                  clear hm
                  go_wp2
                  have q1 : (0 : Int) ≤ (k : Int) + 1 := by omega
                  have q2 : (k : Int) + 1 < (s.size : Int) := by omega
                  have q3 : ((k : Int) + 1).toNat = k + 1 := by omega
                  go_quiet (fail)
                  have hpl : (Lib.byteCells (acc ++ Esc.part 2 s[k + 1])).length + 1 ≤ 140737488355328 := by have := Esc.part_le 2 s[k + 1]; rw [Lib.byteCells_length, List.length_append]; omega
                  go_wp2_with (go_at_call 38; refine (writeByte_k _ _ _ _ _ (isb_drewN (hB.alloc _) _) hpl (by simp; omega)).mono ?_)
                  rintro e w2 ⟨rfl, hB2, hl2, hk2⟩
                  have hs2 := hl2.size
                  simp only [World.heap_drewN, World.size_alloc] at hs2
                  go_wp2
                  have hA2 : ((wr.alloc (.cells #[.int .u8 34, .int .u8 34] 64)).drewN nq).heap[w1.heap.size]? = some pairsObj := alloc_kept hA
                  go_roundw
                  case rel => exact ⟨3, by omega, by go_num, (by rw [H.out]; rfl), kept_cells hk2 hA2 (by omega) (by decide), (by rw [show Lib.byteCells (acc ++ Esc.part 3 s[k + 1]) = Lib.byteCells (acc ++ Esc.part 2 s[k + 1]) ++ [.int .u8 34] from (by rw [H.out]; simp [Lib.byteCells, Esc.part])]; exact .inr hB2), (below_drewN (hbl.alloc (by omega) _) _).trans hl2, by omega⟩
                  case measure => simp [intOf]; omega
                · have bm := Esc.beq_no (n := 34) rfl hm
                  have H := Lib.hid (Esc.part_miss2 _ hm)
                  clear hm
                  go_wp2
                  have q1 : (0 : Int) ≤ (k : Int) + 1 := by omega
                  have q2 : (k : Int) + 1 < (s.size : Int) := by omega
                  have q3 : ((k : Int) + 1).toNat = k + 1 := by omega
                  go_quiet (fail)
                  go_wp2
                  go_roundw
                  case rel => exact ⟨3, by omega, by go_num, (by rw [H.out.2]), alloc_kept hA, (by rw [show Esc.part 3 s[k + 1] = Esc.part 2 s[k + 1] from H.out.1]; exact isb_drewN (hB.alloc _) _), below_drewN (hbl.alloc (by omega) _) _, by simp; omega⟩
                  case measure => simp [intOf]; omega
            · obtain rfl : j = n := by omega
              rcases Esc.part_end v s[k + 1] j Hn.out with ⟨hh, hdn⟩ | ⟨hh, x, hdx, hpx⟩
              · have HD := Lib.hid hdn
                clear hdn
                go_wp2
                rw [Exit.noGoto_ret]
                go_ret3
                refine ⟨?_, hbl⟩
                rw [hR.out, hd.out, hd1.out, H.out, Esc.rd_bad _ _ _ _ HD.out]; rfl
              · have HD := Lib.hid hdx
                rw [hpx] at hB
                clear hdx hpx
                go_wp2
                go_roundw
                case rel => exact ⟨k + 2, acc ++ [x], by omega, by simp; omega, by go_num, rfl, (by rw [hR.out, hd.out, hd1.out, H.out, Esc.rd_two _ _ _ _ _ HD.out, Esc.Out.pre_cons]; rfl), hA, hB, hbl, hsz⟩
                case measure => simp [intOf]; omega
        · have bl : (((k : Int) + 1) == (s.size : Int)) = true := by simp; omega
          have hnil := Lib.hid (show s.data.toList.drop (k + 1) = [] from List.drop_eq_nil_iff.2 (by simp; omega))
          go_wp2
          rw [Exit.noGoto_ret]
          go_ret3
          refine ⟨?_, hbl⟩
          rw [hR.out, hd.out, hnil.out, H.out, Esc.rd_last]; rfl
      by_cases hq : s[k] = 34
      · have b34 : ((s[k].toNat : Int) == 34) = true := Esc.beq_yes rfl hq
        by_cases hv : v = true
        · have bn : ((n : Int) == 3) = true := by rw [Hn.out, hv]; rfl
          have H := Lib.hid hq
          have HV := Lib.hid hv
          clear hq hv h10 h92
          go_wp2_with (go_at_call 36; refine (Try.Builder_String_any_k _ _ _ _ hB (by omega)).mono ?_)
          rintro e w2 ⟨rfl, hB2, hl2, hk2⟩
          go_wp2
          rw [Exit.noGoto_ret]
          go_ret3
          refine ⟨?_, hbl.trans (hl2.mono (by omega))⟩
          rw [hR.out, hd.out, H.out, HV.out, Esc.rd_quote]
          simp [Esc.Out.pre, outVal]
        · have hnv : ¬ (v = true ∧ s[k] = 34) := fun h => hv h.1
          have bn : ((n : Int) == 3) = false := by
            rw [Hn.out]; cases v with
            | true => exact absurd rfl hv
            | false => rfl
          clear hq
          have hp := Lib.hid (Esc.rd_plain v true s[k] (s.data.toList.drop (k + 1)) h10 hnv h92)
          have bw : ((s[k].toNat : Int) != 92) = true := Esc.bne_yes rfl h92
          go_wp2_with (go_at_call 38; refine (writeByte_k _ _ _ _ _ hB (by rw [Lib.byteCells_length]; omega) (by omega)).mono ?_)
          rintro e w2 ⟨rfl, hB2, hl2, hk2⟩
          have hs2 := hl2.size
          go_wp2
          go_roundw
          case rel => exact ⟨k + 1, acc ++ [s[k]], by omega, by simp; omega, by go_num, rfl, (by rw [hR.out, hd.out, hp.out, Esc.Out.pre_cons]; rfl), kept_cells hk2 hA (by omega) (by decide), .inr (by rw [Lib.byteCells_append]; exact hB2), hbl.trans (hl2.mono (by omega)), by omega⟩
          case measure => simp [intOf]; omega
      · have hnv : ¬ (v = true ∧ s[k] = 34) := fun h => hq h.2
        have b34 : ((s[k].toNat : Int) == 34) = false := Esc.beq_no rfl hq
        have hp := Lib.hid (Esc.rd_plain v true s[k] (s.data.toList.drop (k + 1)) h10 hnv h92)
        have bw : ((s[k].toNat : Int) != 92) = true := Esc.bne_yes rfl h92
        go_wp2_with (go_at_call 38; refine (writeByte_k _ _ _ _ _ hB (by rw [Lib.byteCells_length]; omega) (by omega)).mono ?_)
        rintro e w2 ⟨rfl, hB2, hl2, hk2⟩
        have hs2 := hl2.size
        go_wp2
        go_roundw
        case rel => exact ⟨k + 1, acc ++ [s[k]], by omega, by simp; omega, by go_num, rfl, (by rw [hR.out, hd.out, hp.out, Esc.Out.pre_cons]; rfl), kept_cells hk2 hA (by omega) (by decide), .inr (by rw [Lib.byteCells_append]; exact hB2), hbl.trans (hl2.mono (by omega)), by omega⟩
        case measure => simp [intOf]; omega
    · have hnil := Lib.hid (show s.data.toList.drop k = [] from List.drop_eq_nil_iff.2 (by simp; omega))
      rw [show Esc.e0 true = 222 from rfl]
      go_wp2
      rw [Exit.noGoto_ret]
      go_ret3
      refine ⟨?_, hbl⟩
      rw [hR.out, hnil.out, Esc.rd_nil]; rfl

end Go.Proofs.Ytnognmgmhhbbiaa
