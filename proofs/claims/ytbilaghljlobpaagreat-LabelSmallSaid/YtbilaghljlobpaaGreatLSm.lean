/- The walk of LabelSmall: the law returns true. (Printed by gen_sm.py.) -/
import Derived.Test.YtbilaghljlobpaaGreatLSmA
import Derived.Test.YtbilaghljlobpaaGreatLSmB
import Derived.Test.YtbilaghljlobpaaGreatLSmC
import Derived.Deep.DeepCutAuto
namespace Go.Proofs.YtbilaghljlobpaaGreat
open Go.RowKit

theorem Sm.byte_cells (k : Nat) (hk : k < 256) : (#[.int .u8 (k : Int)] : Array Value).toList = Lib.byteCells [UInt8.ofNat k] := by
  simp only [Lib.byteCells, List.map_cons, List.map_nil]
  rw [UInt8.toNat_ofNat', Nat.mod_eq_of_lt (by omega)]
set_option maxHeartbeats 25600000 in
set_option maxRecDepth 100000 in
theorem walk_LabelSmall (w : World) :
    Calls Tryz.prog 3 #[] w fun e w' => e = .returned (.bool true) ∧ Below w.heap.size w w' := by
  go_enter Tryz.func3, Tryz.ntmps3
  go_wp2_with fail
  go_loopw [17] (fun i wr => ∃ k : Nat, k ≤ 256 ∧ i = .int .i64 (k : Int) ∧ Below w.heap.size w wr) (fun i _ => 256 - (intOf i).toNat)
  case atStart => exact ⟨0, by omega, rfl, Below.refl _ _⟩
  case round =>
    obtain ⟨k, hk, rfl, hb⟩ := hrel
    by_cases hlt : k < 256
    · have m1 : (0 : Int) ≤ (k : Int) := by omega
      have m2 : (k : Int) < 256 := by omega
      have C0 := fun W => conv_bytes [UInt8.ofNat k] #[.int .u8 (k : Int)] (Sm.byte_cells k hlt) W 1 rfl (by omega)
      obtain ⟨s, hs⟩ : ∃ s, (⟨[UInt8.ofNat k].toArray⟩ : ByteArray) = s := ⟨_, rfl⟩
      have z1 : s.size ≤ 1 := by rw [← hs]; exact Sm.lit
      rw [hs] at C0
      have B0 := hb.alloc hb.size (.cells #[.int .u8 (k : Int)] 5)
      clear hs hb
      go_wp2_with (go_at_call 5; refine (Sm.of_new [⟨#[97]⟩, s] _ rfl 2 rfl (by omega) (by omega) (by omega) [⟨⟨#[97]⟩, s⟩] rfl _ _ (by first | rfl | simp)).mono ?_)
      first | rintro e v1 g1 c1 rfl hA hb1 | rintro e v1 ⟨⟨g1, c1, rfl, hA⟩, hb1⟩
      have B1 := ((B0).alloc (B0).size _).trans (hb1.mono ((B0).alloc (B0).size _).size)
      clear hb1
      have HhA := Lib.hid hA
      clear hA
      go_wp2_with (go_at_call 4; refine (Sm.tells _ (Sm.max z1 (Sm.ble rfl)) _ _ _ _ _ (Sm.fit1 (Sm.max Sm.lit (Sm.ble rfl)) (Sm.max z1 (Sm.ble rfl))) rfl HhA.out (fun h => by cases h) (Sm.ble rfl)).mono ?_)
      first | rintro e v2 rfl hb2 | rintro e v2 ⟨rfl, hb2⟩
      have B2 := below_next B1 hb2
      clear hb2 HhA
      go_wp2_with (go_at_call 5; refine (Sm.of_new [s, ⟨#[97]⟩, (⟨#[97]⟩ ++ s), ⟨#[98]⟩] _ rfl 4 rfl (by omega) (by omega) (by omega) [⟨s, ⟨#[97]⟩⟩, ⟨(⟨#[97]⟩ ++ s), ⟨#[98]⟩⟩] rfl _ _ (by first | rfl | simp)).mono ?_)
      first | rintro e v3 g3 c3 rfl hA hb3 | rintro e v3 ⟨⟨g3, c3, rfl, hA⟩, hb3⟩
      have B3 := ((B2).alloc (B2).size _).trans (hb3.mono ((B2).alloc (B2).size _).size)
      clear hb3
      have HhA := Lib.hid hA
      clear hA
      go_wp2_with (go_at_call 4; refine (Sm.tells _ (Sm.max (Sm.app Sm.lit z1) (Sm.ble rfl)) _ _ _ _ _ (Sm.fit2 (Sm.max z1 (Sm.ble rfl)) (Sm.max Sm.lit (Sm.ble rfl)) (Sm.max (Sm.app Sm.lit z1) (Sm.ble rfl)) (Sm.max Sm.lit (Sm.ble rfl))) rfl HhA.out (fun h => by cases h) (Sm.ble rfl)).mono ?_)
      first | rintro e v4 rfl hb4 | rintro e v4 ⟨rfl, hb4⟩
      have B4 := below_next B3 hb4
      clear hb4 HhA
      go_wp2_with (go_at_call 5; refine (Sm.of_new [((⟨#[97]⟩ ++ s) ++ ⟨#[97]⟩), (s ++ ⟨#[195, 169]⟩)] _ rfl 2 rfl (by omega) (by omega) (by omega) [⟨((⟨#[97]⟩ ++ s) ++ ⟨#[97]⟩), (s ++ ⟨#[195, 169]⟩)⟩] rfl _ _ (by first | rfl | simp)).mono ?_)
      first | rintro e v5 g5 c5 rfl hA hb5 | rintro e v5 ⟨⟨g5, c5, rfl, hA⟩, hb5⟩
      have B5 := ((B4).alloc (B4).size _).trans (hb5.mono ((B4).alloc (B4).size _).size)
      clear hb5
      have HhA := Lib.hid hA
      clear hA
      go_wp2_with (go_at_call 4; refine (Sm.tells _ (Sm.max (Sm.app z1 Sm.lit) (Sm.ble rfl)) _ _ _ _ _ (Sm.fit1 (Sm.max (Sm.app (Sm.app Sm.lit z1) Sm.lit) (Sm.ble rfl)) (Sm.max (Sm.app z1 Sm.lit) (Sm.ble rfl))) rfl HhA.out (fun h => by cases h) (Sm.ble rfl)).mono ?_)
      first | rintro e v6 rfl hb6 | rintro e v6 ⟨rfl, hb6⟩
      have B6 := below_next B5 hb6
      clear hb6 HhA
      go_wp2_with fail
      go_roundw
      case rel => exact ⟨k + 1, by omega, by go_num, B6⟩
      case measure => simp [intOf]; omega
    · obtain rfl : k = 256 := by omega
      rw [show ((256 : Nat) : Int) = 256 from rfl]
      go_wp2_with fail
      obtain ⟨W1, hW⟩ : ∃ W, W = wr.alloc (.cells #[.int .i64 127, .int .i64 128, .int .i64 129, .int .i64 1023, .int .i64 1024, .int .i64 1025] 3) := ⟨_, rfl⟩
      have BW1 : Below w.heap.size w W1 := by rw [hW]; exact hb.alloc hb.size _
      have hc1 : W1.heap[wr.heap.size]? = some (.cells #[.int .i64 127, .int .i64 128, .int .i64 129, .int .i64 1023, .int .i64 1024, .int .i64 1025] 3) := by rw [hW]; exact alloc_new _ _
      obtain ⟨X, hX⟩ : ∃ X, wr.heap.size = X := ⟨_, rfl⟩
      rw [← hW, hX]
      rw [hX] at hc1
      have HNS : Hid (∀ k, k < 6 → ∃ n : Nat, W1.cell? ⟨X, k, none⟩ = some (.int .i64 (n : Int)) ∧ 2 ≤ n ∧ n ≤ 1025) := by
        show ∀ k, _
        intro k hk
        obtain rfl | rfl | rfl | rfl | rfl | rfl : k = 0 ∨ k = 1 ∨ k = 2 ∨ k = 3 ∨ k = 4 ∨ k = 5 := by omega
        · exact ⟨127, by rw [Lib.cell_of_heap hc1]; rfl, by omega, by omega⟩
        · exact ⟨128, by rw [Lib.cell_of_heap hc1]; rfl, by omega, by omega⟩
        · exact ⟨129, by rw [Lib.cell_of_heap hc1]; rfl, by omega, by omega⟩
        · exact ⟨1023, by rw [Lib.cell_of_heap hc1]; rfl, by omega, by omega⟩
        · exact ⟨1024, by rw [Lib.cell_of_heap hc1]; rfl, by omega, by omega⟩
        · exact ⟨1025, by rw [Lib.cell_of_heap hc1]; rfl, by omega, by omega⟩
      have HBW := Lib.hid BW1
      clear hW hX hc1 hb BW1
      go_loopw [57] (fun i wq => ∃ k : Nat, k ≤ 6 ∧ i = .int .i64 (k : Int) ∧ Below W1.heap.size W1 wq) (fun i _ => 6 - (intOf i).toNat)
      case atStart => exact ⟨0, by omega, rfl, Below.refl _ _⟩
      case round =>
        obtain ⟨k, hk, rfl, hb⟩ := hrel
        by_cases hlt : k < 6
        · have m1 : (0 : Int) ≤ (k : Int) := by omega
          have m2 : (k : Int) < 6 := by omega
          obtain ⟨nn, hcn, hn1, hn2⟩ := HNS.out k hlt
          have hcr := cell_later hb hcn (Nat.le_refl _)
          have HRP := Lib.hid (fun w => Tryz.strings_Repeat ⟨#[120]⟩ nn w (by omega) (by show 1 * nn ≤ _; omega))
          go_wp2_with (go_at_call 6; refine (HRP.out _).mono ?_)
          first | rintro e v0 rfl hb0 | rintro e v0 ⟨rfl, hb0⟩
          obtain ⟨R, hR⟩ : ∃ R, ByteArray.mk (Lib.repeatL (ByteArray.mk #[120]).data.toList nn).toArray = R := ⟨_, rfl⟩
          have hRz : R.size = nn := by rw [← hR]; show (List.toArray _).size = _; rw [List.size_toArray, Lib.repeatL_length]; show nn * 1 = nn; omega
          have z1 : R.size ≤ 1025 := by omega
          have z4 : ¬ 9223372036854775807 < R.size := by omega
          have z2 : 2 ≤ R.size := by omega
          have z3 : (2 : Int) ≤ (R.size : Int) := by omega
          rw [hR]
          have B0 := below_next hb hb0
          clear hR hRz HRP hb0 hcn hcr hb hn1 hn2
          go_wp2_with fail
          refine Sm.r12 _ (by kernel_rfl) R z1 z2 z3 z4 v0 _ _ (fun _ _ _ _ _ h => h) _ _ _ _ _ _ _ _ _ _ _ _ _ _ _ _ _ _ _ _ _ _ _ _ _ _ _ _ _ _ _ _ _ _ _ _ _ _ _ _ _ _ _ _ _ _ _ _ _ _ _ _ _ _ _ _ _ _ _ _ _ _ _ _ _ _ _ _ _ _ _ _ _ _ _ _ _ _ _ _ _ _ _ _ _ _ _ _ _ _ _ _ _ _ _ _ _ _ _ _ _ _ _ _ _ _ _ _ _ _ _ _ _ _ _ _ _ _ _ _ _ _ _ _ _ _ _ _ _ _ _ _ _ _ _ _ _ _ _ _ _ _ _ _ _ _ _ _ _ _ _ _ _ _ _ _ _ _ _ _ _ _ _ _ _ _ _ _ _ _ _ _ _ _ _ _ _ _ _ _ _ _ _ _ _ _ _ _ _ _ _ _ _ _ _ _ _ _ _ _ _ _ _ _ _ _ _ _ _ _ _ _ _ _ _ _ _ _ _ _ _ _ _ _ _ _ _ _ _ _ _ _ _ _ _ _ _ _ _ _ ?_
          intro _ _ _ _ _ _ _ _ _ _ _ _ _ _ _ _ _ _ _ _ _ _ _ _ _ _ _ _ _ _ _ w' hHeld
          have B9 := B0.trans (hHeld.mono B0.size)
          go_wp2_with fail
          go_roundw
          case rel => exact ⟨k + 1, by omega, by go_num, B9⟩
          case measure => simp [intOf]; omega
        · obtain rfl : k = 6 := by omega
          rw [show ((6 : Nat) : Int) = 6 from rfl]
          go_wp2_with fail
          obtain ⟨W2, hW⟩ : ∃ W, W = wr.alloc (.cells #[.string ⟨#[97]⟩, .string ⟨#[49]⟩, .string ⟨#[98]⟩, .string ⟨#[50]⟩, .string ⟨#[97]⟩, .string ⟨#[]⟩, .string ⟨#[101, 120, 112, 111, 114, 116, 101, 100, 95, 97]⟩, .string ⟨#[51]⟩, .string ⟨#[101, 120, 112, 111, 114, 116, 101, 100, 95, 98]⟩, .string ⟨#[50]⟩, .string ⟨#[66]⟩, .string ⟨#[57]⟩, .string ⟨#[48]⟩, .string ⟨#[120]⟩, .string ⟨#[97, 98]⟩, .string ⟨#[255]⟩] 31) := ⟨_, rfl⟩
          have BW2 : Below w.heap.size w W2 := by rw [hW]; exact (HBW.out.trans (hb.mono HBW.out.size)).alloc (HBW.out.trans (hb.mono HBW.out.size)).size _
          have hc1 : W2.heap[wr.heap.size]? = some (.cells #[.string ⟨#[97]⟩, .string ⟨#[49]⟩, .string ⟨#[98]⟩, .string ⟨#[50]⟩, .string ⟨#[97]⟩, .string ⟨#[]⟩, .string ⟨#[101, 120, 112, 111, 114, 116, 101, 100, 95, 97]⟩, .string ⟨#[51]⟩, .string ⟨#[101, 120, 112, 111, 114, 116, 101, 100, 95, 98]⟩, .string ⟨#[50]⟩, .string ⟨#[66]⟩, .string ⟨#[57]⟩, .string ⟨#[48]⟩, .string ⟨#[120]⟩, .string ⟨#[97, 98]⟩, .string ⟨#[255]⟩] 31) := by rw [hW]; exact alloc_new _ _
          obtain ⟨Y, hY⟩ : ∃ X, wr.heap.size = X := ⟨_, rfl⟩
          rw [← hW, hY]
          rw [hY] at hc1
          have HSM : Hid (∀ k, k < 8 → ∃ x : Lab.L, W2.cell? ⟨Y, k * 2, none⟩ = some (.string x.n) ∧ W2.cell? ⟨Y, k * 2 + 1, none⟩ = some (.string x.v) ∧ x.n.size ≤ 10 ∧ x.v.size ≤ 10) := by
            show ∀ k, _
            intro k hk
            obtain rfl | rfl | rfl | rfl | rfl | rfl | rfl | rfl : k = 0 ∨ k = 1 ∨ k = 2 ∨ k = 3 ∨ k = 4 ∨ k = 5 ∨ k = 6 ∨ k = 7 := by omega
            · exact ⟨(⟨⟨#[97]⟩, ⟨#[49]⟩⟩ : Lab.L), by rw [Lib.cell_of_heap hc1]; rfl, by rw [Lib.cell_of_heap hc1]; rfl, by decide, by decide⟩
            · exact ⟨(⟨⟨#[98]⟩, ⟨#[50]⟩⟩ : Lab.L), by rw [Lib.cell_of_heap hc1]; rfl, by rw [Lib.cell_of_heap hc1]; rfl, by decide, by decide⟩
            · exact ⟨(⟨⟨#[97]⟩, ⟨#[]⟩⟩ : Lab.L), by rw [Lib.cell_of_heap hc1]; rfl, by rw [Lib.cell_of_heap hc1]; rfl, by decide, by decide⟩
            · exact ⟨(⟨⟨#[101, 120, 112, 111, 114, 116, 101, 100, 95, 97]⟩, ⟨#[51]⟩⟩ : Lab.L), by rw [Lib.cell_of_heap hc1]; rfl, by rw [Lib.cell_of_heap hc1]; rfl, by decide, by decide⟩
            · exact ⟨(⟨⟨#[101, 120, 112, 111, 114, 116, 101, 100, 95, 98]⟩, ⟨#[50]⟩⟩ : Lab.L), by rw [Lib.cell_of_heap hc1]; rfl, by rw [Lib.cell_of_heap hc1]; rfl, by decide, by decide⟩
            · exact ⟨(⟨⟨#[66]⟩, ⟨#[57]⟩⟩ : Lab.L), by rw [Lib.cell_of_heap hc1]; rfl, by rw [Lib.cell_of_heap hc1]; rfl, by decide, by decide⟩
            · exact ⟨(⟨⟨#[48]⟩, ⟨#[120]⟩⟩ : Lab.L), by rw [Lib.cell_of_heap hc1]; rfl, by rw [Lib.cell_of_heap hc1]; rfl, by decide, by decide⟩
            · exact ⟨(⟨⟨#[97, 98]⟩, ⟨#[255]⟩⟩ : Lab.L), by rw [Lib.cell_of_heap hc1]; rfl, by rw [Lib.cell_of_heap hc1]; rfl, by decide, by decide⟩
          have HBW2 := Lib.hid BW2
          clear hW hY hc1 hb BW2 HBW HNS
          go_loopw [107] (fun i wq => ∃ k : Nat, k ≤ 8 ∧ i = .int .i64 (k : Int) ∧ Below W2.heap.size W2 wq) (fun i _ => 8 - (intOf i).toNat)
          case atStart => exact ⟨0, by omega, rfl, Below.refl _ _⟩
          case round =>
          
            obtain ⟨wo1, rfl⟩ : ∃ wo : World, wo = wr := ⟨_, rfl⟩
            obtain ⟨k1, hk1, rfl, hb1⟩ := hrel
            by_cases hlt1 : k1 < 8
            · have m1 : (0 : Int) ≤ (k1 : Int) := by omega
              have m1b : (k1 : Int) < 8 := by omega
              obtain ⟨x1, d1, e1, zn1, zv1⟩ := HSM.out k1 hlt1
              have c1a := cell_later hb1 d1 (Nat.le_refl _)
              have c1b := cell_later hb1 e1 (Nat.le_refl _)
              have hY1 : Y < wo1.heap.size := World.block_lt_of_cell? _ _ c1a
              clear d1 e1
              go_wp2_with fail
              obtain ⟨W3, hW⟩ : ∃ W, W = wo1.alloc (.cells #[.string x1.n, .string x1.v] 31) := ⟨_, rfl⟩
              have hP : W3.heap[wo1.heap.size]? = some (.cells #[.string x1.n, .string x1.v] 31) := by rw [hW]; exact alloc_new _ _
              have HB3 : Hid (Below W2.heap.size W2 W3) := by show Below W2.heap.size W2 W3; rw [hW]; exact hb1.alloc hb1.size _
              obtain ⟨P, hPe⟩ : ∃ X, wo1.heap.size = X := ⟨_, rfl⟩
              rw [← hW, hPe]
              rw [hPe] at hP
              have HP := Lib.hid hP
              clear hW hPe hP c1a c1b hb1 hY1
              go_loopw [113] (fun i wq => ∃ k : Nat, k ≤ 8 ∧ i = .int .i64 (k : Int) ∧ Below W3.heap.size W3 wq) (fun i _ => 8 - (intOf i).toNat)
              case atStart => exact ⟨0, by omega, rfl, Below.refl _ _⟩
              case round =>
                obtain ⟨wo2, rfl⟩ : ∃ wo : World, wo = wr := ⟨_, rfl⟩
                obtain ⟨k2, hk2, rfl, hb2⟩ := hrel
                by_cases hlt2 : k2 < 8
                · have m2 : (0 : Int) ≤ (k2 : Int) := by omega
                  have m2b : (k2 : Int) < 8 := by omega
                  obtain ⟨x2, d2, e2, zn2, zv2⟩ := HSM.out k2 hlt2
                  have c2a := cell_later (HB3.out.trans (hb2.mono HB3.out.size)) d2 (Nat.le_refl _)
                  have c2b := cell_later (HB3.out.trans (hb2.mono HB3.out.size)) e2 (Nat.le_refl _)
                  have hY2 : Y < wo2.heap.size := World.block_lt_of_cell? _ _ c2a
                  clear d2 e2
                  go_wp2_with fail
                  obtain ⟨W4, hW⟩ : ∃ W, W = wo2.alloc (.cells #[.string x2.n, .string x2.v] 31) := ⟨_, rfl⟩
                  have hQ : W4.heap[wo2.heap.size]? = some (.cells #[.string x2.n, .string x2.v] 31) := by rw [hW]; exact alloc_new _ _
                  have HB34 : Hid (Below W3.heap.size W3 W4) := by show Below W3.heap.size W3 W4; rw [hW]; exact hb2.alloc hb2.size _
                  have HB4 : Hid (Below W2.heap.size W2 W4) := HB3.out.trans (HB34.out.mono HB3.out.size)
                  obtain ⟨Qb, hQe⟩ : ∃ X, wo2.heap.size = X := ⟨_, rfl⟩
                  rw [← hW, hQe]
                  rw [hQe] at hQ
                  have HQ := Lib.hid hQ
                  clear hW hQe hQ c2a c2b hb2 hY2
                  go_loopw [119] (fun i wq => ∃ k : Nat, k ≤ 8 ∧ i = .int .i64 (k : Int) ∧ Below W4.heap.size W4 wq) (fun i _ => 8 - (intOf i).toNat)
                  case atStart => exact ⟨0, by omega, rfl, Below.refl _ _⟩
                  case round =>
                    obtain ⟨wo3, rfl⟩ : ∃ wo : World, wo = wr := ⟨_, rfl⟩
                    obtain ⟨k3, hk3, rfl, hb3⟩ := hrel
                    by_cases hlt3 : k3 < 8
                    · have m3 : (0 : Int) ≤ (k3 : Int) := by omega
                      have m3b : (k3 : Int) < 8 := by omega
                      obtain ⟨x3, d3, e3, zn3, zv3⟩ := HSM.out k3 hlt3
                      have c3a := cell_later (HB4.out.trans (hb3.mono HB4.out.size)) d3 (Nat.le_refl _)
                      have c3b := cell_later (HB4.out.trans (hb3.mono HB4.out.size)) e3 (Nat.le_refl _)
                      have hY3 : Y < wo3.heap.size := World.block_lt_of_cell? _ _ c3a
                      clear d3 e3
                      have hP3 := below_kept (HB34.out.trans (hb3.mono HB34.out.size)) HP.out (lt_of_heap HP.out)
                      have hQ3 := below_kept hb3 HQ.out (lt_of_heap HQ.out)
                      have p0 : wo3.cell? ⟨P, 0, none⟩ = some (.string x1.n) := by rw [Lib.cell_of_heap hP3]; rfl
                      have p1 : wo3.cell? ⟨P, 1, none⟩ = some (.string x1.v) := by rw [Lib.cell_of_heap hP3]; rfl
                      have q0 : wo3.cell? ⟨Qb, 0, none⟩ = some (.string x2.n) := by rw [Lib.cell_of_heap hQ3]; rfl
                      have q1 : wo3.cell? ⟨Qb, 1, none⟩ = some (.string x2.v) := by rw [Lib.cell_of_heap hQ3]; rfl
                      have lP := lt_of_heap hP3
                      have lQ := lt_of_heap hQ3
                      have HP3 := Lib.hid hP3
                      have HQ3 := Lib.hid hQ3
                      clear hP3 hQ3
                      go_wp2_with fail
                      obtain ⟨W5, hW⟩ : ∃ W, W = (wo3.alloc (.cells #[.string x3.n, .string x3.v] 31)).alloc (.cells #[.string x1.n, .string x1.v, .string x2.n, .string x2.v, .string x3.n, .string x3.v] 31) := ⟨_, rfl⟩
                      have hR5 : W5.heap[wo3.heap.size]? = some (.cells #[.string x3.n, .string x3.v] 31) := by rw [hW]; exact alloc_kept (alloc_new _ _)
                      have hL5 : W5.heap[wo3.heap.size + 1]? = some (.cells #[.string x1.n, .string x1.v, .string x2.n, .string x2.v, .string x3.n, .string x3.v] 31) := by
                        rw [hW]
                        have := alloc_new (wo3.alloc (.cells #[.string x3.n, .string x3.v] 31)) (.cells #[.string x1.n, .string x1.v, .string x2.n, .string x2.v, .string x3.n, .string x3.v] 31)
                        rw [World.size_alloc] at this
                        exact this
                      have hP5 : W5.heap[P]? = some (.cells #[.string x1.n, .string x1.v] 31) := by rw [hW]; exact alloc_kept (alloc_kept HP3.out)
                      have hQ5 : W5.heap[Qb]? = some (.cells #[.string x2.n, .string x2.v] 31) := by rw [hW]; exact alloc_kept (alloc_kept HQ3.out)
                      have B5 : Below W4.heap.size W4 W5 := by rw [hW]; exact (hb3.alloc hb3.size _).alloc (hb3.alloc hb3.size _).size _
                      obtain ⟨Rb, hRe⟩ : ∃ X, wo3.heap.size = X := ⟨_, rfl⟩
                      rw [← hW, hRe]
                      rw [hRe] at hR5 hL5
                      have HL5 : Hid (Lab.At (some ⟨Rb + 1, 0, none⟩) [x1, x2, x3] W5) := by
                        refine .inr ⟨Rb + 1, 0, rfl, fun i hi => ?_⟩
                        have hi3 : i < 3 := hi
                        obtain rfl | rfl | rfl : i = 0 ∨ i = 1 ∨ i = 2 := by omega
                        all_goals (rw [Lib.cell_of_heap hL5, Lib.cell_of_heap hL5]; exact ⟨rfl, rfl⟩)
                      have z0 : W5.cell? ⟨P, 0, none⟩ = some (.string x1.n) := by rw [Lib.cell_of_heap hP5]; rfl
                      have z1 : W5.cell? ⟨Qb, 0, none⟩ = some (.string x2.n) := by rw [Lib.cell_of_heap hQ5]; rfl
                      have z2 : W5.cell? ⟨Rb, 1, none⟩ = some (.string x3.v) := by rw [Lib.cell_of_heap hR5]; rfl
                      have HZ0 := Lib.hid z0
                      have HZ1 := Lib.hid z1
                      have HZ2 := Lib.hid z2
                      have HLA : Hid (∀ w', Below W5.heap.size W5 w' → Lab.At (some ⟨Rb + 1, 0, none⟩) [x1, x2, x3] w') := fun w' h => HL5.out.below h (Nat.le_refl _)
                      have HFT : Hid (Lab.Fit maxLen [x1, x2, x3]) := fun x hx => by
                        simp only [List.mem_cons, List.not_mem_nil, or_false] at hx
                        rcases hx with rfl | rfl | rfl
                        · exact ⟨Sm.max zn1 (by omega), Sm.max zv1 (by omega)⟩
                        · exact ⟨Sm.max zn2 (by omega), Sm.max zv2 (by omega)⟩
                        · exact ⟨Sm.max zn3 (by omega), Sm.max zv3 (by omega)⟩
                      clear hW hRe hR5 hL5 hP5 hQ5 z0 z1 z2 HL5 p0 p1 q0 q1 c3a c3b hb3 hY3 lP lQ HP3 HQ3
                      refine Sm.r26 _ (by kernel_rfl) x1 x2 x3 P Qb Rb zn1 zn2 zv3 W5 HZ0 HZ1 HZ2 HLA HFT _ _ (fun _ _ _ _ _ h => h) _ _ _ _ _ _ _ _ _ _ _ _ _ _ _ _ _ _ _ _ _ _ _ _ _ _ _ _ _ _ _ _ _ _ _ _ _ _ _ _ _ _ _ _ _ _ _ _ _ _ _ _ _ _ _ _ _ _ _ _ _ _ _ _ _ _ _ _ _ _ _ _ _ _ _ _ _ _ _ _ _ _ _ _ _ _ _ _ _ _ _ _ _ _ _ _ _ _ _ _ _ _ _ _ _ _ _ _ _ _ _ _ _ _ _ _ _ _ _ _ _ _ _ _ _ _ _ _ _ _ _ _ _ _ _ _ _ _ _ _ _ _ _ _ _ _ _ _ _ _ _ _ _ _ _ _ _ _ _ _ _ _ _ _ _ _ _ _ _ _ _ _ _ _ _ _ _ _ _ _ _ _ _ _ _ _ _ _ _ _ _ _ _ _ _ _ _ _ _ _ _ _ _ _ _ _ _ _ _ _ _ _ _ _ _ _ _ _ _ _ _ _ _ _ _ _ _ _ _ _ _ _ _ _ _ _ _ ?_
                      intro _ _ _ _ _ _ _ _ _ _ _ _ _ _ _ _ _ _ _ _ _ _ _ _ _ _ _ _ w' hHeld
                      have B9 := B5.trans (hHeld.mono B5.size)
                      go_wp2_with fail
                      go_roundw
                      case rel => exact ⟨k3 + 1, by omega, by go_num, B9⟩
                      case measure => simp [intOf]; omega
                    · obtain rfl : k3 = 8 := by omega
                      rw [show ((8 : Nat) : Int) = 8 from rfl]
                      have B9 := HB34.out.trans (hb3.mono HB34.out.size)
                      go_wp2_with fail
                      go_roundw
                      case rel => exact ⟨k2 + 1, by omega, by go_num, B9⟩
                      case measure => simp [intOf]; omega
                · obtain rfl : k2 = 8 := by omega
                  rw [show ((8 : Nat) : Int) = 8 from rfl]
                  have B9 := HB3.out.trans (hb2.mono HB3.out.size)
                  go_wp2_with fail
                  go_roundw
                  case rel => exact ⟨k1 + 1, by omega, by go_num, B9⟩
                  case measure => simp [intOf]; omega
            · obtain rfl : k1 = 8 := by omega
              rw [show ((8 : Nat) : Int) = 8 from rfl]
              have BM : Below w.heap.size w wo1 := HBW2.out.trans (hb1.mono HBW2.out.size)
              clear hb1 HSM HBW2
              go_wp2_with fail
              go_loopw [14, 159] (fun v i wq => ∃ (k : Nat) (l : List Lab.L), k ≤ 65 ∧ i = .int .i64 (k : Int) ∧ Hid (l.length = k) ∧ Hid (Lab.Fit 100 l) ∧ OwnLabels w.heap.size v l wq ∧ Below w.heap.size w wq) (fun _ i _ => 65 - (intOf i).toNat)
              case atStart => exact ⟨0, [], by omega, rfl, rfl, (fun x hx => by cases hx), OwnLabels.nil _ _, BM⟩
              case round =>
                clear BM
                obtain ⟨k, l, hk, rfl, HLN, HFL, hown, hb⟩ := hrel
                by_cases hlt : k < 65
                · have m1 : (0 : Int) ≤ (k : Int) := by omega
                  have m2 : (k : Int) < 65 := by omega
                  have m3 : (0 : Int) ≤ (k : Int) / 26 := by omega
                  have m4 : (k : Int) / 26 ≤ 2 := by omega
                  have m5 : (0 : Int) ≤ (k : Int) % 26 := by omega
                  have m6 : (k : Int) % 26 < 26 := by omega
                  have C0 := fun W => conv_bytes [UInt8.ofNat (97 + k / 26), UInt8.ofNat (97 + k % 26)] #[.int .u8 ((97 + k / 26 : Nat) : Int), .int .u8 ((97 + k % 26 : Nat) : Int)] (Sm.two_cells _ _ (by omega) (by omega)) W 2 rfl (by omega)
                  rw [show ((97 + k / 26 : Nat) : Int) = 97 + (k : Int) / 26 by omega, show ((97 + k % 26 : Nat) : Int) = 97 + (k : Int) % 26 by omega] at C0
                  obtain ⟨s, hs⟩ : ∃ s, (⟨[UInt8.ofNat (97 + k / 26), UInt8.ofNat (97 + k % 26)].toArray⟩ : ByteArray) = s := ⟨_, rfl⟩
                  have z1 : s.size ≤ 2 := by rw [← hs]; exact Sm.lit
                  rw [hs] at C0
                  have hown2 := hown.alloc (.cells #[.int .u8 (97 + (k : Int) / 26), .int .u8 (97 + (k : Int) % 26)] 5)
                  have hb2 := hb.alloc hb.size (.cells #[.int .u8 (97 + (k : Int) / 26), .int .u8 (97 + (k : Int) % 26)] 5)
                  have HLK : Hid ((l ++ [(⟨⟨#[110]⟩ ++ s, ⟨#[118]⟩⟩ : Lab.L)]).length = k + 1) := by show (l ++ [_]).length = _; rw [List.length_append, HLN.out]; rfl
                  have HFK : Hid (Lab.Fit 100 (l ++ [(⟨⟨#[110]⟩ ++ s, ⟨#[118]⟩⟩ : Lab.L)])) := Sm.fit_app HFL.out (fun x hx => by
                    simp only [List.mem_cons, List.not_mem_nil, or_false] at hx
                    subst hx
                    exact ⟨Nat.le_trans (Sm.app Sm.lit z1) (Sm.ble rfl), Nat.le_trans Sm.lit (Sm.ble rfl)⟩)
                  have hlk : l.length ≤ 65 := by rw [HLN.out]; omega
                  clear hs hown hb
                  go_wp2_with (at_builtin; refine wpList_pushL 25 Tryz.underlying25 rfl _ _ rfl _ _ _ _ rfl hown2 ⟨⟨#[110]⟩ ++ s, ⟨#[118]⟩⟩ _ _ rfl _ rfl (by simp) ?cm1 ?cm2 ?_)
                  case cm1 => omega
                  case cm2 => exact hb2.size
                  intro v' w4 hown' hg
                  have hb5 := below_push _ hb2 hown2 hg
                  go_wp2_with fail
                  go_roundw
                  case rel => exact ⟨k + 1, _, by omega, by go_num, HLK, HFK, hown', hb5⟩
                  case measure => simp [intOf]; omega
                · obtain rfl : k = 65 := by omega
                  rw [show ((65 : Nat) : Int) = 65 from rfl]
                  obtain ⟨g, cap, rfl, hgB, hgl, hcp, hcm⟩ := hown.form (by rw [HLN.out]; omega)
                  rw [HLN.out] at hown hcp ⊢
                  unfold maxLen at hcm
                  have HRP := Lib.hid (fun w => Tryz.strings_Repeat ⟨#[121]⟩ 120 w (by omega) (by show 1 * 120 ≤ _; omega))
                  go_wp2_with (go_at_call 6; refine (HRP.out _).mono ?_)
                  first | rintro e v0 rfl hb0 | rintro e v0 ⟨rfl, hb0⟩
                  obtain ⟨R, hR⟩ : ∃ R, ByteArray.mk (Lib.repeatL (ByteArray.mk #[121]).data.toList 120).toArray = R := ⟨_, rfl⟩
                  have hRz : R.size = 120 := by rw [← hR]; show (List.toArray _).size = _; rw [List.size_toArray, Lib.repeatL_length]; rfl
                  have z1 : R.size ≤ 120 := by omega
                  have z2 : 119 ≤ R.size := by omega
                  have z3 : (119 : Int) ≤ (R.size : Int) := by omega
                  rw [hR]
                  have B0 := below_next hb hb0
                  have HMN : Hid (∀ w', Below v0.heap.size v0 w' → Lab.At (some ⟨g, 0, none⟩) l w') := fun w' h => (hown.below hb0 (Nat.le_refl _)).at.below h (Nat.le_refl _)
                  have HFM : Hid (Lab.Fit maxLen l) := fun x hx => ⟨Sm.max (HFL.out x hx).1 (Sm.ble rfl), Sm.max (HFL.out x hx).2 (Sm.ble rfl)⟩
                  have HL64 : Hid ((l.take 64).length = 64) := by show (l.take 64).length = 64; rw [List.length_take, HLN.out]; rfl
                  have HL63 : Hid ((l.take 63).length = 63) := by show (l.take 63).length = 63; rw [List.length_take, HLN.out]; rfl
                  have HLD : Hid ((l.drop 1).length = 64) := by show (l.drop 1).length = 64; rw [List.length_drop, HLN.out]
                  have i1 : (65 : Int) ≤ (cap : Int) := by omega
                  have i2 : (64 : Int) ≤ (cap : Int) := by omega
                  have i3 : (63 : Int) ≤ (cap : Int) := by omega
                  have i4 : ¬ cap = 1 := by omega
                  have i5 : (1 : Int) ≤ (cap : Int) := by omega
                  have HGV : Hid (g < v0.heap.size) := Nat.lt_of_lt_of_le hgl hb0.size
                  clear hR hRz HRP hb0 hown hb HFL hgl
                  go_wp2_with fail
                  refine Sm.r38 _ (by kernel_rfl) R z1 z2 z3 g cap l hcp hcm (by rw [HLN.out]; omega) i1 i2 i3 i4 i5 v0 HMN HFM HLN HL64 HL63 HLD HGV _ _ (fun _ _ _ _ _ h => h) _ _ _ _ _ _ _ _ _ _ _ _ _ _ _ _ _ _ _ _ _ _ _ _ _ _ _ _ _ _ _ _ _ _ _ _ _ _ _ _ _ _ _ _ _ _ _ _ _ _ _ _ _ _ _ _ _ _ _ _ _ _ _ _ _ _ _ _ _ _ _ _ _ _ _ _ _ _ _ _ _ _ _ _ _ _ _ _ _ _ _ _ _ _ _ _ _ _ _ _ _ _ _ _ _ _ _ _ _ _ _ _ _ _ _ _ _ _ _ _ _ _ _ _ _ _ _ _ _ _ _ _ _ _ _ _ _ _ _ _ _ _ _ _ _ _ _ _ _ _ _ _ _ _ _ _ _ _ _ _ _ _ _ _ _ _ _ _ _ _ _ _ _ _ _ _ _ _ _ _ _ _ _ _ _ _ _ _ _ _ _ _ _ _ _ _ _ _ _ _ _ _ _ _ _ _ _ _ _ _ _ _ _ _ _ _ _ _ _ _ _ _ _ _ _ _ _ _ _ _ _ _ _ _ _ _ _ _ _ ?_
                  intro _ _ _ _ _ _ _ _ _ _ _ _ _ _ _ _ _ _ _ _ _ _ _ _ _ _ _ _ _ _ _ _ _ _ _ _ _ _ _ _ _ _ _ _ _ _ _ _ _ _ _ _ _ _ _ _ _ _ _ _ _ _ w' hHeld
                  have B9 := B0.trans (hHeld.mono B0.size)
                  go_wp2_with fail
                  go_ret
                  exact ⟨rfl, B9⟩
end Go.Proofs.YtbilaghljlobpaaGreat
