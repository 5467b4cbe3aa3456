/- A region, or a block, taken out of a function's code by its number. Contract of slices.symMergeCmpFunc at pairs, of one element before the others, or behind them. (Printed by gen_sym.py.) Contract of slices.symMergeCmpFunc at pairs: two sorted parts become one. (Printed by gen_symb.py.) Plain law: blocks that are sorted. Contracts of slices.stableCmpFunc and slices.SortStableFunc at pairs. Contracts of slices.SortStableFunc and slices.CompactFunc at rows of pairs of the call's own, empty ones too. Contract of slices.CompactFunc at rows of pairs of the call's own. -/
import Derived.Test.YtpnpgjjbincigaaProg
import Derived.Test.YtpnpgjjbincigaaPoA
import Derived.Deep.DeepCutAuto
import Derived.Deep.CutBlock
import Derived.Sort.LotD2
namespace Go.Proofs.Ytpnpgjjbincigaa
def Cut.reg (n : Nat) : Code → Option Code
  | .region m ops d => if Nat.beq m n then some (.region m ops d) else none
  | .seq a b => match Cut.reg n a with
    | some c => some c
    | none => Cut.reg n b
  | .cond _ a b => match Cut.reg n a with
    | some c => some c
    | none => Cut.reg n b
  | .block _ c => Cut.reg n c
  | .loop c => Cut.reg n c
  | .scope c => Cut.reg n c
  | _ => none
def Cut.blk (n : Nat) : Code → Option Code
  | .seq a b => match Cut.blk n a with
    | some c => some c
    | none => Cut.blk n b
  | .cond _ a b => match Cut.blk n a with
    | some c => some c
    | none => Cut.blk n b
  | .block m c => if Nat.beq m n then some (.block m c) else Cut.blk n c
  | .loop c => Cut.blk n c
  | .scope c => Cut.blk n c
  | _ => none
end Go.Proofs.Ytpnpgjjbincigaa
namespace Go.Proofs.Ytpnpgjjbincigaa
open Go.RowKit Go.Sort
set_option linter.unusedVariables false
def SymIs (B g n c : Nat) (d : Array Pr) (a b : Nat) (w : World) : Ending → World → Prop := fun e w' =>
  e = .returned (.tuple #[]) ∧ ∃ d', PrRow B g n c d' w' ∧ (PermIn a b d d' ∧ SortedIn Pr.lt a b d') ∧ Below B w w'

set_option maxHeartbeats 6400000 in
set_option maxRecDepth 100000 in
theorem sym_first (B g n c : Nat) (d : Array Pr) (a m b : Nat) (w : World) (h : PrRow B g n c d w) (hs1 : SortedIn Pr.lt a m d) (hs2 : SortedIn Pr.lt m b d) (ham : a < m) (hmb : m < b) (hb : b ≤ n) (hl : n ≤ 1000000000) (hone : m = a + 1) :
    Calls Try.prog 98 #[.slice (some ⟨g, 0, none⟩) n c, .int .i64 a, .int .i64 m, .int .i64 b, .func (.func 59) #[] #[]] w (SymIs B g n c d a b w) := by
  have H := Lib.hid h
  have hsz := h.2.1
  have mixed : Try.prog.follows .mixedOrders = true := by kernel_rfl
  have HC := Lib.hid prCmp_is
  have HS1 := Lib.hid hs1
  have HS2 := Lib.hid hs2
  clear h hs1 hs2
  have z1 : IntKind.i64.wrap ((m : Int) - (a : Int)) = 1 := by rw [IntKind.wrap_i64]; omega
  have z2 : (m : Int) - (a : Int) = 1 := by omega
  have HONE := Lib.hid hone
  clear hone
  go_enter Try.func98, Try.ntmps98
  unfold SymIs
  go_wp2_with fail
  go_loopw [10, 11] (fun iv jv wr => ∃ (i j : Nat), i ≤ j ∧ j ≤ b ∧ m ≤ i ∧ iv = .int .i64 (i : Int) ∧ jv = .int .i64 (j : Int) ∧ Hid (Stab.SchL Pr.lt d d[a]! m b i j) ∧ Hid (PrRow B g n c d wr) ∧ Below B w wr) (fun iv jv _ => (intOf jv).toNat - (intOf iv).toNat)
  case atStart => exact ⟨m, b, by omega, Nat.le_refl _, Nat.le_refl _, rfl, rfl, Stab.SchL.start _ _ (by omega), H, Below.refl _ _⟩
  case round =>
    clear z1 z2
    obtain ⟨wj, rfl⟩ : ∃ wo : World, wo = wr := ⟨_, rfl⟩
    obtain ⟨i, j, hij, hjb, hmi, rfl, rfl, HSC, HR, hbw⟩ := hrel
    by_cases hlt : i < j
    · have m1 : (i : Int) < (j : Int) := by omega
      obtain ⟨h, hq0⟩ : ∃ h : Nat, (i + j) / 2 = h := ⟨_, rfl⟩
      have hq1 : i ≤ h ∧ h < j := by omega
      have hq : (((i : Nat) : Int) + ((j : Nat) : Int)) / 2 = (h : Int) := by omega
      have q1 : (0 : Int) ≤ (((i : Nat) : Int) + ((j : Nat) : Int)) := by omega
      have q2 : (((i : Nat) : Int) + ((j : Nat) : Int)) < 9223372036854775808 := by omega
      have q3 : (0 : Int) ≤ (h : Int) := by omega
      have q4 : (h : Int) < (n : Int) := by omega
      clear hq0
      have a1 : (0 : Int) ≤ (a : Int) := by omega
      have a2 : (a : Int) < (n : Int) := by omega
      obtain ⟨x, hx⟩ : ∃ x, d[h]! = x := ⟨_, rfl⟩
      obtain ⟨y, hy⟩ : ∃ y, d[a]! = y := ⟨_, rfl⟩
      have HTW := Lib.hid (HR.out.two (h) (a) (by omega) (by omega) hx hy)
      obtain ⟨r, hr⟩ : ∃ r, strC x.k y.k = r := ⟨_, rfl⟩
      have HCC := Lib.hid (fun w => HC.out x y r hr w)
      have HLT : Hid (r < 0 ↔ Pr.lt x y = true) := by show _ ↔ _; rw [← hr]; exact Pr.lt_is x y
      have HX := Lib.hid hx
      have HY := Lib.hid hy
      obtain ⟨xk, xs, xt⟩ := x
      obtain ⟨yk, ys, yt⟩ := y
      obtain ⟨b0, c0, c1, c2, c3, c4, c5⟩ := HTW.out _ ((Below.refl _ wj).drew)
      dsimp only at c0 c1 c2 c3 c4 c5
      clear hr hx hy
      obtain ⟨bt, hbt⟩ : ∃ bt, decide (r < 0) = bt := ⟨_, rfl⟩
      go_wp2_with fail
      go_region_held3 (fun w' => Below wj.heap.size wj w' ∧ w'.cell? ⟨g, h * 3, none⟩ = some (.string xk) ∧ w'.cell? ⟨g, h * 3 + 1, none⟩ = some (.pointer xs) ∧ w'.cell? ⟨g, h * 3 + 2, none⟩ = some (.pointer xt) ∧ w'.cell? ⟨g, a * 3, none⟩ = some (.string yk) ∧ w'.cell? ⟨g, a * 3 + 1, none⟩ = some (.pointer ys) ∧ w'.cell? ⟨g, a * 3 + 2, none⟩ = some (.pointer yt)) (first | exact HTW.out _ (b0.trans (by assumption)) | exact HTW.out _ (by assumption) | go_keep) ((go_at_call 59; refine (HCC.out _).mono ?_; rintro e w1 ⟨rfl, hb1⟩))
      have hB1 : Below wj.heap.size wj w1 := b0.trans hb1
      have HR1 := Lib.hid (HR.out.later hB1)
      have hbw1 : Below B w w1 := hbw.trans (hB1.mono HR.out.2.2)
      clear hb1 hB1 b0 c0 c1 c2 c3 c4 c5 HTW HCC HR hbw q1 q2
      have HBT := Lib.hid hbt
      clear hbt
      rcases Bool.eq_false_or_eq_true bt with hbt | hbt
      all_goals subst hbt
      · have hlv : r < 0 := of_decide_eq_true HBT.out
        have hlt2 := HLT.out.1 hlv
        clear hlv
        have HN : Hid (Stab.SchL Pr.lt d d[a]! m b (h + 1) j) := HSC.out.up Pr.swo HS2.out hq1.1 hq1.2 (by rw [HX.out, HY.out]; exact hlt2)
        have y1 : IntKind.i64.wrap ((h : Int) + 1) = (h : Int) + 1 := by rw [IntKind.wrap_i64]; omega
        clear HLT HX HY HSC
        go_wp2_with fail
        go_roundw
        case rel => first | exact ⟨h + 1, j, by omega, hjb, by omega, by go_num, rfl, HN, HR1, hbw1⟩ | exact ⟨h + 1, j, by omega, hjb, by omega, by go_num, rfl, HN⟩
        case measure => simp [intOf]; omega
      · have hlv : ¬ r < 0 := of_decide_eq_false HBT.out
        have HN : Hid (Stab.SchL Pr.lt d d[a]! m b i h) := HSC.out.down Pr.swo HS2.out hq1.1 hq1.2 (by
          rw [HX.out, HY.out]
          cases hq : Pr.lt _ _ with
          | false => rfl
          | true => exact (hlv (HLT.out.2 hq)).elim)
        clear hlv
        clear HLT HX HY HSC
        go_wp2_with fail
        go_roundw
        case rel => first | exact ⟨i, h, by omega, by omega, hmi, rfl, rfl, HN, HR1, hbw1⟩ | exact ⟨i, h, by omega, by omega, hmi, rfl, rfl, HN⟩
        case measure => simp [intOf]; omega
    · obtain rfl : i = j := by omega
      have m1 : ¬ (i : Int) < (i : Int) := by omega
      go_wp2_with fail
      go_loopw [13] (fun kv wr => ∃ (k : Nat) (dk : Array Pr), a ≤ k ∧ k + 1 ≤ i ∧ dk.size = n ∧ kv = .int .i64 (k : Int) ∧ Hid (Stab.at' dk = Stab.rot (Stab.at' d) a (a + 1) (k + 1)) ∧ Hid (PermIn a b d dk) ∧ Hid (PrRow B g n c dk wr) ∧ Below B w wr) (fun kv _ => i - (intOf kv).toNat)
      case atStart => exact ⟨a, d, Nat.le_refl _, by omega, hsz, rfl, (Stab.rot_right _ _ _).symm, permIn_refl _ _ _, HR, hbw⟩
      case round =>
      clear HR hbw
      obtain ⟨k, dk, hak, hki, hdk, rfl, HA, HP, HR, hbw⟩ := hrel
      have y0 : IntKind.i64.wrap ((i : Int) - 1) = (i : Int) - 1 := by rw [IntKind.wrap_i64]; omega
      by_cases hlt2 : k + 1 < i
      · have m2 : (k : Int) < (i : Int) - 1 := by omega
        have y1 : IntKind.i64.wrap ((k : Int) + 1) = (k : Int) + 1 := by rw [IntKind.wrap_i64]; omega
        have y2 : (0 : Int) ≤ (k : Int) := by omega
        have y3 : (k : Int) < (n : Int) := by omega
        have y4 : (0 : Int) ≤ (k : Int) + 1 := by omega
        have y5 : (k : Int) + 1 < (n : Int) := by omega
        have y6 : ((k : Int) + 1).toNat = k + 1 := by omega
        have HSW := Lib.hid (HR.out.swapped (k) (k + 1) (by omega) (by omega))
        obtain ⟨c0, c1, c2⟩ := HR.out.cells (k) (by omega)
        obtain ⟨d0, d1, d2⟩ := HR.out.cells (k + 1) (by omega)
        have f0 := HR.out.free ((k) * 3)
        have f1 := HR.out.free ((k) * 3 + 1)
        have f2 := HR.out.free ((k) * 3 + 2)
        have g0 := HR.out.free ((k + 1) * 3)
        have g1 := HR.out.free ((k + 1) * 3 + 1)
        have g2 := HR.out.free ((k + 1) * 3 + 2)
        obtain ⟨x, hx⟩ : ∃ x, dk[k]! = x := ⟨_, rfl⟩
        obtain ⟨y, hy⟩ : ∃ y, dk[k + 1]! = y := ⟨_, rfl⟩
        rw [hx] at c0 c1 c2 HSW
        rw [hy] at d0 d1 d2 HSW
        obtain ⟨xk, xs, xt⟩ := x
        obtain ⟨yk, ys, yt⟩ := y
        dsimp only at c0 c1 c2 d0 d1 d2
        have HA2 : Hid (Stab.at' (swp dk k (k + 1)) = Stab.rot (Stab.at' d) a (a + 1) (k + 2)) := Stab.rot_up dk d a k HA.out (by omega) hak (by omega)
        have HP2 : Hid (PermIn a b d (swp dk k (k + 1))) := permIn_trans _ _ _ _ _ HP.out (swp_permIn _ _ _ _ _ (by omega) (by omega) (by omega) (by omega) (by omega))
        clear HA HP HR hx hy
        go_wp2_with fail
        go_region
        go_wp2_with fail
        go_roundw
        case rel => exact ⟨k + 1, _, by omega, by omega, by rw [size_swp]; exact hdk, by go_num, HA2, HP2, HSW.out.1.drew, hbw.trans HSW.out.2.drew⟩
        case measure => simp [intOf]; omega
      · have m2 : ¬ (k : Int) < (i : Int) - 1 := by omega
        obtain rfl : i = k + 1 := by omega
        go_wp2_with fail
        (try simp only [Exit.inBlock, Exit.then])
        refine bodyPost_ret (results_none rfl _ _ _) rfl ?_
        obtain hone := HONE.out
        subst hone
        exact ⟨rfl, dk, HR.out, ⟨HP.out, Stab.one_first Pr.swo HSC.out HS2.out HA.out⟩, hbw⟩
set_option maxHeartbeats 6400000 in
set_option maxRecDepth 100000 in
theorem sym_last (B g n c : Nat) (d : Array Pr) (a m b : Nat) (w : World) (h : PrRow B g n c d w) (hs1 : SortedIn Pr.lt a m d) (hs2 : SortedIn Pr.lt m b d) (ham : a < m) (hmb : m < b) (hb : b ≤ n) (hl : n ≤ 1000000000) (hnot : m ≠ a + 1) (hone : b = m + 1) :
    Calls Try.prog 98 #[.slice (some ⟨g, 0, none⟩) n c, .int .i64 a, .int .i64 m, .int .i64 b, .func (.func 59) #[] #[]] w (SymIs B g n c d a b w) := by
  have H := Lib.hid h
  have hsz := h.2.1
  have mixed : Try.prog.follows .mixedOrders = true := by kernel_rfl
  have HC := Lib.hid prCmp_is
  have HS1 := Lib.hid hs1
  have HS2 := Lib.hid hs2
  clear h hs1 hs2
  have z1 : IntKind.i64.wrap ((m : Int) - (a : Int)) = (m : Int) - (a : Int) := by rw [IntKind.wrap_i64]; omega
  have z2 : ((m : Int) - (a : Int) == 1) = false := beq_eq_false_iff_ne.2 (by omega)
  have z3 : ¬ (m : Int) - (a : Int) = 1 := by omega
  have z4 : IntKind.i64.wrap ((b : Int) - (m : Int)) = 1 := by rw [IntKind.wrap_i64]; omega
  have z5 : (b : Int) - (m : Int) = 1 := by omega
  have HONE := Lib.hid hone
  clear hone
  go_enter Try.func98, Try.ntmps98
  unfold SymIs
  go_wp2_with fail
  go_loopw [14, 15] (fun iv jv wr => ∃ (i j : Nat), i ≤ j ∧ j ≤ m ∧ a ≤ i ∧ iv = .int .i64 (i : Int) ∧ jv = .int .i64 (j : Int) ∧ Hid (Stab.SchG Pr.lt d d[m]! a m i j) ∧ Hid (PrRow B g n c d wr) ∧ Below B w wr) (fun iv jv _ => (intOf jv).toNat - (intOf iv).toNat)
  case atStart => exact ⟨a, m, by omega, Nat.le_refl _, Nat.le_refl _, rfl, rfl, Stab.SchG.start _ _ (by omega), H, Below.refl _ _⟩
  case round =>
    clear z1 z2 z3 z4 z5
    obtain ⟨wj, rfl⟩ : ∃ wo : World, wo = wr := ⟨_, rfl⟩
    obtain ⟨i, j, hij, hjb, hmi, rfl, rfl, HSC, HR, hbw⟩ := hrel
    by_cases hlt : i < j
    · have m1 : (i : Int) < (j : Int) := by omega
      obtain ⟨h, hq0⟩ : ∃ h : Nat, (i + j) / 2 = h := ⟨_, rfl⟩
      have hq1 : i ≤ h ∧ h < j := by omega
      have hq : (((i : Nat) : Int) + ((j : Nat) : Int)) / 2 = (h : Int) := by omega
      have q1 : (0 : Int) ≤ (((i : Nat) : Int) + ((j : Nat) : Int)) := by omega
      have q2 : (((i : Nat) : Int) + ((j : Nat) : Int)) < 9223372036854775808 := by omega
      have q3 : (0 : Int) ≤ (h : Int) := by omega
      have q4 : (h : Int) < (n : Int) := by omega
      clear hq0
      have a1 : (0 : Int) ≤ (m : Int) := by omega
      have a2 : (m : Int) < (n : Int) := by omega
      obtain ⟨x, hx⟩ : ∃ x, d[m]! = x := ⟨_, rfl⟩
      obtain ⟨y, hy⟩ : ∃ y, d[h]! = y := ⟨_, rfl⟩
      have HTW := Lib.hid (HR.out.two (m) (h) (by omega) (by omega) hx hy)
      obtain ⟨r, hr⟩ : ∃ r, strC x.k y.k = r := ⟨_, rfl⟩
      have HCC := Lib.hid (fun w => HC.out x y r hr w)
      have HLT : Hid (r < 0 ↔ Pr.lt x y = true) := by show _ ↔ _; rw [← hr]; exact Pr.lt_is x y
      have HX := Lib.hid hx
      have HY := Lib.hid hy
      obtain ⟨xk, xs, xt⟩ := x
      obtain ⟨yk, ys, yt⟩ := y
      obtain ⟨b0, c0, c1, c2, c3, c4, c5⟩ := HTW.out _ ((Below.refl _ wj).drew)
      dsimp only at c0 c1 c2 c3 c4 c5
      clear hr hx hy
      obtain ⟨bt, hbt⟩ : ∃ bt, decide (r < 0) = bt := ⟨_, rfl⟩
      go_wp2_with fail
      go_region_held3 (fun w' => Below wj.heap.size wj w' ∧ w'.cell? ⟨g, m * 3, none⟩ = some (.string xk) ∧ w'.cell? ⟨g, m * 3 + 1, none⟩ = some (.pointer xs) ∧ w'.cell? ⟨g, m * 3 + 2, none⟩ = some (.pointer xt) ∧ w'.cell? ⟨g, h * 3, none⟩ = some (.string yk) ∧ w'.cell? ⟨g, h * 3 + 1, none⟩ = some (.pointer ys) ∧ w'.cell? ⟨g, h * 3 + 2, none⟩ = some (.pointer yt)) (first | exact HTW.out _ (b0.trans (by assumption)) | exact HTW.out _ (by assumption) | go_keep) ((go_at_call 59; refine (HCC.out _).mono ?_; rintro e w1 ⟨rfl, hb1⟩))
      have hB1 : Below wj.heap.size wj w1 := b0.trans hb1
      have HR1 := Lib.hid (HR.out.later hB1)
      have hbw1 : Below B w w1 := hbw.trans (hB1.mono HR.out.2.2)
      clear hb1 hB1 b0 c0 c1 c2 c3 c4 c5 HTW HCC HR hbw q1 q2
      have HBT := Lib.hid hbt
      clear hbt
      rcases Bool.eq_false_or_eq_true bt with hbt | hbt
      all_goals subst hbt
      · have hlv : r < 0 := of_decide_eq_true HBT.out
        have hlt2 := HLT.out.1 hlv
        clear hlv
        have HN : Hid (Stab.SchG Pr.lt d d[m]! a m i h) := HSC.out.down Pr.swo HS1.out hq1.1 hq1.2 (by rw [HX.out, HY.out]; exact hlt2)
        clear HLT HX HY HSC
        go_wp2_with fail
        go_roundw
        case rel => first | exact ⟨i, h, by omega, by omega, hmi, rfl, rfl, HN, HR1, hbw1⟩ | exact ⟨i, h, by omega, by omega, hmi, rfl, rfl, HN⟩
        case measure => simp [intOf]; omega
      · have hlv : ¬ r < 0 := of_decide_eq_false HBT.out
        have HN : Hid (Stab.SchG Pr.lt d d[m]! a m (h + 1) j) := HSC.out.up Pr.swo HS1.out hq1.1 hq1.2 (by
          rw [HX.out, HY.out]
          cases hq : Pr.lt _ _ with
          | false => rfl
          | true => exact (hlv (HLT.out.2 hq)).elim)
        clear hlv
        have y1 : IntKind.i64.wrap ((h : Int) + 1) = (h : Int) + 1 := by rw [IntKind.wrap_i64]; omega
        clear HLT HX HY HSC
        go_wp2_with fail
        go_roundw
        case rel => first | exact ⟨h + 1, j, by omega, hjb, by omega, by go_num, rfl, HN, HR1, hbw1⟩ | exact ⟨h + 1, j, by omega, hjb, by omega, by go_num, rfl, HN⟩
        case measure => simp [intOf]; omega
    · obtain rfl : i = j := by omega
      have m1 : ¬ (i : Int) < (i : Int) := by omega
      go_wp2_with fail
      go_loopw [17] (fun kv wr => ∃ (k : Nat) (dk : Array Pr), i ≤ k ∧ k ≤ m ∧ dk.size = n ∧ kv = .int .i64 (k : Int) ∧ Hid (Stab.at' dk = Stab.rot (Stab.at' d) k m (m + 1)) ∧ Hid (PermIn a b d dk) ∧ Hid (PrRow B g n c dk wr) ∧ Below B w wr) (fun kv _ => (intOf kv).toNat)
      case atStart => exact ⟨m, d, by omega, Nat.le_refl _, hsz, rfl, (Stab.rot_left _ _ _).symm, permIn_refl _ _ _, HR, hbw⟩
      case round =>
      clear HR hbw
      obtain ⟨k1, dk, hak, hki, hdk, rfl, HA, HP, HR, hbw⟩ := hrel
      by_cases hlt2 : i < k1
      · obtain ⟨k, rfl⟩ : ∃ k, k1 = k + 1 := ⟨k1 - 1, by omega⟩
        have m2 : (i : Int) < (k : Int) + 1 := by omega
        have y0 : IntKind.i64.wrap (k : Int) = (k : Int) := by rw [IntKind.wrap_i64]; omega
        have y2 : (0 : Int) ≤ (k : Int) := by omega
        have y3 : (k : Int) < (n : Int) := by omega
        have y4 : (0 : Int) ≤ (k : Int) + 1 := by omega
        have y5 : (k : Int) + 1 < (n : Int) := by omega
        have y6 : ((k : Int) + 1).toNat = k + 1 := by omega
        have HSW := Lib.hid (HR.out.swapped (k + 1) (k) (by omega) (by omega))
        obtain ⟨c0, c1, c2⟩ := HR.out.cells (k + 1) (by omega)
        obtain ⟨d0, d1, d2⟩ := HR.out.cells (k) (by omega)
        have f0 := HR.out.free ((k + 1) * 3)
        have f1 := HR.out.free ((k + 1) * 3 + 1)
        have f2 := HR.out.free ((k + 1) * 3 + 2)
        have g0 := HR.out.free ((k) * 3)
        have g1 := HR.out.free ((k) * 3 + 1)
        have g2 := HR.out.free ((k) * 3 + 2)
        obtain ⟨x, hx⟩ : ∃ x, dk[k + 1]! = x := ⟨_, rfl⟩
        obtain ⟨y, hy⟩ : ∃ y, dk[k]! = y := ⟨_, rfl⟩
        rw [hx] at c0 c1 c2 HSW
        rw [hy] at d0 d1 d2 HSW
        obtain ⟨xk, xs, xt⟩ := x
        obtain ⟨yk, ys, yt⟩ := y
        dsimp only at c0 c1 c2 d0 d1 d2
        have HA2 : Hid (Stab.at' (swp dk (k + 1) k) = Stab.rot (Stab.at' d) k m (m + 1)) := Stab.rot_down dk d m k HA.out (by omega) hki (by omega)
        have HP2 : Hid (PermIn a b d (swp dk (k + 1) k)) := permIn_trans _ _ _ _ _ HP.out (swp_permIn _ _ _ _ _ (by omega) (by omega) (by omega) (by omega) (by omega))
        clear HA HP HR hx hy
        go_wp2_with fail
        go_region
        go_wp2_with fail
        go_roundw
        case rel => exact ⟨k, _, by omega, by omega, by rw [size_swp]; exact hdk, by go_num, HA2, HP2, HSW.out.1.drew, hbw.trans HSW.out.2.drew⟩
        case measure => simp [intOf]
      · obtain rfl : i = k1 := by omega
        have m2 : ¬ (i : Int) < (i : Int) := by omega
        go_wp2_with fail
        (try simp only [Exit.inBlock, Exit.then])
        refine bodyPost_ret (results_none rfl _ _ _) rfl ?_
        obtain hone := HONE.out
        subst hone
        exact ⟨rfl, dk, HR.out, ⟨HP.out, Stab.one_last Pr.swo HSC.out HS1.out HA.out⟩, hbw⟩
end Go.Proofs.Ytpnpgjjbincigaa
namespace Go.Proofs.Ytpnpgjjbincigaa
open Go.RowKit Go.Sort
set_option linter.unusedVariables false
def SymAll (B g n c : Nat) (k : Nat) : Prop := ∀ (d : Array Pr) (a m b : Nat) (w : World), b - a < k → PrRow B g n c d w → SortedIn Pr.lt a m d → SortedIn Pr.lt m b d → a < m → m < b → b ≤ n → n ≤ 1000000000 →
  Calls Try.prog 98 #[.slice (some ⟨g, 0, none⟩) n c, .int .i64 a, .int .i64 m, .int .i64 b, .func (.func 59) #[] #[]] w (SymIs B g n c d a b w)

set_option maxHeartbeats 12800000 in
set_option maxRecDepth 100000 in
theorem sym_search (cd : Code) (hc : (Try.f98.body.bind (Cut.blk 8)) = some cd) (B g n c a m b mid nn pp lo hi : Nat) (d : Array Pr) (w : World) (H : Hid (PrRow B g n c d w)) (HS1 : Hid (SortedIn Pr.lt a m d)) (HS2 : Hid (SortedIn Pr.lt m b d)) (hl : n ≤ 1000000000) (hbn : b ≤ n) (HLH : Hid (a ≤ lo ∧ lo ≤ hi ∧ hi ≤ m ∧ m ≤ b)) (HG3 : Hid (∀ k, lo ≤ k → k < hi → k ≤ pp ∧ m ≤ pp - k ∧ pp - k < b)) (K : Act → World → Prop) (X : Exit → Act → World → Prop) (t1 t2 t3 t5 t6 t7 t8 t9 t10 t11 t12 t13 t14 t15 t16 t17 t18 t19 t23 t24 t25 t26 t27 t28 t29 t30 t31 t32 t33 t34 t35 t36 t37 t38 t39 t40 t41 t42 t43 t44 t45 t46 t47 t48 t49 t50 t51 t52 t53 t54 t55 t56 t57 t58 t59 t60 t61 t62 t63 t64 t65 t66 t67 t68 t69 t70 t71 t72 t73 t74 t75 t76 t77 t78 t79 t80 t81 t82 t83 t84 t85 t86 t87 t88 t89 t90 t91 t92 t93 t94 t95 t96 t97 t98 t99 t100 t101 t102 t103 t104 t105 t106 t107 t108 t109 t110 t111 t112 t113 t114 t115 t116 t117 t118 t119 t120 t121 t122 t123 t124 t125 t126 t127 t128 t129 t130 t131 t132 t133 t134 t135 t136 t137 t138 t139 t140 t141 t142 t143 t144 t145 t146 t147 t148 t149 t150 t151 t152 t153 t154 t155 t156 t157 t158 t159 t160 t161 t162 t163 t164 t165 t166 t167 t168 t169 t170 t171 t172 t173 t174 t175 t176 t177 t178 t179 t180 t181 t182 t183 t184 t185 t186 t187 t188 t189 t190 t191 t192 t193 t194 t195 t196 t197 t198 t199 t200 t201 t202 t203 t204 t205 t206 t207 t208 t209 t210 t211 t212 t213 t214 t215 t216 t217 t218 t219 : Value)
    (hK : ∀ (u23 u149 u150 u151 u152 u153 u154 u155 u156 u157 u158 u159 u160 u161 u162 u163 u164 u165 u166 u167 u168 u169 u170 u171 u172 u173 u174 : Value) (i : Nat) (w' : World), Hid (lo ≤ i ∧ i ≤ hi) → Hid (Stab.SchS Pr.lt d pp lo hi i i) → Hid (PrRow B g n c d w') → Below B w w' → K ⟨#[.slice (some ⟨g, 0, none⟩) n c, t1, t2, t3, .func (.func 59) #[] #[], t5, t6, t7, t8, t9, t10, t11, t12, t13, t14, t15, t16, t17, t18, t19, .int .i64 (i : Int), .int .i64 (i : Int), .int .i64 (pp : Int), u23, t24, t25, t26, t27, t28, t29, t30, t31, t32, t33, t34, t35, t36, t37, t38, t39, t40, t41, t42, t43, t44, t45, t46, t47, t48, t49, t50, t51, t52, t53, t54, t55, t56, t57, t58, t59, t60, t61, t62, t63, t64, t65, t66, t67, t68, t69, t70, t71, t72, t73, t74, t75, t76, t77, t78, t79, t80, t81, t82, t83, t84, t85, t86, t87, t88, t89, t90, t91, t92, t93, t94, t95, t96, t97, t98, t99, t100, t101, t102, t103, t104, t105, t106, t107, t108, t109, t110, t111, t112, t113, t114, t115, t116, t117, t118, t119, t120, t121, t122, t123, t124, t125, t126, t127, t128, t129, t130, t131, t132, t133, t134, t135, t136, t137, t138, t139, t140, t141, t142, t143, t144, t145, t146, t147, t148, u149, u150, u151, u152, u153, u154, u155, u156, u157, u158, u159, u160, u161, u162, u163, u164, u165, u166, u167, u168, u169, u170, u171, u172, u173, u174, t175, t176, t177, t178, t179, t180, t181, t182, t183, t184, t185, t186, t187, t188, t189, t190, t191, t192, t193, t194, t195, t196, t197, t198, t199, t200, t201, t202, t203, t204, t205, t206, t207, t208, t209, t210, t211, t212, t213, t214, t215, t216, t217, t218, t219], []⟩ w') : Code.wp Try.prog cd (Exit.then K X) ⟨#[.slice (some ⟨g, 0, none⟩) n c, t1, t2, t3, .func (.func 59) #[] #[], t5, t6, t7, t8, t9, t10, t11, t12, t13, t14, t15, t16, t17, t18, t19, .int .i64 (lo : Int), .int .i64 (hi : Int), .int .i64 (pp : Int), t23, t24, t25, t26, t27, t28, t29, t30, t31, t32, t33, t34, t35, t36, t37, t38, t39, t40, t41, t42, t43, t44, t45, t46, t47, t48, t49, t50, t51, t52, t53, t54, t55, t56, t57, t58, t59, t60, t61, t62, t63, t64, t65, t66, t67, t68, t69, t70, t71, t72, t73, t74, t75, t76, t77, t78, t79, t80, t81, t82, t83, t84, t85, t86, t87, t88, t89, t90, t91, t92, t93, t94, t95, t96, t97, t98, t99, t100, t101, t102, t103, t104, t105, t106, t107, t108, t109, t110, t111, t112, t113, t114, t115, t116, t117, t118, t119, t120, t121, t122, t123, t124, t125, t126, t127, t128, t129, t130, t131, t132, t133, t134, t135, t136, t137, t138, t139, t140, t141, t142, t143, t144, t145, t146, t147, t148, t149, t150, t151, t152, t153, t154, t155, t156, t157, t158, t159, t160, t161, t162, t163, t164, t165, t166, t167, t168, t169, t170, t171, t172, t173, t174, t175, t176, t177, t178, t179, t180, t181, t182, t183, t184, t185, t186, t187, t188, t189, t190, t191, t192, t193, t194, t195, t196, t197, t198, t199, t200, t201, t202, t203, t204, t205, t206, t207, t208, t209, t210, t211, t212, t213, t214, t215, t216, t217, t218, t219], []⟩ w := by
  conv at hc => lhs; whnf
  obtain rfl := Option.some.inj hc
  have mixed : Try.prog.follows .mixedOrders = true := by kernel_rfl
  have HC := Lib.hid prCmp_is
  have HKK := Lib.hid hK
  clear hK hc
  go_wp2_with fail
  go_loopw [20, 21] (fun iv jv wr => ∃ (i j : Nat), i ≤ j ∧ j ≤ hi ∧ lo ≤ i ∧ iv = .int .i64 (i : Int) ∧ jv = .int .i64 (j : Int) ∧ Hid (Stab.SchS Pr.lt d pp lo hi i j) ∧ Hid (PrRow B g n c d wr) ∧ Below B w wr) (fun iv jv _ => (intOf jv).toNat - (intOf iv).toNat)
  case atStart => exact ⟨lo, hi, HLH.out.2.1, Nat.le_refl _, Nat.le_refl _, rfl, rfl, Stab.SchS.start _ _ HLH.out.2.1, H, Below.refl _ _⟩
  case round =>
    obtain ⟨wj, rfl⟩ : ∃ wo : World, wo = wr := ⟨_, rfl⟩
    obtain ⟨i, j, hij, hjb, hmi, rfl, rfl, HSC, HR, hbw⟩ := hrel
    by_cases hlt : i < j
    · have m1 : (i : Int) < (j : Int) := by omega
      have k1 := HLH.out
      obtain ⟨h, hq0⟩ : ∃ h : Nat, (i + j) / 2 = h := ⟨_, rfl⟩
      have hq1 : i ≤ h ∧ h < j := by omega
      have hq : (((i : Nat) : Int) + ((j : Nat) : Int)) / 2 = (h : Int) := by omega
      have q1 : (0 : Int) ≤ (((i : Nat) : Int) + ((j : Nat) : Int)) := by omega
      have q2 : (((i : Nat) : Int) + ((j : Nat) : Int)) < 9223372036854775808 := by omega
      have q3 : (0 : Int) ≤ (h : Int) := by omega
      have q4 : (h : Int) < (n : Int) := by omega
      clear hq0
      have k5 := HG3.out h (by omega) (by omega)
      obtain ⟨ph, hph⟩ : ∃ x : Nat, pp - h = x := ⟨_, rfl⟩
      have e1 : (pp : Int) - (h : Int) = (ph : Int) := by omega
      have e2 : IntKind.i64.wrap (ph : Int) = (ph : Int) := by rw [IntKind.wrap_i64]; omega
      have e3 : (0 : Int) ≤ (ph : Int) := by omega
      have e4 : (ph : Int) < (n : Int) := by omega
      have e5 : IntKind.i64.wrap ((pp : Int) - (h : Int)) = (ph : Int) := by rw [e1, e2]
      have hph0 : ph < n := by omega
      have hh0 : h < n := by omega
      have HPH := Lib.hid hph
      clear k1 k5 hph
      obtain ⟨x, hx⟩ : ∃ x, d[ph]! = x := ⟨_, rfl⟩
      obtain ⟨y, hy⟩ : ∃ y, d[h]! = y := ⟨_, rfl⟩
      have HTW := Lib.hid (HR.out.two (ph) (h) (by omega) (by omega) hx hy)
      obtain ⟨r, hr⟩ : ∃ r, strC x.k y.k = r := ⟨_, rfl⟩
      have HCC := Lib.hid (fun w => HC.out x y r hr w)
      have HLT : Hid (r < 0 ↔ Pr.lt x y = true) := by show _ ↔ _; rw [← hr]; exact Pr.lt_is x y
      have HX := Lib.hid hx
      have HY := Lib.hid hy
      obtain ⟨xk, xs, xt⟩ := x
      obtain ⟨yk, ys, yt⟩ := y
      obtain ⟨b0, c0, c1, c2, c3, c4, c5⟩ := HTW.out _ ((Below.refl _ wj).drew)
      dsimp only at c0 c1 c2 c3 c4 c5
      clear hr hx hy
      obtain ⟨bt, hbt⟩ : ∃ bt, decide (r < 0) = bt := ⟨_, rfl⟩
      go_wp2_with fail
      go_region_held3 (fun w' => Below wj.heap.size wj w' ∧ w'.cell? ⟨g, ph * 3, none⟩ = some (.string xk) ∧ w'.cell? ⟨g, ph * 3 + 1, none⟩ = some (.pointer xs) ∧ w'.cell? ⟨g, ph * 3 + 2, none⟩ = some (.pointer xt) ∧ w'.cell? ⟨g, h * 3, none⟩ = some (.string yk) ∧ w'.cell? ⟨g, h * 3 + 1, none⟩ = some (.pointer ys) ∧ w'.cell? ⟨g, h * 3 + 2, none⟩ = some (.pointer yt)) (first | exact HTW.out _ (b0.trans (by assumption)) | exact HTW.out _ (by assumption) | go_keep) ((go_at_call 59; refine (HCC.out _).mono ?_; rintro e w1 ⟨rfl, hb1⟩))
      have hB1 : Below wj.heap.size wj w1 := b0.trans hb1
      have HR1 := Lib.hid (HR.out.later hB1)
      have hbw1 : Below B w w1 := hbw.trans (hB1.mono HR.out.2.2)
      clear hb1 hB1 b0 c0 c1 c2 c3 c4 c5 HTW HCC HR hbw q1 q2
      have HBT := Lib.hid hbt
      clear hbt
      rcases Bool.eq_false_or_eq_true bt with hbt | hbt
      all_goals subst hbt
      · have hlv : r < 0 := of_decide_eq_true HBT.out
        have hlt2 := HLT.out.1 hlv
        clear hlv
        have HN : Hid (Stab.SchS Pr.lt d pp lo hi i h) := HSC.out.down Pr.swo HS1.out HS2.out HLH.out.1 HLH.out.2.2.1 HG3.out hq1.1 hq1.2 (by rw [HPH.out, HX.out, HY.out]; exact hlt2)
        clear HLT HX HY HSC
        go_wp2_with fail
        go_roundw
        case rel => first | exact ⟨i, h, by omega, by omega, hmi, rfl, rfl, HN, HR1, hbw1⟩ | exact ⟨i, h, by omega, by omega, hmi, rfl, rfl, HN⟩
        case measure => simp [intOf]; omega
      · have hlv : ¬ r < 0 := of_decide_eq_false HBT.out
        have HN : Hid (Stab.SchS Pr.lt d pp lo hi (h + 1) j) := HSC.out.up Pr.swo HS1.out HS2.out HLH.out.1 HLH.out.2.2.1 HG3.out hq1.1 hq1.2 (by
          rw [HPH.out, HX.out, HY.out]
          cases hq : Pr.lt _ _ with
          | false => rfl
          | true => exact (hlv (HLT.out.2 hq)).elim)
        clear hlv
        have y9 : IntKind.i64.wrap ((h : Int) + 1) = (h : Int) + 1 := by rw [IntKind.wrap_i64]; omega
        clear HLT HX HY HSC
        go_wp2_with fail
        go_roundw
        case rel => first | exact ⟨h + 1, j, by omega, hjb, by omega, by go_num, rfl, HN, HR1, hbw1⟩ | exact ⟨h + 1, j, by omega, hjb, by omega, by go_num, rfl, HN⟩
        case measure => simp [intOf]; omega
    · obtain rfl : i = j := by omega
      have m1 : ¬ (i : Int) < (i : Int) := by omega
      go_wp2_with fail
      exact HKK.out _ _ _ _ _ _ _ _ _ _ _ _ _ _ _ _ _ _ _ _ _ _ _ _ _ _ _ i _ ⟨hmi, hjb⟩ HSC HR hbw
set_option maxHeartbeats 12800000 in
set_option maxRecDepth 100000 in
theorem sym_gen (B g n c : Nat) (d : Array Pr) (a m b : Nat) (w : World) (h : PrRow B g n c d w) (hs1 : SortedIn Pr.lt a m d) (hs2 : SortedIn Pr.lt m b d) (ham : a < m) (hmb : m < b) (hb : b ≤ n) (hl : n ≤ 1000000000) (hnot : m ≠ a + 1) (hnot2 : b ≠ m + 1) (IH : SymAll B g n c (b - a)) :
    Calls Try.prog 98 #[.slice (some ⟨g, 0, none⟩) n c, .int .i64 a, .int .i64 m, .int .i64 b, .func (.func 59) #[] #[]] w (SymIs B g n c d a b w) := by
  have H := Lib.hid h
  have hsz := h.2.1
  have mixed : Try.prog.follows .mixedOrders = true := by kernel_rfl
  have HC := Lib.hid prCmp_is
  have HS1 := Lib.hid hs1
  have HS2 := Lib.hid hs2
  have HIH := Lib.hid IH
  clear h hs1 hs2 IH
  have z1 : IntKind.i64.wrap ((m : Int) - (a : Int)) = (m : Int) - (a : Int) := by rw [IntKind.wrap_i64]; omega
  have z2 : ((m : Int) - (a : Int) == 1) = false := beq_eq_false_iff_ne.2 (by omega)
  have z3 : ¬ (m : Int) - (a : Int) = 1 := by omega
  have z4 : IntKind.i64.wrap ((b : Int) - (m : Int)) = (b : Int) - (m : Int) := by rw [IntKind.wrap_i64]; omega
  have z5 : ((b : Int) - (m : Int) == 1) = false := beq_eq_false_iff_ne.2 (by omega)
  have z6 : ¬ (b : Int) - (m : Int) = 1 := by omega
  obtain ⟨mid, hmid⟩ : ∃ h : Nat, (a + b) / 2 = h := ⟨_, rfl⟩
  have z7 : ((a : Int) + (b : Int)) / 2 = (mid : Int) := by omega
  have z8 : (0 : Int) ≤ (a : Int) + (b : Int) := by omega
  have z9 : (a : Int) + (b : Int) < 9223372036854775808 := by omega
  obtain ⟨nn, hnn⟩ : ∃ x : Nat, mid + m = x := ⟨_, rfl⟩
  have y1 : (mid : Int) + (m : Int) = (nn : Int) := by omega
  have y2 : IntKind.i64.wrap (nn : Int) = (nn : Int) := by rw [IntKind.wrap_i64]; omega
  obtain ⟨pp, hpp⟩ : ∃ x : Nat, nn = x + 1 := ⟨nn - 1, by omega⟩
  have y3 : (nn : Int) - 1 = (pp : Int) := by omega
  have y4 : IntKind.i64.wrap (pp : Int) = (pp : Int) := by rw [IntKind.wrap_i64]; omega
  have hm2 : a ≤ mid ∧ mid < b ∧ a < mid + 1 ∧ a + b ≤ mid + mid + 1 ∧ mid + mid ≤ a + b := by omega
  have HMM := Lib.hid hm2
  have HNN := Lib.hid hnn
  have HPP := Lib.hid hpp
  clear hmid hm2 hnn hpp
  obtain ⟨lo, hi, HLH⟩ : ∃ lo hi : Nat, Hid ((mid < m ∧ (lo : Int) = (nn : Int) - (b : Int) ∧ hi = mid ∨ m ≤ mid ∧ lo = a ∧ hi = m) ∧ a ≤ lo ∧ lo ≤ hi ∧ hi ≤ m ∧ hi ≤ mid) := by
    have q1 := HMM.out
    have q2 := HNN.out
    by_cases hm : mid < m
    · exact ⟨nn - b, mid, .inl ⟨hm, by omega, rfl⟩, by omega, by omega, by omega, by omega⟩
    · exact ⟨a, m, .inr ⟨by omega, rfl, rfl⟩, by omega, by omega, by omega, by omega⟩
  have HG3 : Hid (∀ k, lo ≤ k → k < hi → k ≤ pp ∧ m ≤ pp - k ∧ pp - k < b) := fun k hk hk2 => by
    have q0 := HLH.out
    have q1 := HMM.out
    have q2 := HNN.out
    have q3 := HPP.out
    omega
  go_enter Try.func98, Try.ntmps98
  unfold SymIs
  go_upto_if 140 with fail
  clear z1 z2 z3 z4 z5 z6 z8 z9
  go_cut [20, 21] from 138 to 148 (fun s20 s21 wx => s20 = .int .i64 (lo : Int) ∧ s21 = .int .i64 (hi : Int) ∧ w = wx)
  case first =>
    have q0 := HLH.out
    rcases q0 with ⟨⟨q1, q2, q3⟩ | ⟨q1, q2, q3⟩, _⟩
    · have t1 : (mid : Int) < (m : Int) := by omega
      have t2 : IntKind.i64.wrap ((nn : Int) - (b : Int)) = (lo : Int) := by rw [IntKind.wrap_i64]; have := HNN.out; have := HMM.out; omega
      go_wp2_with fail
      go_meet
      exact ⟨by first | rfl | rw [t2] | rw [q2], by rw [q3], rfl⟩
    · have t1 : ¬ (mid : Int) < (m : Int) := by omega
      go_wp2_with fail
      go_meet
      exact ⟨by rw [q2], by rw [q3], rfl⟩
  case rest =>
    obtain ⟨rfl, rfl, rfl⟩ := hcut
    go_upto_block 8 with fail
    refine sym_search _ (by kernel_rfl) B g n c a m b mid nn pp lo hi d w H HS1 HS2 hl hb ⟨HLH.out.2.1, HLH.out.2.2.1, HLH.out.2.2.2.1, by omega⟩ HG3 _ _ _ _ _ _ _ _ _ _ _ _ _ _ _ _ _ _ _ _ _ _ _ _ _ _ _ _ _ _ _ _ _ _ _ _ _ _ _ _ _ _ _ _ _ _ _ _ _ _ _ _ _ _ _ _ _ _ _ _ _ _ _ _ _ _ _ _ _ _ _ _ _ _ _ _ _ _ _ _ _ _ _ _ _ _ _ _ _ _ _ _ _ _ _ _ _ _ _ _ _ _ _ _ _ _ _ _ _ _ _ _ _ _ _ _ _ _ _ _ _ _ _ _ _ _ _ _ _ _ _ _ _ _ _ _ _ _ _ _ _ _ _ _ _ _ _ _ _ _ _ _ _ _ _ _ _ _ _ _ _ _ _ _ _ _ _ _ _ _ _ _ _ _ _ _ _ _ _ _ _ _ _ _ _ _ _ _ _ _ _ _ _ _ _ _ _ _ _ _ _ _ _ _ _ _ _ _ _ _ _ _ _ _ _ _ _ ?_
    intro _ _ _ _ _ _ _ _ _ _ _ _ _ _ _ _ _ _ _ _ _ _ _ _ _ _ _ i wj HII HSC HR hbw
    have hII := HII.out
    obtain ⟨e, he⟩ : ∃ x : Nat, nn - i = x := ⟨_, rfl⟩
    have HF : Hid (a ≤ i ∧ i ≤ m ∧ m ≤ e ∧ e ≤ b ∧ mid + m = i + e ∧ i ≤ mid ∧ mid ≤ e ∧ mid < b ∧ a ≤ mid) := by
      have k1 := HLH.out
      have k2 := HMM.out
      have k3 := HNN.out
      show _ ∧ _
      omega
    have k3 := HNN.out
    have kF := HF.out
    have e1 : (nn : Int) - (i : Int) = (e : Int) := by omega
    have e2 : IntKind.i64.wrap (e : Int) = (e : Int) := by rw [IntKind.wrap_i64]; omega
    have e3 : IntKind.i64.wrap ((nn : Int) - (i : Int)) = (e : Int) := by rw [e1, e2]
    have HE := Lib.hid he
    have HCL : Hid (i = a ∨ e = b ∨ Pr.lt d[e]! d[i - 1]! = false) := by
      have k1 := HLH.out
      have k2 := HMM.out
      have k4 := HPP.out
      show _ ∨ _
      by_cases q : lo < i
      · refine .inr (.inr ?_)
        have := HSC.out.low (i - 1) (by omega) (by omega)
        rwa [show pp - (i - 1) = e by omega] at this
      · omega
    have HCR : Hid (i = m ∨ e = m ∨ Pr.lt d[i]! d[e - 1]! = false) := by
      have k1 := HLH.out
      have k2 := HMM.out
      have k4 := HPP.out
      show _ ∨ _
      by_cases q : i < hi
      · refine .inr (.inr ?_)
        have := HSC.out.high i (by omega) (by omega)
        rw [show pp - i = e - 1 by omega] at this
        exact Pr.swo.asymmA this
      · omega
    clear k3 he HSC hII HII
    obtain ⟨t1, ht1⟩ : ∃ t : Bool, (decide (i < m) && decide (m < e)) = t := ⟨_, rfl⟩
    go_upto_region 39 with fail
    go_cut [185] from 175 to 185 (fun v wx => v = .bool t1 ∧ wj = wx)
    case first =>
      by_cases u1 : i < m
      · have v1 : decide ((i : Int) < (m : Int)) = true := decide_eq_true (by omega)
        have v1b : (i : Int) < (m : Int) := by omega
        by_cases u2 : m < e
        · have v2 : (m : Int) < (e : Int) := by omega
          obtain rfl : t1 = true := by rw [← ht1, decide_eq_true u1, decide_eq_true u2]; rfl
          clear ht1
          go_wp2_with fail
          go_meet
          exact ⟨rfl, rfl⟩
        · have v2 : ¬ (m : Int) < (e : Int) := by omega
          obtain rfl : t1 = false := by rw [← ht1, decide_eq_true u1, decide_eq_false u2]; rfl
          clear ht1
          go_wp2_with fail
          go_meet
          exact ⟨rfl, rfl⟩
      · have v1 : decide ((i : Int) < (m : Int)) = false := decide_eq_false (by omega)
        have v1b : ¬ (i : Int) < (m : Int) := by omega
        obtain rfl : t1 = false := by rw [← ht1, decide_eq_false u1]; rfl
        clear ht1
        go_wp2_with fail
        go_meet
        exact ⟨rfl, rfl⟩
    case rest =>
      obtain ⟨rfl, rfl⟩ := hcut
      have HT1 := Lib.hid ht1
      clear ht1
      go_upto_if 185 with fail
      go_cut [] from 186 to 191 (fun wx => ∃ d1 : Array Pr, Hid (Stab.at' d1 = Stab.rot (Stab.at' d) i m e) ∧ Hid (PermIn a b d d1) ∧ Hid (PrRow B g n c d1 wx) ∧ Below B w wx)
      case first =>
        cases t1
        · have HZ : Hid (Stab.at' d = Stab.rot (Stab.at' d) i m e) := by
            have := HT1.out
            show _ = _
            by_cases u1 : i < m
            · have u2 : ¬ m < e := fun u2 => by rw [decide_eq_true u1, decide_eq_true u2] at this; cases this
              rw [show e = m by omega, Stab.rot_right]
            · rw [show i = m by omega, Stab.rot_left]
          go_wp2_with fail
          go_meet
          exact ⟨d, HZ, permIn_refl _ _ _, HR, hbw⟩
        · have u := HT1.out
          simp only [Bool.and_eq_true, decide_eq_true_eq] at u
          have HRO := Lib.hid (rotate_is B g n c (.func (.func 59) #[] #[]) d i m e wj HR.out u.1 u.2 (by omega) hl)
          clear u
          go_wp2_with (go_at_call 106; refine HRO.out.mono ?_)
          first | rintro e0 w1 rfl d' hR' hA' hP' hb' | rintro e0 w1 ⟨rfl, d', hR', hA', hP', hb'⟩
          have HP2 : Hid (PermIn a b d d') := permIn_mono _ _ _ _ _ _ (by omega) (by omega) (by omega) hP'
          go_wp2_with fail
          go_meet
          exact ⟨d', hA', HP2, hR', hbw.trans hb'⟩
      case rest =>
        obtain ⟨d1, HA1, HP1, HR1, hbw1⟩ := hcut
        clear HR hbw HT1
        have HPT := Lib.hid (Stab.parts (d := d) (d1 := d1) (a := a) (s := i) (m := m) (e := e) (b := b) (mid := mid) Pr.swo HS1.out HS2.out (by omega) (by omega) (by omega) (by omega) (by omega) HCL.out HCR.out HA1.out)
        have hz1 := HR1.out.2.1
        obtain ⟨t2, ht2⟩ : ∃ t : Bool, (decide (a < i) && decide (i < mid)) = t := ⟨_, rfl⟩
        obtain ⟨wk, rfl⟩ : ∃ x, x = wc := ⟨_, rfl⟩
        clear HA1 HCL HCR
        go_upto_region 41 with fail
        go_cut [199] from 192 to 199 (fun v wx => v = .bool t2 ∧ wk = wx)
        case first =>
          by_cases u1 : a < i
          · have v1 : decide ((a : Int) < (i : Int)) = true := decide_eq_true (by omega)
            have v1b : (a : Int) < (i : Int) := by omega
            by_cases u2 : i < mid
            · have v2 : (i : Int) < (mid : Int) := by omega
              obtain rfl : t2 = true := by rw [← ht2, decide_eq_true u1, decide_eq_true u2]; rfl
              clear ht2
              go_wp2_with fail
              go_meet
              exact ⟨rfl, rfl⟩
            · have v2 : ¬ (i : Int) < (mid : Int) := by omega
              obtain rfl : t2 = false := by rw [← ht2, decide_eq_true u1, decide_eq_false u2]; rfl
              clear ht2
              go_wp2_with fail
              go_meet
              exact ⟨rfl, rfl⟩
          · have v1 : decide ((a : Int) < (i : Int)) = false := decide_eq_false (by omega)
            have v1b : ¬ (a : Int) < (i : Int) := by omega
            obtain rfl : t2 = false := by rw [← ht2, decide_eq_false u1]; rfl
            clear ht2
            go_wp2_with fail
            go_meet
            exact ⟨rfl, rfl⟩
        case rest =>
          obtain ⟨rfl, rfl⟩ := hcut
          have HT2 := Lib.hid ht2
          clear ht2
          go_upto_if 199 with fail
          go_cut [] from 200 to 205 (fun wx => ∃ d2 : Array Pr, Hid (PermIn a mid d1 d2 ∧ SortedIn Pr.lt a mid d2) ∧ Hid (PrRow B g n c d2 wx) ∧ Below B w wx)
          case first =>
            cases t2
            · have HZ : Hid (PermIn a mid d1 d1 ∧ SortedIn Pr.lt a mid d1) := by
                have := HT2.out
                refine ⟨permIn_refl _ _ _, ?_⟩
                by_cases u1 : a < i
                · have u2 : ¬ i < mid := fun u2 => by rw [decide_eq_true u1, decide_eq_true u2] at this; cases this
                  rw [show mid = i by omega]
                  exact HPT.out.p1
                · have := HPT.out.p2
                  rwa [show i = a by omega] at this
              go_wp2_with fail
              go_meet
              exact ⟨d1, HZ, HR1, hbw1⟩
            · have u := HT2.out
              simp only [Bool.and_eq_true, decide_eq_true_eq] at u
              have HRO := Lib.hid (HIH.out d1 a i mid wk (by omega) HR1.out HPT.out.p1 HPT.out.p2 u.1 u.2 (by omega) hl)
              clear u
              go_wp2_with (go_at_call 98; refine HRO.out.mono ?_)
              unfold SymIs
              first | rintro e0 w1 rfl d' hR' hA' hP' hb' | rintro e0 w1 ⟨rfl, d', hR', hA', hb'⟩
              go_wp2_with fail
              go_meet
              exact ⟨d', hA', hR', hbw1.trans hb'⟩
          case rest =>
            obtain ⟨d2, HA2, HR2, hbw2⟩ := hcut
            clear HR1 hbw1 HT2
            have hz2 := HR2.out.2.1
            have hz2 := HR2.out.2.1
            have HQ3 : Hid (SortedIn Pr.lt mid e d2 ∧ SortedIn Pr.lt e b d2) := ⟨HPT.out.p3.congr fun k hk hk2 => HA2.out.1.2.1 k (.inr hk), HPT.out.p4.congr fun k hk hk2 => HA2.out.1.2.1 k (.inr (by omega))⟩
            have HWH := Lib.hid (fun (d3 : Array Pr) (p : PermIn mid b d2 d3) (s : SortedIn Pr.lt mid b d3) => Stab.whole (d1 := d1) (d2 := d2) (d3 := d3) (a := a) (mid := mid) (b := b) (by omega) HPT.out.cross HA2.out.1 HA2.out.2 p s)
            by_cases u1 : mid < e
            · have v1 : decide ((mid : Int) < (e : Int)) = true := decide_eq_true (by omega)
              have v1b : (mid : Int) < (e : Int) := by omega
              by_cases u2 : e < b
              · have v2 : (e : Int) < (b : Int) := by omega
                have HRO := Lib.hid (HIH.out d2 mid e b wc (by omega) HR2.out HQ3.out.1 HQ3.out.2 u1 u2 hb hl)
                go_wp2_with (go_at_call 98; refine HRO.out.mono ?_)
                unfold SymIs
                first | rintro e0 w1 rfl d' hR' hA' hP' hb' | rintro e0 w1 ⟨rfl, d', hR', hA', hb'⟩
                go_wp2_with fail
                go_end0
                refine ⟨rfl, d', hR', ⟨permIn_trans _ _ _ _ _ HP1.out (permIn_trans _ _ _ _ _ (permIn_mono _ _ _ _ _ _ (by omega) (by omega) (by omega) HA2.out.1) (permIn_mono _ _ _ _ _ _ (by omega) (Nat.le_refl _) (by omega) hA'.1)), HWH.out d' hA'.1 hA'.2⟩, hbw2.trans hb'⟩
              · have v2 : ¬ (e : Int) < (b : Int) := by omega
                have HZ : Hid (SortedIn Pr.lt mid b d2) := by
                  have := HQ3.out.1
                  show SortedIn _ _ _ _
                  rwa [show e = b by omega] at this
                go_wp2_with fail
                go_end0
                refine ⟨rfl, d2, HR2.out, ⟨permIn_trans _ _ _ _ _ HP1.out (permIn_trans _ _ _ _ _ (permIn_mono _ _ _ _ _ _ (by omega) (by omega) (by omega) HA2.out.1) (permIn_refl _ _ _)), HWH.out d2 (permIn_refl _ _ _) HZ.out⟩, hbw2⟩
            · have v1 : decide ((mid : Int) < (e : Int)) = false := decide_eq_false (by omega)
              have v1b : ¬ (mid : Int) < (e : Int) := by omega
              have HZ : Hid (SortedIn Pr.lt mid b d2) := by
                have := HQ3.out.2
                show SortedIn _ _ _ _
                rwa [show e = mid by omega] at this
              go_wp2_with fail
              go_end0
              refine ⟨rfl, d2, HR2.out, ⟨permIn_trans _ _ _ _ _ HP1.out (permIn_trans _ _ _ _ _ (permIn_mono _ _ _ _ _ _ (by omega) (by omega) (by omega) HA2.out.1) (permIn_refl _ _ _)), HWH.out d2 (permIn_refl _ _ _) HZ.out⟩, hbw2⟩
theorem sym_all (B g n c : Nat) (k : Nat) : SymAll B g n c k := by
  induction k with
  | zero => intro d a m b w h; omega
  | succ k ih =>
    intro d a m b w h hR h1 h2 ham hmb hb hl
    by_cases q1 : m = a + 1
    · exact sym_first B g n c d a m b w hR h1 h2 ham hmb hb hl q1
    · by_cases q2 : b = m + 1
      · exact sym_last B g n c d a m b w hR h1 h2 ham hmb hb hl q1 q2
      · exact sym_gen B g n c d a m b w hR h1 h2 ham hmb hb hl q1 q2 (fun d' a' m' b' w' h' => ih d' a' m' b' w' (by omega))
end Go.Proofs.Ytpnpgjjbincigaa
namespace Go.Proofs.Ytpnpgjjbincigaa.Stab
open Go.Sort
variable {α : Type} [Inhabited α] {lt : α → α → Bool}

/-- all blocks of k are sorted -/
def Blocks (lt : α → α → Bool) (k n : Nat) (d : Array α) : Prop := ∀ u, SortedIn lt (u * k) (min (u * k + k) n) d
/-- the first blocks of k are sorted, up to a -/
def Firsts (lt : α → α → Bool) (k a : Nat) (d : Array α) : Prop := ∃ t, a = t * k ∧ ∀ u, u < t → SortedIn lt (u * k) (u * k + k) d
/-- up to a the blocks of 2 k are sorted, and behind it those of k -/
def Mid (lt : α → α → Bool) (k n a : Nat) (d : Array α) : Prop := ∃ t, a = t * (2 * k) ∧ (∀ u, u < t → SortedIn lt (u * (2 * k)) (u * (2 * k) + 2 * k) d) ∧ ∀ u, 2 * t ≤ u → SortedIn lt (u * k) (min (u * k + k) n) d

theorem sorted_sub {a b a' b' : Nat} {d : Array α} (h : SortedIn lt a b d) (ha : a ≤ a') (hb : b' ≤ b) : SortedIn lt a' b' d := fun i j hi hij hj => h i j (by omega) hij (by omega)
theorem sorted_out {a b x y : Nat} {d d' : Array α} (h : SortedIn lt a b d) (hp : PermIn x y d d') (ho : b ≤ x ∨ y ≤ a) : SortedIn lt a b d' := h.congr fun i hi hi2 => hp.2.1 i (by omega)
theorem mul_le_of {u t k : Nat} (h : u < t) : u * k + k ≤ t * k := by
  have := Nat.mul_le_mul_right k (show u + 1 ≤ t from h)
  rwa [Nat.add_mul, Nat.one_mul] at this
theorem Firsts.start (k : Nat) (d : Array α) : Firsts lt k 0 d := ⟨0, by simp, fun u hu => by omega⟩
theorem Firsts.step {k a : Nat} {d d' : Array α} (h : Firsts lt k a d) (hp : PermIn a (a + k) d d') (hs : SortedIn lt a (a + k) d') : Firsts lt k (a + k) d' := by
  obtain ⟨t, rfl, h1⟩ := h
  refine ⟨t + 1, by rw [Nat.add_mul, Nat.one_mul], fun u hu => ?_⟩
  by_cases hut : u = t
  · rw [hut]; exact hs
  · exact sorted_out (h1 u (by omega)) hp (.inl (mul_le_of (by omega)))
theorem Firsts.finish {k a n : Nat} {d d' : Array α} (h : Firsts lt k a d) (ha : a ≤ n) (hn : n < a + k) (hp : PermIn a n d d') (hs : SortedIn lt a n d') : Blocks lt k n d' := by
  obtain ⟨t, rfl, h1⟩ := h
  intro u
  rcases Nat.lt_trichotomy u t with q | q | q
  · exact sorted_out (sorted_sub (h1 u q) (Nat.le_refl _) (Nat.min_le_left _ _)) hp (.inl (Nat.le_trans (Nat.min_le_left _ _) (mul_le_of q)))
  · rw [q]
    exact sorted_sub hs (Nat.le_refl _) (Nat.min_le_right _ _)
  · have := mul_le_of (k := k) q
    intro i j hi hij hj
    have := Nat.lt_of_lt_of_le hj (Nat.min_le_right _ _)
    omega
theorem Mid.start {k n : Nat} {d : Array α} (h : Blocks lt k n d) : Mid lt k n 0 d := ⟨0, by simp, fun u hu => by omega, fun u _ => h u⟩
theorem two_mul_k (t k : Nat) : 2 * t * k = t * (2 * k) := by rw [Nat.mul_comm 2 t, Nat.mul_assoc]
theorem Mid.left {k n a : Nat} {d : Array α} (h : Mid lt k n a d) (ha : a + k ≤ n) : SortedIn lt a (a + k) d := by
  obtain ⟨t, rfl, _, h2⟩ := h
  have := h2 (2 * t) (Nat.le_refl _)
  rw [two_mul_k, Nat.min_eq_left ha] at this
  exact this
theorem Mid.last {k n a : Nat} {d : Array α} (h : Mid lt k n a d) (ha : n ≤ a + k) : SortedIn lt a n d := by
  obtain ⟨t, rfl, _, h2⟩ := h
  have := h2 (2 * t) (Nat.le_refl _)
  rw [two_mul_k, Nat.min_eq_right ha] at this
  exact this
theorem Mid.right {k n a : Nat} {d : Array α} (h : Mid lt k n a d) : SortedIn lt (a + k) (min (a + 2 * k) n) d := by
  obtain ⟨t, rfl, _, h2⟩ := h
  have := h2 (2 * t + 1) (by omega)
  rw [Nat.add_mul, two_mul_k, Nat.one_mul, show t * (2 * k) + k + k = t * (2 * k) + 2 * k by omega] at this
  exact this
theorem Mid.step {k n a : Nat} {d d' : Array α} (h : Mid lt k n a d) (hp : PermIn a (a + 2 * k) d d') (hs : SortedIn lt a (a + 2 * k) d') : Mid lt k n (a + 2 * k) d' := by
  obtain ⟨t, rfl, h1, h2⟩ := h
  refine ⟨t + 1, by rw [Nat.add_mul, Nat.one_mul], fun u hu => ?_, fun u hu => ?_⟩
  · by_cases hut : u = t
    · rw [hut]; exact hs
    · exact sorted_out (h1 u (by omega)) hp (.inl (mul_le_of (by omega)))
  · refine sorted_out (h2 u (by omega)) hp (.inr ?_)
    have := Nat.mul_le_mul_right k hu
    rw [two_mul_k, Nat.add_mul, Nat.one_mul] at this
    exact this
theorem Mid.finish {k n a : Nat} {d d' : Array α} (h : Mid lt k n a d) (ha : a ≤ n) (hn : n < a + 2 * k) (hp : PermIn a n d d') (hs : SortedIn lt a n d') : Blocks lt (2 * k) n d' := by
  obtain ⟨t, rfl, h1, _⟩ := h
  exact Firsts.finish ⟨t, rfl, h1⟩ ha hn hp hs
theorem Blocks.all {k n : Nat} {d : Array α} (h : Blocks lt k n d) (hk : n ≤ k) : SortedIn lt 0 n d := by
  have := h 0
  rwa [Nat.zero_mul, Nat.zero_add, Nat.min_eq_right hk] at this
end Go.Proofs.Ytpnpgjjbincigaa.Stab
namespace Go.Proofs.Ytpnpgjjbincigaa
open Go.RowKit Go.Sort
set_option linter.unusedVariables false

set_option maxHeartbeats 6400000 in
set_option maxRecDepth 100000 in
theorem stable_is (B g n c : Nat) (d : Array Pr) (w : World) (h : PrRow B g n c d w) (hl : n ≤ 1000000) :
    Calls Try.prog 86 #[.slice (some ⟨g, 0, none⟩) n c, .int .i64 n, .func (.func 59) #[] #[]] w fun e w' =>
      e = .returned (.tuple #[]) ∧ ∃ d', PrRow B g n c d' w' ∧ (PermIn 0 n d d' ∧ SortedIn Pr.lt 0 n d') ∧ Below B w w' := by
  have H := Lib.hid h
  have hsz := h.2.1
  have HI := Lib.hid (fun (d : Array Pr) (a b : Nat) (w : World) (h : PrRow B g n c d w) (h1 : a ≤ b) (h2 : b ≤ n) => ins_is B g n c d a b w h h1 h2 (by omega))
  have HS := Lib.hid (fun (d : Array Pr) (a m b : Nat) (w : World) (h : PrRow B g n c d w) (s1 : SortedIn Pr.lt a m d) (s2 : SortedIn Pr.lt m b d) (h1 : a < m) (h2 : m < b) (h3 : b ≤ n) => sym_all B g n c (b - a + 1) d a m b w (by omega) h s1 s2 h1 h2 h3 (by omega))
  clear h
  go_enter Try.func86, Try.ntmps86
  go_wp2_with fail
  go_loopw [7, 8] (fun av bv wr => ∃ (a : Nat) (dk : Array Pr), a ≤ n ∧ av = .int .i64 (a : Int) ∧ bv = .int .i64 ((a + 20 : Nat) : Int) ∧ dk.size = n ∧ Hid (Stab.Firsts Pr.lt 20 a dk) ∧ Hid (PermIn 0 n d dk) ∧ Hid (PrRow B g n c dk wr) ∧ Below B w wr) (fun av _ _ => n + 1 - (intOf av).toNat)
  case atStart => exact ⟨0, d, Nat.zero_le _, rfl, rfl, hsz, Stab.Firsts.start _ _, permIn_refl _ _ _, H, Below.refl _ _⟩
  case round =>
    obtain ⟨wk, rfl⟩ : ∃ wo : World, wo = wr := ⟨_, rfl⟩
    obtain ⟨a, dk, han, rfl, rfl, hdk, HF, HP, HR, hbw⟩ := hrel
    rw [show ((a + 20 : Nat) : Int) = (a : Int) + 20 by omega]
    by_cases hlt : a + 20 ≤ n
    · have m1 : (a : Int) + 20 ≤ (n : Int) := by omega
      have m2 : IntKind.i64.wrap ((a : Int) + 20 + 20) = (a : Int) + 20 + 20 := by rw [IntKind.wrap_i64]; omega
      have C0 := HI.out dk a (a + 20) wk HR.out (by omega) hlt
      rw [show ((a + 20 : Nat) : Int) = (a : Int) + 20 by omega] at C0
      have HC := Lib.hid C0
      clear C0
      go_wp2_with (go_at_call 97; refine HC.out.mono ?_)
      first | rintro e0 w1 rfl d' hR' hA' hP' hb' | rintro e0 w1 ⟨rfl, d', hR', hA', hb'⟩
      have HF2 : Hid (Stab.Firsts Pr.lt 20 (a + 20) d') := HF.out.step hA'.1 hA'.2
      have HP2 : Hid (PermIn 0 n d d') := permIn_trans _ _ _ _ _ HP.out (permIn_mono _ _ _ _ _ _ (Nat.zero_le _) hlt (by omega) hA'.1)
      have HR2 := Lib.hid hR'
      have hz := hR'.2.1
      have hbw2 := hbw.trans hb'
      clear hA' hR' hb' HF HP HR hbw HC
      go_wp2_with fail
      go_roundw
      case rel => exact ⟨a + 20, d', hlt, by go_num, by rw [show ((a + 20 + 20 : Nat) : Int) = (a : Int) + 20 + 20 by omega], hz, HF2, HP2, HR2, hbw2⟩
      case measure => simp [intOf]; omega
    · have m1 : ¬ (a : Int) + 20 ≤ (n : Int) := by omega
      have HC := Lib.hid (HI.out dk a n wk HR.out han (Nat.le_refl _))
      go_wp2_with (go_at_call 97; refine HC.out.mono ?_)
      first | rintro e0 w1 rfl d' hR' hA0 hP' hb' | rintro e0 w1 ⟨rfl, d', hR', hA0, hb'⟩
      have hA' : PermIn a n dk d' ∧ SortedIn Pr.lt a n d' := by first | exact ⟨hA0, hP'⟩ | exact hA0
      have HB0 : Hid (Stab.Blocks Pr.lt 20 n d') := HF.out.finish han (by omega) hA'.1 hA'.2
      have HP0 : Hid (PermIn 0 n d d') := permIn_trans _ _ _ _ _ HP.out (permIn_mono _ _ _ _ _ _ (Nat.zero_le _) (Nat.le_refl _) (by omega) hA'.1)
      have HR0 := Lib.hid hR'
      have hz0 := hR'.2.1
      have hbw0 := hbw.trans hb'
      clear hA' hR' hb' HF HP HR hbw HC
      go_wp2_with fail
      go_loopw [6] (fun kv wr => ∃ (k : Nat) (dk : Array Pr), 20 ≤ k ∧ k ≤ 2 * n + 20 ∧ kv = .int .i64 (k : Int) ∧ dk.size = n ∧ Hid (Stab.Blocks Pr.lt k n dk) ∧ Hid (PermIn 0 n d dk) ∧ Hid (PrRow B g n c dk wr) ∧ Below B w wr) (fun kv _ => n - (intOf kv).toNat)
      case atStart => exact ⟨20, d', Nat.le_refl _, by omega, rfl, hz0, HB0, HP0, HR0, hbw0⟩
      case round =>
        clear HB0 HP0 HR0 hbw0 hz0 hdk
        obtain ⟨wk, rfl⟩ : ∃ wo : World, wo = wr := ⟨_, rfl⟩
        obtain ⟨k, dk, hk, hk2, rfl, hdk, HBL, HP, HR, hbw⟩ := hrel
        by_cases hkn : k < n
        · have m1 : (k : Int) < (n : Int) := by omega
          have m2 : IntKind.i64.wrap (2 * (k : Int)) = 2 * (k : Int) := by rw [IntKind.wrap_i64]; omega
          have m3 : IntKind.i64.wrap ((k : Int) * 2) = (k : Int) * 2 := by rw [IntKind.wrap_i64]; omega
          have HM0 : Hid (Stab.Mid Pr.lt k n 0 dk) := Stab.Mid.start HBL.out
          clear HBL
          go_wp2_with fail
          go_loopw [7, 8] (fun av bv wr => ∃ (a : Nat) (dj : Array Pr), a ≤ n ∧ av = .int .i64 (a : Int) ∧ bv = .int .i64 ((a : Int) + 2 * (k : Int)) ∧ dj.size = n ∧ Hid (Stab.Mid Pr.lt k n a dj) ∧ Hid (PermIn 0 n d dj) ∧ Hid (PrRow B g n c dj wr) ∧ Below B w wr) (fun av _ _ => n + 1 - (intOf av).toNat)
          case atStart => exact ⟨0, dk, Nat.zero_le _, rfl, by simp, hdk, HM0, HP, HR, hbw⟩
          case round =>
            clear HM0 HP HR hbw hdk
            obtain ⟨wl, rfl⟩ : ∃ wo : World, wo = wr := ⟨_, rfl⟩
            obtain ⟨a, dj, han, rfl, rfl, hdj, HM, HP, HR, hbw⟩ := hrel
            have a0 : (0 : Int) ≤ (a : Int) := by omega
            have a1 : IntKind.i64.wrap ((a : Int) + (k : Int)) = (a : Int) + (k : Int) := by rw [IntKind.wrap_i64]; omega
            by_cases hlt : a + 2 * k ≤ n
            · have m4 : (a : Int) + 2 * (k : Int) ≤ (n : Int) := by omega
              have m5 : IntKind.i64.wrap ((a : Int) + 2 * (k : Int) + 2 * (k : Int)) = (a : Int) + 2 * (k : Int) + 2 * (k : Int) := by rw [IntKind.wrap_i64]; omega
              have s2 := HM.out.right
              rw [Nat.min_eq_left hlt] at s2
              have C0 := HS.out dj a (a + k) (a + 2 * k) wl HR.out (HM.out.left (by omega)) s2 (by omega) (by omega) hlt
              rw [show ((a + k : Nat) : Int) = (a : Int) + (k : Int) by omega, show ((a + 2 * k : Nat) : Int) = (a : Int) + 2 * (k : Int) by omega] at C0
              have HC := Lib.hid C0
              clear C0 s2
              go_wp2_with (go_at_call 98; refine HC.out.mono ?_)
              unfold SymIs
              first | rintro e0 w1 rfl d2 hR' hA' hP' hb' | rintro e0 w1 ⟨rfl, d2, hR', hA', hb'⟩
              have HM2 : Hid (Stab.Mid Pr.lt k n (a + 2 * k) d2) := HM.out.step hA'.1 hA'.2
              have HP2 : Hid (PermIn 0 n d d2) := permIn_trans _ _ _ _ _ HP.out (permIn_mono _ _ _ _ _ _ (Nat.zero_le _) hlt (by omega) hA'.1)
              have HR2 := Lib.hid hR'
              have hz := hR'.2.1
              have hbw2 := hbw.trans hb'
              clear hA' hR' hb' HM HP HR hbw HC
              go_wp2_with fail
              go_roundw
              case rel => exact ⟨a + 2 * k, d2, hlt, by rw [show ((a + 2 * k : Nat) : Int) = (a : Int) + 2 * (k : Int) by omega], by rw [show ((a + 2 * k : Nat) : Int) = (a : Int) + 2 * (k : Int) by omega], hz, HM2, HP2, HR2, hbw2⟩
              case measure => simp [intOf]; omega
            · have m4 : ¬ (a : Int) + 2 * (k : Int) ≤ (n : Int) := by omega
              by_cases hm : a + k < n
              · have m5 : (a : Int) + (k : Int) < (n : Int) := by omega
                have s2 := HM.out.right
                rw [Nat.min_eq_right (by omega)] at s2
                have C0 := HS.out dj a (a + k) n wl HR.out (HM.out.left (by omega)) s2 (by omega) hm (Nat.le_refl _)
                rw [show ((a + k : Nat) : Int) = (a : Int) + (k : Int) by omega] at C0
                have HC := Lib.hid C0
                clear C0 s2
                go_wp2_with (go_at_call 98; refine HC.out.mono ?_)
                unfold SymIs
                first | rintro e0 w1 rfl d2 hR' hA' hP' hb' | rintro e0 w1 ⟨rfl, d2, hR', hA', hb'⟩
                have HB2 : Hid (Stab.Blocks Pr.lt (k * 2) n d2) := by
                  show Stab.Blocks _ _ _ _
                  rw [Nat.mul_comm]
                  exact HM.out.finish han (by omega) hA'.1 hA'.2
                have HP2 : Hid (PermIn 0 n d d2) := permIn_trans _ _ _ _ _ HP.out (permIn_mono _ _ _ _ _ _ (Nat.zero_le _) (Nat.le_refl _) (by omega) hA'.1)
                have HR2 := Lib.hid hR'
                have hz := hR'.2.1
                have hbw2 := hbw.trans hb'
                clear hA' hR' hb' HM HP HR hbw HC
                go_wp2_with fail
                go_roundw
                case rel => exact ⟨k * 2, d2, by omega, by omega, by rw [show ((k * 2 : Nat) : Int) = (k : Int) * 2 by omega], hz, HB2, HP2, HR2, hbw2⟩
                case measure => simp [intOf]; omega
              · have m5 : ¬ (a : Int) + (k : Int) < (n : Int) := by omega
                have HB2 : Hid (Stab.Blocks Pr.lt (k * 2) n dj) := by
                  show Stab.Blocks _ _ _ _
                  rw [Nat.mul_comm]
                  exact HM.out.finish han (by omega) (permIn_refl _ _ _) (HM.out.last (by omega))
                clear HM
                go_wp2_with fail
                go_roundw
                case rel => exact ⟨k * 2, dj, by omega, by omega, by rw [show ((k * 2 : Nat) : Int) = (k : Int) * 2 by omega], hdj, HB2, HP, HR, hbw⟩
                case measure => simp [intOf]; omega
        · have m1 : ¬ (k : Int) < (n : Int) := by omega
          go_wp2_with fail
          go_end0
          exact ⟨rfl, dk, HR.out, ⟨HP.out, HBL.out.all (by omega)⟩, hbw⟩
end Go.Proofs.Ytpnpgjjbincigaa
namespace Go.Proofs.Ytpnpgjjbincigaa
open Go.RowKit Go.Sort
set_option linter.unusedVariables false

set_option maxHeartbeats 800000 in
theorem ins_none (f : Value) (w : World) : Calls Try.prog 97 #[.slice none 0 0, .int .i64 0, .int .i64 0, f] w fun e w' => e = .returned (.tuple #[]) ∧ w = w' := by
  go_enter Try.func97, Try.ntmps97
  go_wp2_with fail
  go_loopw [8] (fun iv wr => iv = .int .i64 1 ∧ w = wr) (fun _ _ => 0)
  case atStart => exact ⟨rfl, rfl⟩
  case round =>
    obtain ⟨rfl, rfl⟩ := hrel
    go_wp2_with fail
    go_end0
    exact ⟨rfl, rfl⟩
set_option maxHeartbeats 800000 in
theorem stable_none (f : Value) (w : World) : Calls Try.prog 86 #[.slice none 0 0, .int .i64 0, f] w fun e w' => e = .returned (.tuple #[]) ∧ w = w' := by
  have HI := Lib.hid (ins_none f)
  go_enter Try.func86, Try.ntmps86
  go_wp2_with fail
  go_loopw [7, 8] (fun av bv wr => av = .int .i64 0 ∧ bv = .int .i64 20 ∧ w = wr) (fun _ _ _ => 0)
  case atStart => exact ⟨rfl, rfl, rfl⟩
  case round =>
    obtain ⟨rfl, rfl, rfl⟩ := hrel
    go_wp2_with (go_at_call 97; refine (HI.out _).mono ?_)
    first | rintro e0 w1 rfl rfl | rintro e0 w1 ⟨rfl, rfl⟩
    go_wp2_with fail
    go_loopw [6] (fun kv wr => kv = .int .i64 20 ∧ w = wr) (fun _ _ => 0)
    case atStart => exact ⟨rfl, rfl⟩
    case round =>
      obtain ⟨rfl, rfl⟩ := hrel
      go_wp2_with fail
      go_end0
      exact ⟨rfl, rfl⟩
/-- sorted by keys, as pairs go -/
def Pr.Up (l : List Pr) : Prop := l.Pairwise fun x y => Lab.bs x.k ≤ Lab.bs y.k
theorem Pr.up_of {d : Array Pr} {n : Nat} (hn : d.size = n) (h : SortedIn Pr.lt 0 n d) : Pr.Up d.toList := by
  unfold Pr.Up
  rw [List.pairwise_iff_getElem]
  intro i j hi hj hij
  rw [Array.length_toList] at hi hj
  have := h i j (Nat.zero_le _) hij (by omega)
  unfold Pr.lt at this
  rw [decide_eq_false_iff_not, List.not_lt, getElem!_pos d i hi, getElem!_pos d j hj] at this
  simpa using this
set_option maxHeartbeats 800000 in
set_option maxRecDepth 100000 in
theorem sortPr_is (B : Nat) (v : Value) (l : List Pr) (w : World) (h : OwnR prR B v l w) (hB : B ≤ w.heap.size) (hl : l.length ≤ 1000000) :
    Calls Try.prog 58 #[v, .func (.func 59) #[] #[]] w fun e w' => e = .returned (.tuple #[]) ∧ ∃ l', (l'.Perm l ∧ Pr.Up l') ∧ OwnR prR B v l' w' ∧ Below B w w' := by
  by_cases h0 : l.length = 0
  · have hl0 : l = [] := List.length_eq_zero_iff.1 h0
    subst hl0
    rcases h.open prOk with ⟨rfl, _⟩ | ⟨g, c, rfl, h1, h2, h3, h4, _⟩
    · have HI := Lib.hid (stable_none (.func (.func 59) #[] #[]) )
      go_enter Try.func58, Try.ntmps58
      go_wp2_with (go_at_call 86; refine (HI.out _).mono ?_)
      try rintro e0 w1 ⟨rfl, rfl⟩
      try go_wp2_with fail
      go_end0
      exact ⟨rfl, [], ⟨List.Perm.refl _, List.Pairwise.nil⟩, OwnR.nil _ _ _, Below.refl _ _⟩
    · have hR : PrRow B g 0 c #[] w := ⟨h, rfl, hB⟩
      have HI := Lib.hid (stable_is B g 0 c #[] w hR (by omega))
      have HB := Lib.hid hB
      clear h hB hR
      go_enter Try.func58, Try.ntmps58
      go_wp2_with (go_at_call 86; refine HI.out.mono ?_)
      first | rintro e0 w1 rfl d' hR' hA0 hP' hb' | rintro e0 w1 ⟨rfl, d', hR', hA0, hb'⟩
      have hz : d' = #[] := Array.size_eq_zero_iff.1 hR'.2.1
      subst hz
      have hO := hR'.1
      go_wp2_with fail
      go_end0
      exact ⟨rfl, [], ⟨List.Perm.refl _, List.Pairwise.nil⟩, hO, hb'⟩
  · obtain ⟨g, c, rfl, h1, h2, h3, h4⟩ := h.form (by omega)
    have hR : PrRow B g l.length c l.toArray w := ⟨h, by simp, hB⟩
    have HI := Lib.hid (stable_is B g l.length c l.toArray w hR hl)
    obtain ⟨n, hn⟩ : ∃ n, l.length = n := ⟨_, rfl⟩
    rw [hn] at HI ⊢
    have HN := Lib.hid hn
    clear h hB hR hn h0 h1 h2 h3 h4
    go_enter Try.func58, Try.ntmps58
    go_wp2_with (go_at_call 86; refine HI.out.mono ?_)
    first | rintro e0 w1 rfl d' hR' hA0 hP' hb' | rintro e0 w1 ⟨rfl, d', hR', hA0, hb'⟩
    have hA' : PermIn 0 n l.toArray d' ∧ SortedIn Pr.lt 0 n d' := by first | exact ⟨hA0, hP'⟩ | exact hA0
    have hd := hR'.2.1
    have hp := hA'.1.2.2
    have e1 : (d'.extract 0 n).toList = d'.toList := by rw [← hd, Array.extract_size]
    have e2 : (l.toArray.extract 0 n).toList = l := by
      have : l.toArray.size = n := by simpa using HN.out
      rw [← this, Array.extract_size]
    rw [e1, e2] at hp
    have hQ : Hid (∃ l', (l'.Perm l ∧ Pr.Up l') ∧ OwnR prR B (.slice (some ⟨g, 0, none⟩) n c) l' w1 ∧ Below B w w1) := ⟨d'.toList, ⟨hp, Pr.up_of hd hA'.2⟩, hR'.1, hb'⟩
    clear hA' hA0 hR' hd hp e1 e2
    go_wp2_with fail
    go_end0
    exact ⟨rfl, hQ.out⟩

/-! ### CompactFunc -/
/-- is the i-th one kept: the first, or other than the one before -/
def Pr.kept (l : List Pr) (i : Nat) : Bool := i == 0 || !decide ((l[i]?).map (·.k) = (l[i - 1]?).map (·.k))
def Pr.comp (l : List Pr) : Nat → List Pr
  | 0 => []
  | i + 1 => Pr.comp l i ++ if Pr.kept l i then (l[i]?).toList else []
theorem Pr.comp_len (l : List Pr) (i : Nat) : (Pr.comp l i).length ≤ i := by
  induction i with
  | zero => simp [Pr.comp]
  | succ i ih =>
    unfold Pr.comp
    rw [List.length_append]
    split
    · have : (l[i]?).toList.length ≤ 1 := by cases l[i]? <;> simp
      omega
    · simp; omega
theorem Pr.comp_full (l : List Pr) (i : Nat) (hi : i ≤ l.length) (h : ∀ j, j < i → Pr.kept l j = true) : Pr.comp l i = l.take i := by
  induction i with
  | zero => simp [Pr.comp]
  | succ i ih =>
    rw [Pr.comp, ih (by omega) (fun j hj => h j (by omega)), if_pos (h i (by omega)), List.take_add_one]
theorem Pr.kept_eq {l : List Pr} {i : Nat} (h0 : 0 < i) (hi : i < l.length) : Pr.kept l i = !decide (l[i].k = l[i - 1].k) := by
  unfold Pr.kept
  rw [List.getElem?_eq_getElem hi, List.getElem?_eq_getElem (show i - 1 < l.length by omega)]
  have : (i == 0) = false := beq_eq_false_iff_ne.2 (by omega)
  rw [this, Bool.false_or]
  congr 1
  simp
set_option maxHeartbeats 1600000 in
set_option maxRecDepth 100000 in
theorem prEq_is (x y : Pr) (p : Bool) (h : decide (x.k = y.k) = p) (w : World) : Calls Try.prog 62 #[.agg #[.string x.k, .pointer x.s, .pointer x.t], .agg #[.string y.k, .pointer y.s, .pointer y.t]] w fun e w' => e = .returned (.bool p) ∧ Below w.heap.size w w' := by
  have q : (x.k.toList == y.k.toList) = p := by
    rw [← h, ByteArray.toList_eq, ByteArray.toList_eq, Bool.eq_iff_iff]
    simp only [beq_iff_eq, decide_eq_true_eq]
    exact ⟨fun h => ByteArray.ext (Array.toList_inj.1 h), fun h => by rw [h]⟩
  clear h
  go_enter Try.func62, Try.ntmps62
  go_wp2_with fail
  go_ret
  exact ⟨rfl, ((Below.refl _ _).alloc (Nat.le_refl _) _).alloc (by simp) _⟩
theorem run_clear_pairs (w : World) (b o n : Nat) (hn : 0 < n)
    (hc : ∀ j, j < n * 3 → (w.cell? ⟨b, o + j, none⟩).isSome = true) (hf : ∀ j, j < n * 3 → w.frozen? ⟨b, o + j, none⟩ = false) :
    ∃ vs : List Value, vs.length = n * 3 ∧ ∀ (ty : TypeId) (c : Nat), (Builtin.clear_ #[100] ty #[.slice (some ⟨b, o, none⟩) n c]).run Try.prog w = .ok (.tuple #[]) (w.setCells b o vs) := by
  refine ⟨(Builtin.zeroCells (#[.string ⟨#[]⟩, .pointer none, .pointer none] : Array Value) n).toList, by simp [Builtin.zeroCells], fun ty c => ?_⟩
  have hst := Go.run_storeCells_cells (P := Try.prog) b o (Builtin.zeroCells (#[.string ⟨#[]⟩, .pointer none, .pointer none] : Array Value) n).toList 0 w (by simpa [Builtin.zeroCells] using hc) (by simpa [Builtin.zeroCells] using hf) (by
    intro v hv
    simp only [Builtin.zeroCells, Array.toList_map, List.mem_map] at hv
    obtain ⟨i, _, rfl⟩ := hv
    have h3 : i % 3 = 0 ∨ i % 3 = 1 ∨ i % 3 = 2 := by omega
    rcases h3 with h | h | h <;> simp [h] <;> rfl)
  simp only [Nat.add_zero] at hst
  obtain ⟨m, rfl⟩ : ∃ m, n = m + 1 := ⟨n - 1, by omega⟩
  have hu := run_underlying Try.underlying100 (w := w)
  have hv := Try.zeroValue104 w
  simp [Builtin.clear_, hu, hv, Value.cells, hst]
end Go.Proofs.Ytpnpgjjbincigaa
namespace Go.Proofs.Ytpnpgjjbincigaa
open Go.RowKit Go.Sort
set_option linter.unusedVariables false

set_option maxHeartbeats 6400000 in
set_option maxRecDepth 100000 in
theorem compact_row (B g n c : Nat) (l : List Pr) (w : World) (h : PrRow B g n c l.toArray w) (hl : n ≤ 1000000) (hcm : c ≤ 9223372036854775807) (hnc : n ≤ c) (h2 : 2 ≤ n) :
    Calls Try.prog 61 #[.slice (some ⟨g, 0, none⟩) n c, .func (.func 62) #[] #[]] w fun e w' => (∃ u, e = .returned u ∧ OwnR prR B u (Pr.comp l n) w') ∧ Below B w w' := by
  have H := Lib.hid h
  have hln : l.length = n := by have := h.2.1; simpa using this
  have HLN := Lib.hid hln
  have hg := h.lt
  have hB := h.2.2
  have HG : Hid (∀ i (hi : i < l.length), l.toArray[i]! = l[i]) := fun i hi => by
    rw [getElem!_pos _ i (by simpa using hi)]
    simp
  have mixed : Try.prog.follows .mixedOrders = true := by kernel_rfl
  clear h hln
  go_enter Try.func61, Try.ntmps61
  have e2 : ¬ (n : Int) < 2 := by omega
  go_wp2_with fail
  go_loopw [5] (fun kv wr => ∃ k : Nat, 1 ≤ k ∧ k ≤ n ∧ kv = .int .i64 (k : Int) ∧ Hid (∀ j, j < k → Pr.kept l j = true) ∧ Hid (PrRow B g n c l.toArray wr) ∧ Below B w wr) (fun kv _ => n - (intOf kv).toNat)
  case atStart => exact ⟨1, Nat.le_refl _, by omega, rfl, (fun j hj => by
    obtain rfl : j = 0 := by omega
    rfl), H, Below.refl _ _⟩
  case round =>
    obtain ⟨wj, rfl⟩ : ∃ wo : World, wo = wr := ⟨_, rfl⟩
    obtain ⟨k, hk1, hkn, rfl, HK, HR, hbw⟩ := hrel
    by_cases hlt : k < n
    · obtain ⟨kp, rfl⟩ : ∃ kp, k = kp + 1 := ⟨k - 1, by omega⟩
      obtain ⟨x, hx⟩ : ∃ x, l.toArray[kp + 1]! = x := ⟨_, rfl⟩
      obtain ⟨y, hy⟩ : ∃ y, l.toArray[kp]! = y := ⟨_, rfl⟩
      have HTW := Lib.hid (HR.out.two (kp + 1) kp (by omega) (by omega) hx hy)
      obtain ⟨p, hp⟩ : ∃ p, decide (x.k = y.k) = p := ⟨_, rfl⟩
      have HCC := Lib.hid (fun w => prEq_is x y p hp w)
      have HKP : Hid (Pr.kept l (kp + 1) = !p) := by
        show _ = _
        rw [Pr.kept_eq (by omega) (by rw [HLN.out]; exact hlt), ← hp, ← hx, ← hy, HG.out _ (by rw [HLN.out]; exact hlt), HG.out _ (by rw [HLN.out]; omega)]
        simp only [Nat.add_sub_cancel]
      obtain ⟨xk, xs, xt⟩ := x
      obtain ⟨yk, ys, yt⟩ := y
      obtain ⟨b0, c0, c1, c2, c3, c4, c5⟩ := HTW.out _ ((Below.refl _ wj).drew)
      dsimp only at c0 c1 c2 c3 c4 c5
      have m1 : (kp : Int) + 1 < (n : Int) := by omega
      have n0 : (0 : Int) ≤ (kp : Int) := by omega
      have n1 : (kp : Int) < (n : Int) := by omega
      have n4 : (0 : Int) ≤ (kp : Int) + 1 := by omega
      have n5 : ((kp : Int) + 1).toNat = kp + 1 := by omega
      have n6 : IntKind.i64.wrap (kp : Int) = (kp : Int) := by rw [IntKind.wrap_i64]; omega
      have n7 : IntKind.i64.wrap ((kp : Int) + 1 + 1) = (kp : Int) + 1 + 1 := by rw [IntKind.wrap_i64]; omega
      clear hp hx hy
      go_wp2_with fail
      go_region_held3 (fun w' => Below wj.heap.size wj w' ∧ w'.cell? ⟨g, (kp + 1) * 3, none⟩ = some (.string xk) ∧ w'.cell? ⟨g, (kp + 1) * 3 + 1, none⟩ = some (.pointer xs) ∧ w'.cell? ⟨g, (kp + 1) * 3 + 2, none⟩ = some (.pointer xt) ∧ w'.cell? ⟨g, kp * 3, none⟩ = some (.string yk) ∧ w'.cell? ⟨g, kp * 3 + 1, none⟩ = some (.pointer ys) ∧ w'.cell? ⟨g, kp * 3 + 2, none⟩ = some (.pointer yt))
        (first | exact HTW.out _ (b0.trans (by assumption)) | exact HTW.out _ (by assumption) | go_keep)
        ((go_at_call 62; refine (HCC.out _).mono ?_; rintro e w1 ⟨rfl, hb1⟩))
      have hB1 : Below wj.heap.size wj w1 := b0.trans hb1
      have HR1 := Lib.hid (HR.out.later hB1)
      have hbw1 : Below B w w1 := hbw.trans (hB1.mono HR.out.2.2)
      clear hb1 hB1 b0 c0 c1 c2 c3 c4 c5 HTW HCC HR hbw
      cases p
      · have HK2 : Hid (∀ j, j < kp + 1 + 1 → Pr.kept l j = true) := fun j hj => by
          by_cases q : j = kp + 1
          · rw [q]; exact HKP.out
          · exact HK.out j (by omega)
        clear HK HKP
        go_wp2_with fail
        go_roundw
        case rel => exact ⟨kp + 1 + 1, by omega, by omega, by go_num, HK2, HR1, hbw1⟩
        case measure => simp [intOf]; omega
      · have HC0 : Hid (Pr.comp l (kp + 1 + 1) = l.take (kp + 1)) := by
          show _ = _
          rw [Pr.comp, Pr.comp_full l (kp + 1) (by rw [HLN.out]; omega) HK.out, HKP.out]
          simp
        have s1 : (kp : Int) + 1 ≤ (n : Int) := by omega
        have s2 : (kp : Int) + 1 ≤ (c : Int) := by omega
        have s3 : (n : Int) ≤ (c : Int) := by omega
        clear HK HKP
        have HR0 : Hid (PrRow B g n c l.toArray w1) := HR1
        clear HR1
        go_wp2_with fail
        go_loopw [5, 7] (fun iv qv wr => ∃ (i q : Nat) (M : Array Pr), 1 ≤ q ∧ (kp + 1) ≤ i ∧ i < (kp + 1) + q ∧ (kp + 1) + q ≤ n ∧ iv = .int .i64 (i : Int) ∧ qv = .int .i64 (q : Int) ∧ Hid (M.toList.take i = Pr.comp l ((kp + 1) + q)) ∧ Hid (∀ t, i ≤ t → M.toList[t]? = l[t]?) ∧ Hid (PrRow B g n c M wr) ∧ Below B w wr) (fun _ qv _ => n - (intOf qv).toNat)
        case atStart => exact ⟨(kp + 1), 1, l.toArray, Nat.le_refl _, Nat.le_refl _, by omega, by omega, by go_num, rfl, by (show _ = _; rw [HC0.out]), (fun t _ => by simp), HR0, hbw1⟩
        case round =>
          clear HR0 hbw1
          obtain ⟨wi, rfl⟩ : ∃ wo : World, wo = wr := ⟨_, rfl⟩
          obtain ⟨i, q, M, hq1, hki, hik, hkq, rfl, rfl, HT, HD, HR, hbw⟩ := hrel
          have hMs := HR.out.2.1
          by_cases hlt2 : (kp + 1) + q < n
          · obtain ⟨qp, rfl⟩ : ∃ qp, q = qp + 1 := ⟨q - 1, by omega⟩
            have hj : (kp + 1) + (qp + 1) < l.length := by rw [HLN.out]; exact hlt2
            have hj2 : (kp + 1) + qp < l.length := by rw [HLN.out]; omega
            have gM : ∀ t, i ≤ t → (ht : t < l.length) → M[t]! = l[t] := fun t h1 h2 => by
              have := HD.out t h1
              rw [List.getElem?_eq_getElem h2, Array.getElem?_toList] at this
              rw [getElem!_def, this]
            obtain ⟨x, hx⟩ : ∃ x, M[(kp + 1) + (qp + 1)]! = x := ⟨_, rfl⟩
            obtain ⟨y, hy⟩ : ∃ y, M[(kp + 1) + qp]! = y := ⟨_, rfl⟩
            have HTW := Lib.hid (HR.out.two ((kp + 1) + (qp + 1)) ((kp + 1) + qp) (by omega) (by omega) hx hy)
            obtain ⟨p, hp⟩ : ∃ p, decide (x.k = y.k) = p := ⟨_, rfl⟩
            have HCC := Lib.hid (fun w => prEq_is x y p hp w)
            have hxl : l[(kp + 1) + (qp + 1)] = x := by rw [← hx]; exact (gM _ (by omega) hj).symm
            have hyl : l[(kp + 1) + qp] = y := by rw [← hy]; exact (gM _ (by omega) hj2).symm
            have HKP : Hid (Pr.kept l ((kp + 1) + (qp + 1)) = !p) := by
              show _ = _
              rw [Pr.kept_eq (by omega) hj, ← hp, hxl]
              have : l[(kp + 1) + (qp + 1) - 1]'(by omega) = y := by rw [← hyl]; congr 1
              rw [this]
            have HXL : Hid (l[(kp + 1) + (qp + 1)]? = some x) := by show _ = _; rw [List.getElem?_eq_getElem hj, hxl]
            obtain ⟨xk, xs, xt⟩ := x
            obtain ⟨yk, ys, yt⟩ := y
            have a1 : (kp + 1) * 3 + (qp + 1) * 3 = ((kp + 1) + (qp + 1)) * 3 := by omega
            have a2 : (kp + 1) * 3 + qp * 3 = ((kp + 1) + qp) * 3 := by omega
            have HT2 : Hid (∀ w', Below wi.heap.size wi w' → Below wi.heap.size wi w' ∧ w'.cell? ⟨g, (kp + 1) * 3 + (qp + 1) * 3, none⟩ = some (.string xk) ∧ w'.cell? ⟨g, (kp + 1) * 3 + (qp + 1) * 3 + 1, none⟩ = some (.pointer xs) ∧ w'.cell? ⟨g, (kp + 1) * 3 + (qp + 1) * 3 + 2, none⟩ = some (.pointer xt) ∧ w'.cell? ⟨g, (kp + 1) * 3 + qp * 3, none⟩ = some (.string yk) ∧ w'.cell? ⟨g, (kp + 1) * 3 + qp * 3 + 1, none⟩ = some (.pointer ys) ∧ w'.cell? ⟨g, (kp + 1) * 3 + qp * 3 + 2, none⟩ = some (.pointer yt)) := by
              intro w' hb
              rw [a1, a2]
              exact HTW.out w' hb
            obtain ⟨b0, c0, c1, c2, c3, c4, c5⟩ := HT2.out _ ((Below.refl _ wi).drew)
            have m2 : (qp : Int) + 1 < (n : Int) - ((kp : Int) + 1) := by omega
            have m3 : ((n - (kp + 1) : Nat) : Int) = (n : Int) - ((kp : Int) + 1) := by omega
            have m4 : (qp : Int) + 1 < ((n - (kp + 1) : Nat) : Int) := by omega
            have m5 : (qp : Int) < ((n - (kp + 1) : Nat) : Int) := by omega
            have n0 : (0 : Int) ≤ (qp : Int) := by omega
            have n4 : (0 : Int) ≤ (qp : Int) + 1 := by omega
            have n5 : ((qp : Int) + 1).toNat = qp + 1 := by omega
            have n6 : IntKind.i64.wrap (qp : Int) = (qp : Int) := by rw [IntKind.wrap_i64]; omega
            have n7 : IntKind.i64.wrap ((qp : Int) + 1 + 1) = (qp : Int) + 1 + 1 := by rw [IntKind.wrap_i64]; omega
            have i0 : (0 : Int) ≤ (i : Int) := by omega
            have i1 : (i : Int) < (n : Int) := by omega
            have i7 : IntKind.i64.wrap ((i : Int) + 1) = (i : Int) + 1 := by rw [IntKind.wrap_i64]; omega
            clear hp hx hy hxl hyl gM HTW a1 a2 m3
            go_wp2_with fail
            go_region_held3 (fun w' => Below wi.heap.size wi w' ∧ w'.cell? ⟨g, (kp + 1) * 3 + (qp + 1) * 3, none⟩ = some (.string xk) ∧ w'.cell? ⟨g, (kp + 1) * 3 + (qp + 1) * 3 + 1, none⟩ = some (.pointer xs) ∧ w'.cell? ⟨g, (kp + 1) * 3 + (qp + 1) * 3 + 2, none⟩ = some (.pointer xt) ∧ w'.cell? ⟨g, (kp + 1) * 3 + qp * 3, none⟩ = some (.string yk) ∧ w'.cell? ⟨g, (kp + 1) * 3 + qp * 3 + 1, none⟩ = some (.pointer ys) ∧ w'.cell? ⟨g, (kp + 1) * 3 + qp * 3 + 2, none⟩ = some (.pointer yt))
              (first | exact HT2.out _ (b0.trans (by assumption)) | exact HT2.out _ (by assumption) | go_keep)
              ((go_at_call 62; refine (HCC.out _).mono ?_; rintro e w1 ⟨rfl, hb1⟩))
            have hB1 : Below wi.heap.size wi w1 := b0.trans hb1
            have HR1 := Lib.hid (HR.out.later hB1)
            have hbw1 : Below B w w1 := hbw.trans (hB1.mono HR.out.2.2)
            obtain ⟨_, d0, d1, d2, _, _, _⟩ := HT2.out _ hB1
            clear hb1 hB1 b0 c0 c1 c2 c3 c4 c5 HT2 HCC HR hbw
            cases p
            · obtain ⟨f0, f1, f2⟩ := HR1.out.cells i (by omega)
              have g0 := HR1.out.free (i * 3)
              have g1 := HR1.out.free (i * 3 + 1)
              have g2 := HR1.out.free (i * 3 + 2)
              have HPT := Lib.hid (HR1.out.put i (by omega) ⟨xk, xs, xt⟩)
              have HT3 : Hid ((M.setIfInBounds i ⟨xk, xs, xt⟩).toList.take (i + 1) = Pr.comp l ((kp + 1) + (qp + 1 + 1))) := by
                show _ = _
                rw [show (kp + 1) + (qp + 1 + 1) = (kp + 1) + (qp + 1) + 1 by omega, Pr.comp, HKP.out, HXL.out, ← HT.out, Array.toList_setIfInBounds, List.take_add_one, List.getElem?_set_self (by rw [Array.length_toList]; omega), List.take_set_of_le (Nat.le_refl _)]
                rfl
              have HD3 : Hid (∀ t, i + 1 ≤ t → (M.setIfInBounds i ⟨xk, xs, xt⟩).toList[t]? = l[t]?) := fun t ht => by
                rw [Array.toList_setIfInBounds, List.getElem?_set_ne (by omega)]
                exact HD.out t (by omega)
              clear HT HD HKP HXL
              go_wp2_with fail
              go_roundw
              case rel => exact ⟨i + 1, qp + 1 + 1, _, by omega, by omega, by omega, by omega, by go_num, by go_num, HT3, HD3, HPT.out.1, hbw1.trans HPT.out.2⟩
              case measure => simp [intOf]; omega
            · have HT3 : Hid (M.toList.take i = Pr.comp l ((kp + 1) + (qp + 1 + 1))) := by
                show _ = _
                rw [show (kp + 1) + (qp + 1 + 1) = (kp + 1) + (qp + 1) + 1 by omega, Pr.comp, HKP.out, HT.out]
                simp
              clear HT HKP HXL
              go_wp2_with fail
              go_roundw
              case rel => exact ⟨i, qp + 1 + 1, M, by omega, hki, by omega, by omega, rfl, by go_num, HT3, HD, HR1, hbw1⟩
              case measure => simp [intOf]; omega
          · have hq : q = n - (kp + 1) := by omega
            have m4 : ¬ (q : Int) < ((n - (kp + 1) : Nat) : Int) := by omega
            have hin : i < n := by omega
            obtain ⟨vs, hvs, hcl0⟩ := run_clear_pairs wi g (i * 3) (n - i) (by omega)
              (fun t ht => by
                have h3 : t % 3 = 0 ∨ t % 3 = 1 ∨ t % 3 = 2 := by omega
                obtain ⟨f0, f1, f2⟩ := HR.out.cells (i + t / 3) (by omega)
                rcases h3 with h | h | h
                · rw [show i * 3 + t = (i + t / 3) * 3 by omega]; exact Option.isSome_of_eq_some f0
                · rw [show i * 3 + t = (i + t / 3) * 3 + 1 by omega]; exact Option.isSome_of_eq_some f1
                · rw [show i * 3 + t = (i + t / 3) * 3 + 2 by omega]; exact Option.isSome_of_eq_some f2)
              (fun t _ => HR.out.free _)
            have hrow : wi.ownsRow B prR.T 3 (.slice (some ⟨g, 0, none⟩) n c) n (prR.cells M.toList) := by
              have := HR.out.1
              unfold OwnR at this
              rw [Array.length_toList, hMs] at this
              exact this
            have hle : i * 3 + vs.length ≤ (prR.cells M.toList).length := by
              have e : M.toList.length = n := by rw [Array.length_toList]; exact hMs
              rw [prOk.length, e, hvs]
              show i * 3 + (n - i) * 3 ≤ n * 3
              omega
            obtain ⟨r1, r3⟩ := owns_setCells vs (i * 3) wi (prR.cells M.toList) hrow
            have hcl2 : ∀ ty cc, (Builtin.clear_ #[100] ty #[.slice (some ⟨g, i * 3, none⟩) (n - i) cc]).run Try.prog wi = .ok (.tuple #[]) (wi.setCells g (i * 3) vs) := hcl0
            obtain ⟨W, hW⟩ : ∃ W, wi.setCells g (i * 3) vs = W := ⟨_, rfl⟩
            rw [hW] at r1 r3 hcl2
            have hbW : Below B w W := hbw.trans (grown_below r3 hg.1 HR.out.2.2)
            have hjn : (kp + 1) + q = n := by omega
            have hTl := HT.out
            rw [hjn] at hTl
            have hlen : (Pr.comp l n).length = i := by rw [← hTl, List.length_take, Array.length_toList, hMs]; omega
            have hres : OwnR prR B (.slice (some ⟨g, 0, none⟩) i c) (Pr.comp l n) W := by
              obtain ⟨r4, r5⟩ := r1
              rcases r5 with ⟨r5, _⟩ | ⟨g', cap', cur, hv5, hg5, hh5, h51, h52, h53, h54⟩
              · cases r5
              · cases hv5
                unfold OwnR
                rw [hlen]
                refine ⟨by rw [prOk.length, hlen], .inr ⟨g, c, cur, rfl, hg5, hh5, by omega, h52, h53, ?_⟩⟩
                have e1 : cur.toList.take (i * 3) = (setL (prR.cells M.toList) (i * 3) vs).take (i * 3) := by
                  rw [← h54, List.take_take, Nat.min_eq_left (by omega)]
                have e2 : (setL (prR.cells M.toList) (i * 3) vs).take (i * 3) = (prR.cells M.toList).take (i * 3) := by
                  apply List.ext_getElem?
                  intro t
                  by_cases ht : t < i * 3
                  · rw [List.getElem?_take_of_lt ht, List.getElem?_take_of_lt ht, setL_get _ _ _ hle, if_neg (by omega)]
                  · rw [List.getElem?_take_eq_none (by omega), List.getElem?_take_eq_none (by omega)]
                have e3 : (prR.cells M.toList).take (i * 3) = prR.cells (M.toList.take i) := by
                  conv => lhs; rw [← List.take_append_drop i M.toList, Rec.cells_append]
                  rw [List.take_left' (by rw [prOk.length, List.length_take, Array.length_toList, hMs]; show min i n * 3 = i * 3; rw [Nat.min_eq_left (by omega)])]
                show cur.toList.take (i * 3) = _
                rw [e1, e2, e3, hTl]
            have HRS := Lib.hid hres
            have HBW := Lib.hid hbW
            have hcl3 := Lib.hid hcl2
            have i0 : (0 : Int) ≤ (i : Int) := by omega
            have i1 : (i : Int) < (n : Int) := by omega
            have i2 : (i : Int) ≤ (n : Int) := by omega
            have i3 : (i : Int) ≤ (c : Int) := by omega
            clear r1 r3 hrow hW hres hbW hTl hlen HT HD hcl0 hcl2 hjn hq
            have hcl := hcl3.out
            go_wp2_with fail
            go_ret
            exact ⟨⟨_, rfl, HRS.out⟩, HBW.out⟩
    · have HC1 : Hid (Pr.comp l n = l) := by
        show _ = _
        rw [Pr.comp_full l n (by rw [HLN.out]; exact Nat.le_refl _) (fun j hj => HK.out j (by omega)), List.take_of_length_le (by rw [HLN.out]; exact Nat.le_refl _)]
      have hO := HR.out.1
      go_wp2_with fail
      go_ret
      rw [HC1.out]
      exact ⟨⟨_, rfl, HR.out.1⟩, hbw⟩
set_option maxHeartbeats 800000 in
set_option maxRecDepth 100000 in
theorem compact_is (B : Nat) (v : Value) (l : List Pr) (w : World) (h : OwnR prR B v l w) (hB : B ≤ w.heap.size) (hl : l.length ≤ 1000000) :
    Calls Try.prog 61 #[v, .func (.func 62) #[] #[]] w fun e w' => (∃ u, e = .returned u ∧ OwnR prR B u (Pr.comp l l.length) w') ∧ Below B w w' := by
  by_cases h2 : 2 ≤ l.length
  · obtain ⟨g, c, rfl, h3, h4, h5, h6⟩ := h.form (by omega)
    exact compact_row B g l.length c l w ⟨h, by simp, hB⟩ hl (by unfold maxLen at h6; omega) h5 h2
  · have hcl : Pr.comp l l.length = l := by
      rw [Pr.comp_full l l.length (Nat.le_refl _) (fun j hj => by
        obtain rfl : j = 0 := by omega
        rfl), List.take_of_length_le (Nat.le_refl _)]
    rw [hcl]
    obtain ⟨p, c, rfl, hc1, hc2, _⟩ := h.shape
    obtain ⟨n, hn⟩ : ∃ n, l.length = n := ⟨_, rfl⟩
    have HO := Lib.hid h
    rw [hn] at HO h2 ⊢
    have e2 : (n : Int) < 2 := by omega
    clear h hcl hn
    go_enter Try.func61, Try.ntmps61
    go_wp2_with fail
    go_ret
    exact ⟨⟨_, rfl, HO.out⟩, Below.refl _ _⟩
end Go.Proofs.Ytpnpgjjbincigaa
