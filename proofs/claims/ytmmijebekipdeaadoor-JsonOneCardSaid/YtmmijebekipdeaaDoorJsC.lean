/- Contracts of the reader: low, escape. (Printed by gen_esc.py.) -/
import Derived.Test.YtmmijebekipdeaaDoorJsB
import Derived.Lib.ConvBytes
namespace Go.Proofs.YtmmijebekipdeaaDoor
open Go.RowKit
set_option maxRecDepth 100000

abbrev Js.hexS : ByteArray := ⟨#[48, 49, 50, 51, 52, 53, 54, 55, 56, 57, 97, 98, 99, 100, 101, 102, 65, 66, 67, 68, 69, 70]⟩
abbrev Js.escS : ByteArray := ⟨#[34, 92, 47, 98, 116, 110, 102, 114, 117]⟩
abbrev Js.btnS : ByteArray := ⟨#[98, 116, 110, 102, 114]⟩
theorem Js.ix_hex (c : Nat) (hc : c < 256) : decide (0 ≤ Lib.indexByte Js.hexS.data.toList (UInt8.ofNat c)) = (Js.hexd c).isSome :=
  Js.fin256 (P := fun c => decide (0 ≤ Lib.indexByte Js.hexS.data.toList (UInt8.ofNat c)) = (Js.hexd c).isSome) (by decide +kernel) c hc
theorem Js.ix_esc (c : Nat) (hc : c < 256) : decide (0 ≤ Lib.indexByte Js.escS.data.toList (UInt8.ofNat c)) = ((Js.short c).isSome || c == 117) :=
  Js.fin256 (P := fun c => decide (0 ≤ Lib.indexByte Js.escS.data.toList (UInt8.ofNat c)) = ((Js.short c).isSome || c == 117)) (by decide +kernel) c hc
theorem Js.ix_btn (c : Nat) (hc : c < 256) (h : ¬ (c = 98 ∨ c = 116 ∨ c = 110 ∨ c = 102 ∨ c = 114)) : decide (0 ≤ Lib.indexByte Js.btnS.data.toList (UInt8.ofNat c)) = false :=
  Js.fin256 (P := fun c => ¬ (c = 98 ∨ c = 116 ∨ c = 110 ∨ c = 102 ∨ c = 114) → decide (0 ≤ Lib.indexByte Js.btnS.data.toList (UInt8.ofNat c)) = false) (by decide +kernel) c hc h
theorem Js.or4 (x d : Nat) (hx : x < 4096) (hd : d < 16) : bits .or .i32 ((x : Int) * 16) (d : Int) = ((16 * x + d : Nat) : Int) := by
  rw [bits_join .i32 31 (by decide) wraps_i32 4 ((x : Int) * 16) d (by omega) (by omega) (by omega) (by omega) (by omega) (by omega)]
  omega
theorem Js.short_cases (c x : Nat) (h : Js.short c = some x) : ((c = 34 ∨ c = 92 ∨ c = 47) ∧ x = c) ∨ (c = 98 ∧ x = 8) ∨ (c = 116 ∧ x = 9) ∨ (c = 110 ∧ x = 10) ∨ (c = 102 ∧ x = 12) ∨ (c = 114 ∧ x = 13) := by
  unfold Js.short at h
  repeat' split at h
  all_goals first | (cases h; done) | (simp at h; omega)

theorem Js.hx_end (s : ByteArray) : ∀ n k x y, k ≤ s.size → Js.hx s n k x = .ok y → k + n ≤ s.size
  | 0, k, x, y, h, _ => by omega
  | n + 1, k, x, y, hk, h => by
    rw [Js.hx] at h
    cases hd : Js.hexd (Js.nx s k) with
    | none => rw [hd] at h; cases h
    | some d =>
      rw [hd] at h
      have hlt : k < s.size := Nat.lt_of_not_le fun hh => by rw [Js.nx_end s _ hh] at hd; simp [Js.hexd] at hd
      have := Js.hx_end s n (k + 1) _ y hlt h
      omega
theorem Js.low_some (s : ByteArray) (k y : Nat) (h : Js.low s k = some y) : 56320 ≤ y ∧ y ≤ 57343 ∧ k + 6 ≤ s.size := by
  unfold Js.low at h
  split at h
  case isTrue hc =>
    have h1 : k + 1 < s.size := Nat.lt_of_not_le fun hh => by have := Js.nx_end s _ hh; omega
    cases hy : Js.hx s 4 (k + 2) 0 with
    | error p => rw [hy] at h; cases h
    | ok z =>
      rw [hy] at h
      have := Js.hx_end s 4 (k + 2) 0 z (by omega) hy
      have h9 : (if 56320 ≤ z ∧ z ≤ 57343 then some z else none) = some y := h
      split at h9
      · cases h9; omega
      · cases h9
  · cases h
def Js.lowOf : Except Nat Nat → Option Nat
  | .ok y => if 56320 ≤ y ∧ y ≤ 57343 then some y else none
  | .error _ => none
theorem Js.ext_get (s : ByteArray) (a b j : Nat) (hb : b ≤ s.size) (hj : a + j < b) : (s.extract a b).data.toList.getD j 0 = s[a + j]'(by omega) := by
  have hz : (s.extract a b).size = b - a := by rw [ByteArray.size_extract]; omega
  have hl : j < (s.extract a b).data.toList.length := by
    rw [Array.length_toList]; show j < (s.extract a b).size; omega
  rw [List.getD_eq_getElem?_getD, List.getElem?_eq_getElem hl]
  simp [ByteArray.data_extract]
  rfl
theorem Js.ext_two (s : ByteArray) (a : Nat) (h : a + 2 ≤ s.size) : (s.extract a (a + 2)).data.toList = [s[a]'(by omega), s[a + 1]'(by omega)] := by
  have hz : (s.extract a (a + 2)).data.toList.length = 2 := by
    rw [Array.length_toList]; show (s.extract a (a + 2)).size = 2
    rw [ByteArray.size_extract]; omega
  have e0 := Js.ext_get s a (a + 2) 0 h (by omega)
  have e1 := Js.ext_get s a (a + 2) 1 h (by omega)
  match hl : (s.extract a (a + 2)).data.toList, hz with
  | [x, y], _ =>
    rw [hl] at e0 e1
    have h0 : x = s[a]'(by omega) := e0
    have h1 : y = s[a + 1]'(by omega) := e1
    rw [h0, h1]

set_option maxHeartbeats 4000000 in
theorem Js.low_is (R : Nat) (s : ByteArray) (k o b : Nat) (w : World) (hR : w.heap[R]? = some (Js.obj s k o b)) (hk : k ≤ s.size) (hs : s.size ≤ 1000000) :
    Calls Tryd.prog 115 #[.pointer (some ⟨R, 0, none⟩)] w fun e w' => ∃ y : Nat, e = .returned (.tuple #[.int .i32 y, .bool (Js.low s k).isSome]) ∧ (∀ z, Js.low s k = some z → z = y) ∧ Below w.heap.size w w' := by
  have c0 : w.cell? ⟨R, 0, none⟩ = some (.string s) := by rw [Lib.cell_of_heap hR]; rfl
  have c1 : w.cell? ⟨R, 1, none⟩ = some (.int .i64 k) := by rw [Lib.cell_of_heap hR]; rfl
  have HRW := lt_of_heap hR
  clear hR
  obtain ⟨L, hL⟩ : ∃ L, Js.low s k = L := ⟨_, rfl⟩
  rw [hL]
  have HL := Lib.hid hL
  have hLs := Js.low_some s k
  rw [hL] at hLs
  clear hL
  have hk0 : (0 : Int) ≤ k := by omega
  by_cases h6 : s.size < k + 6
  · have b1 : decide ((s.size : Int) < (k : Int) + 6) = true := decide_eq_true (by omega)
    have HE : Hid (L = none) := by
      cases L with
      | none => rfl
      | some y => have := hLs y rfl; omega
    clear hLs HL
    go_enter Tryd.func115, Tryd.ntmps115
    go_wp2_with fail
    go_quiet (fail)
    go_wp2
    go_ret2
    obtain rfl : L = none := HE.out
    exact ⟨0, rfl, (fun z h => by cases h), below_drewN (Below.refl _ _) _⟩
  · have b1 : decide ((s.size : Int) < (k : Int) + 6) = false := decide_eq_false (by omega)
    have hk6 : (k : Int) + 6 ≤ s.size := by omega
    have hk2 : (k : Int) + 2 ≤ s.size := by omega
    have hu := Js.ext_two s k (by omega)
    have hn0 := Js.nx_get s k (by omega)
    have hn1 := Js.nx_get s (k + 1) (by omega)
    by_cases hp : Js.nx s k = 92 ∧ Js.nx s (k + 1) = 117
    · obtain ⟨H, hH⟩ : ∃ H, Js.hx s 4 (k + 2) 0 = H := ⟨_, rfl⟩
      have HL2 : Hid (Js.lowOf H = L) := by
        have h9 : _ = L := HL.out
        unfold Js.low at h9
        rw [if_pos hp, hH] at h9
        exact h9
      have hq : ((s.extract k (k + 2)).toList == [(92 : UInt8), 117]) = true := by
        rw [ByteArray.toList_eq, hu]
        have e0 : s[k]'(by omega) = 92 := UInt8.toNat_inj.1 (by rw [← hn0]; exact hp.1)
        have e1 : s[k + 1]'(by omega) = 117 := UInt8.toNat_inj.1 (by rw [← hn1]; exact hp.2)
        rw [e0, e1]
        rfl
      have HH := Lib.hid hH
      clear hLs HL hp hu hn0 hn1 hH
      obtain ⟨t, ht⟩ : ∃ t, s.extract (k + 2) (k + 6) = t := ⟨_, rfl⟩
      have htz : t.size = 4 := by rw [← ht, ByteArray.size_extract]; omega
      have HT := Lib.hid ht
      have hkk : (k : Int) + 2 ≤ (k : Int) + 6 := by omega
      have hcv : ∀ W : World, (convert 9 38 (.string t)).run Tryd.prog W = .ok (.slice (some ⟨W.heap.size, 0, none⟩) 4 (grownCap W 4 0 5)) (Lib.bytesWorld W 5 t) := fun W => by
        have h9 := Lib.run_convert_string_bytes (P := Tryd.prog) W 9 38 5 t Tryd.underlying9 Tryd.underlying38 Tryd.underlying5
        rw [htz] at h9
        exact h9
      clear HT
      go_enter Tryd.func115, Tryd.ntmps115
      go_wp2_with fail
      go_quiet (fail)
      go_wp2
      go_region
      have hcell : ∀ j (hj : j < 4), (Lib.bytesWorld (w.drewN (nq + 1)) 5 t).cell? ⟨w.heap.size, j, none⟩ = some (.int .u8 (Js.nx s (k + 2 + j))) := fun j hj => by
        have h9 := Lib.bytesWorld_cell (w.drewN (nq + 1)) 5 t j (by omega)
        rw [← ht] at h9 ⊢
        rw [Js.ext_get s (k + 2) (k + 6) j (by omega) (by omega)] at h9
        rw [Js.nx_get s (k + 2 + j) (by omega)]
        simpa using h9
      have hbel : Below w.heap.size w (Lib.bytesWorld (w.drewN (nq + 1)) 5 t) := below_drewN (Below.refl _ _) (nq + 1) |>.trans ⟨rfl, rfl, rfl, by rw [Lib.bytesWorld_size]; omega, fun j hj => Lib.bytesWorld_at_old _ _ _ j (by simpa using hj)⟩
      have HCell := Lib.hid hcell
      have HBel := Lib.hid hbel
      clear hcell hbel ht
      generalize Lib.bytesWorld (w.drewN (nq + 1)) 5 t = WB at HCell HBel ⊢
      go_wp2_with fail
      go_loopw [4, 52] (fun xv iv wr => ∃ (i x : Nat), i ≤ 4 ∧ iv = .int .i64 i ∧ xv = .int .i32 x ∧ x < 16 ^ i ∧ Hid (Js.hx s (4 - i) (k + 2 + i) x = H) ∧ wr = WB) (fun _ iv _ => 4 - (intOf iv).toNat)
      case atStart => exact ⟨0, 0, by omega, rfl, rfl, by decide, HH.out, rfl⟩
      case round =>
        clear HH hcv c0 c1
        obtain ⟨i, x, hi, rfl, rfl, hx, HH, rfl⟩ := hrel
        by_cases h : i < 4
        · have hi4 : (i : Int) < 4 := by omega
          have hi0 : (0 : Int) ≤ i := by omega
          have h16 : 16 ^ i ≤ 4096 := Nat.pow_le_pow_right (by decide) (show i ≤ 3 by omega)
          have hx16 : x < 4096 := by omega
          obtain ⟨m, hm⟩ : ∃ m, 4 - i = m + 1 := ⟨3 - i, by omega⟩
          have HH2 : Hid ((match Js.hexd (Js.nx s (k + 2 + i)) with | none => .error (k + 2 + i) | some d => Js.hx s m (k + 2 + i + 1) (16 * x + d) : Except Nat Nat) = H) := by
            have h9 : _ = H := HH.out
            rw [hm, Js.hx] at h9
            exact h9
          have hci := HCell.out i h
          obtain ⟨r, hr1, hr2, HC⟩ := Js.ix_is Js.hexS (Js.nx s (k + 2 + i)) _ (Js.ix_hex _ (Js.nx_lt s _))
          have hc256 := Js.nx_lt s (k + 2 + i)
          clear HH
          by_cases hd : Js.hexd (Js.nx s (k + 2 + i)) = none
          · rw [hd] at hr2 HH2
            have hr3 : decide (r < 0) = true := hr2
            have HE : Hid (L = none) := by
              have h9 : _ = L := HL2.out
              have h8 : _ = H := HH2.out
              rw [← h8] at h9
              exact h9.symm
            clear hr1 hr2 hd HH2
            obtain ⟨c, hc⟩ : ∃ c, Js.nx s (k + 2 + i) = c := ⟨_, rfl⟩
            rw [hc] at HC hci
            clear hc
            go_wp2_with (go_at_call 36; refine (HC _).mono ?_)
            rintro e w2 ⟨rfl, rfl⟩
            go_wp2
            go_ret2
            obtain rfl : L = none := HE.out
            exact ⟨0, rfl, (fun z h => by cases h), HBel.out⟩
          · obtain ⟨d, hdd⟩ : ∃ d, Js.hexd (Js.nx s (k + 2 + i)) = some d := Option.ne_none_iff_exists'.1 hd
            rw [hdd] at hr2 HH2
            have hr3 : decide (r < 0) = false := hr2
            have hd16 := Js.hexd_lt _ _ hdd
            have HD := Lib.hid (fun w' => Js.digit_is _ _ w' hdd)
            have hor := Js.or4 x d (by omega) hd16
            clear hr1 hr2 hd hdd
            obtain ⟨c, hc⟩ : ∃ c, Js.nx s (k + 2 + i) = c := ⟨_, rfl⟩
            rw [hc] at HC hci HD
            clear hc
            go_wp2_with (first | (go_at_call 36; refine (HC _).mono ?_) | (go_at_call 114; refine (HD.out _).mono ?_))
            try (rintro e w2 ⟨rfl, rfl⟩; go_wp2_with (first | (go_at_call 36; refine (HC _).mono ?_) | (go_at_call 114; refine (HD.out _).mono ?_)))
            try rintro _ _ ⟨rfl, rfl⟩
            go_wp2
            go_roundw
            case rel => exact ⟨i + 1, 16 * x + d, by omega, by go_num, by first | rfl | rw [hor], by rw [Nat.pow_succ]; omega, by show Js.hx s (4 - (i + 1)) (k + 2 + (i + 1)) (16 * x + d) = H; rw [show 4 - (i + 1) = m by omega]; exact HH2.out, by trivial⟩
            case measure => simp [intOf]; omega
        · obtain rfl : i = 4 := by omega
          have hi4 : ¬ (4 : Int) < 4 := by omega
          have hx65 : x < 65536 := hx
          have HE : Hid (L = if 56320 ≤ x ∧ x ≤ 57343 then some x else none) := by
            have h9 : _ = L := HL2.out
            have h8 : _ = H := HH.out
            rw [← h8] at h9
            exact h9.symm
          clear hx HH
          by_cases ha : 56320 ≤ x
          · have b2 : decide ((56320 : Int) ≤ (x : Int)) = true := decide_eq_true (by omega)
            by_cases hb : x ≤ 57343
            · have b3 : decide ((x : Int) ≤ 57343) = true := decide_eq_true (by omega)
              go_wp2
              go_ret2
              have h9 : L = _ := HE.out
              rw [if_pos ⟨ha, hb⟩] at h9
              subst h9
              exact ⟨x, rfl, (fun z h => by cases h; rfl), HBel.out⟩
            · have b3 : decide ((x : Int) ≤ 57343) = false := decide_eq_false (by omega)
              go_wp2
              go_ret2
              have h9 : L = _ := HE.out
              rw [if_neg (by omega)] at h9
              subst h9
              exact ⟨x, rfl, (fun z h => by cases h), HBel.out⟩
          · have b2 : decide ((56320 : Int) ≤ (x : Int)) = false := decide_eq_false (by omega)
            go_wp2
            go_ret2
            have h9 : L = _ := HE.out
            rw [if_neg (by omega)] at h9
            subst h9
            exact ⟨x, rfl, (fun z h => by cases h), HBel.out⟩
    · have HE : Hid (L = none) := by
        have h9 : _ = L := HL.out
        unfold Js.low at h9
        rw [if_neg hp] at h9
        exact h9.symm
      have hne : ([s[k]'(by omega), s[k + 1]'(by omega)] == [(92 : UInt8), 117]) = false := by
        rw [Bool.eq_false_iff]
        intro h
        have h9 := eq_of_beq h
        simp at h9
        exact hp ⟨by rw [hn0, h9.1]; rfl, by rw [hn1, h9.2]; rfl⟩
      have hq : ((s.extract k (k + 2)).toList == [(92 : UInt8), 117]) = false := by rw [ByteArray.toList_eq, hu]; exact hne
      clear hLs HL hp hu hne hn0 hn1
      go_enter Tryd.func115, Tryd.ntmps115
      go_wp2_with fail
      go_quiet (fail)
      go_wp2
      go_ret2
      obtain rfl : L = none := HE.out
      exact ⟨0, rfl, (fun z h => by cases h), below_drewN (Below.refl _ _) _⟩

set_option maxHeartbeats 4000000 in
theorem Js.escape_is (R : Nat) (s : ByteArray) (k o b : Nat) (w : World) (hR : w.heap[R]? = some (Js.obj s k o b)) (hk : k < s.size) (hs : s.size ≤ 1000000) :
    Calls Tryd.prog 107 #[.pointer (some ⟨R, 0, none⟩)] w (Js.Res R w (Js.esc s k) fun x => Js.Goes R s x.2 o b (.int .i32 x.1) w) := by
  have c1 : w.cell? ⟨R, 1, none⟩ = some (.int .i64 k) := by rw [Lib.cell_of_heap hR]; rfl
  have f1 : w.frozen? ⟨R, 1, none⟩ = false := Lib.frozen_of_heap hR 1
  have HR := Lib.hid hR
  obtain ⟨X, hX⟩ : ∃ X, Js.esc s k = X := ⟨_, rfl⟩
  rw [hX]
  have HX := Lib.hid hX
  obtain ⟨W1, hW1⟩ : ∃ W1, w.setCell ⟨R, 1, none⟩ (.int .i64 ((k : Int) + 1)) = W1 := ⟨_, rfl⟩
  have HR1 : Hid (W1.heap[R]? = some (Js.obj s (k + 1) o b)) := by subst hW1; exact Js.set_at hR _ _ (by go_num)
  have HP1 : Hid (Kp R w W1) := by subst hW1; exact (Kp.refl R w).set 1 _
  have HWB := Lib.hid (fun w' (h : w'.heap[R]? = some (Js.obj s (k + 1) o b)) => Js.want_bad Js.escS R s (k + 1) o b w' h (by omega))
  have HWO := Lib.hid (fun w' (h : w'.heap[R]? = some (Js.obj s (k + 1) o b)) => Js.want_ok Js.escS R s (k + 1) o b w' h)
  have hc256 := Js.nx_lt s (k + 1)
  clear hR hX
  obtain ⟨c, hc⟩ : ∃ c, Js.nx s (k + 1) = c := ⟨_, rfl⟩
  have HXc : Hid (Js.esc s k = X) := HX.out
  unfold Js.esc at HXc
  rw [hc] at HXc HWB HWO hc256
  have hlt : c ≠ 0 → k + 1 < s.size := fun h => Nat.lt_of_not_le fun hh => h (by rw [← hc, Js.nx_end s _ hh])
  have hix := Js.ix_esc c hc256
  by_cases hu : c = 117
  · subst hu
    have HX2 : Hid ((match Js.hx s 4 (k + 2) 0 with
      | .error p => .error (Js.wrong s p)
      | .ok x => if x < 55296 ∨ 57343 < x then .ok (x, k + 6) else match Js.low s (k + 6) with
        | some y => if x < 56320 then .ok ((x - 55296) * 1024 + (y - 56320) + 65536, k + 12) else .error (k, 145)
        | none => .error (k, 145) : Js.R (Nat × Nat)) = X) := by
      have h9 : _ = X := HXc.out
      rw [show Js.short 117 = none from by decide] at h9
      exact h9
    have HW : ∀ w', w'.heap[R]? = some (Js.obj s (k + 1) o b) → Calls Tryd.prog 106 #[.pointer (some ⟨R, 0, none⟩), .string Js.escS] w' (Js.Goes R s (k + 1 + 1) o b (.int .u8 117) w') := fun w' h => HWO.out w' h (hlt (by omega)) hs (by omega) hix
    have HC : ∀ w', Calls Tryd.prog 36 #[.string Js.btnS, .int .u8 117] w' fun e w2 => e = .returned (.int .i64 (-1)) ∧ w2 = w' := fun w' => Tryd.strings_IndexByte Js.btnS 117 w'
    clear HXc HWB HWO hix hc hc256 HX
    go_enter Tryd.func107, Tryd.ntmps107
    go_wp2_with (go_at_call 106; refine (HW _ HR1.out).mono ?_)
    rintro e w1 ⟨rfl, h1, k1⟩
    go_wp2_with (go_at_call 36; refine (HC _).mono ?_)
    rintro e w2 ⟨rfl, rfl⟩
    go_wp2_with fail
    obtain ⟨H, hH⟩ : ∃ H, Js.hx s 4 (k + 2) 0 = H := ⟨_, rfl⟩
    rw [hH] at HX2
    have HH := Lib.hid hH
    clear hH
    have HRk : Hid (w2.heap[R]? = some (Js.obj s (k + 2) o b)) := h1
    have HKk : Hid (Kp R w w2) := HP1.out.trans k1
    have hk2 : k + 2 ≤ s.size := hlt (by omega)
    clear HW HC h1 k1
    go_loopw [6, 33] (fun xv iv wr => ∃ (i x : Nat), i ≤ 4 ∧ iv = .int .i64 i ∧ xv = .int .i32 x ∧ x < 16 ^ i ∧ k + 2 + i ≤ s.size ∧ Hid (Js.hx s (4 - i) (k + 2 + i) x = H) ∧ Hid (wr.heap[R]? = some (Js.obj s (k + 2 + i) o b)) ∧ Hid (Kp R w wr)) (fun _ iv _ => 4 - (intOf iv).toNat)
    case atStart => exact ⟨0, 0, by omega, rfl, rfl, by decide, hk2, HH.out, HRk.out, HKk.out⟩
    case round =>
      clear HH HRk HKk HR1 HP1 HR c1 f1 hW1 hlt
      obtain ⟨i, x, hi, rfl, rfl, hx, hki, HH, HR, HP⟩ := hrel
      by_cases h : i < 4
      · have hi4 : (i : Int) < 4 := by omega
        have h16 : 16 ^ i ≤ 4096 := Nat.pow_le_pow_right (by decide) (show i ≤ 3 by omega)
        obtain ⟨m, hm⟩ : ∃ m, 4 - i = m + 1 := ⟨3 - i, by omega⟩
        have HH2 : Hid ((match Js.hexd (Js.nx s (k + 2 + i)) with | none => .error (k + 2 + i) | some d => Js.hx s m (k + 2 + i + 1) (16 * x + d) : Except Nat Nat) = H) := by
          have h9 : _ = H := HH.out
          rw [hm, Js.hx] at h9
          exact h9
        have hix := Js.ix_hex (Js.nx s (k + 2 + i)) (Js.nx_lt s _)
        by_cases hd : Js.hexd (Js.nx s (k + 2 + i)) = none
        · rw [hd] at hix HH2
          have HE : Hid (X = .error (Js.wrong s (k + 2 + i))) := by
            have h9 : _ = X := HX2.out
            have h8 : _ = H := HH2.out
            rw [← h8] at h9
            exact h9.symm
          have HW := Lib.hid (fun w' (h : w'.heap[R]? = some (Js.obj s (k + 2 + i) o b)) => Js.want_bad Js.hexS R s (k + 2 + i) o b w' h hki (fun _ => hix))
          clear hix hd HH HH2 hm HX2
          go_wp2_with (go_at_call 106; refine (HW.out _ HR.out).mono ?_)
          rintro e w3 ⟨rfl, k3⟩
          go_wp2
          exact bodyPost_stop rfl (Js.Res.bad _ HE.out ⟨rfl, HP.out.trans k3⟩)
        · obtain ⟨d, hdd⟩ : ∃ d, Js.hexd (Js.nx s (k + 2 + i)) = some d := Option.ne_none_iff_exists'.1 hd
          rw [hdd] at hix HH2
          have hd16 := Js.hexd_lt _ _ hdd
          have hlt : k + 2 + i < s.size := Nat.lt_of_not_le fun hh => by rw [Js.nx_end s _ hh] at hdd; simp [Js.hexd] at hdd
          have hnz : Js.nx s (k + 2 + i) ≠ 0 := fun hh => by rw [hh] at hdd; simp [Js.hexd] at hdd
          have HW := Lib.hid (fun w' (h : w'.heap[R]? = some (Js.obj s (k + 2 + i) o b)) => Js.want_ok Js.hexS R s (k + 2 + i) o b w' h hlt hs hnz hix)
          have HD := Lib.hid (fun w' => Js.digit_is _ _ w' hdd)
          have hor := Js.or4 x d (by omega) hd16
          have hx16 : x < 4096 := by omega
          clear hix hd hdd hnz HH
          obtain ⟨c, hc⟩ : ∃ c, Js.nx s (k + 2 + i) = c := ⟨_, rfl⟩
          rw [hc] at HW HD
          clear hc
          go_wp2_with (go_at_call 106; refine (HW.out _ HR.out).mono ?_)
          rintro e w3 ⟨rfl, h3, k3⟩
          go_wp2_with (go_at_call 114; refine (HD.out _).mono ?_)
          rintro e w4 ⟨rfl, rfl⟩
          go_wp2
          go_roundw
          case rel => exact ⟨i + 1, 16 * x + d, by omega, by go_num, by first | rfl | rw [hor], by rw [Nat.pow_succ]; omega, by omega, by show Js.hx s (4 - (i + 1)) (k + 2 + (i + 1)) (16 * x + d) = H; rw [show 4 - (i + 1) = m by omega]; exact HH2.out, h3, HP.out.trans k3⟩
          case measure => simp [intOf]; omega
      · obtain rfl : i = 4 := by omega
        have hi4 : ¬ (4 : Int) < 4 := by omega
        have HXx : Hid ((if x < 55296 ∨ 57343 < x then .ok (x, k + 6) else match Js.low s (k + 6) with
          | some y => if x < 56320 then .ok ((x - 55296) * 1024 + (y - 56320) + 65536, k + 12) else .error (k, 145)
          | none => .error (k, 145) : Js.R (Nat × Nat)) = X) := by
          have h9 : _ = X := HX2.out
          have h8 : _ = H := HH.out
          rw [← h8] at h9
          exact h9
        clear HX2 HH
        have hx65 : x < 65536 := hx
        clear hx
        by_cases ha : x < 55296
        · have HE : Hid (X = .ok (x, k + 6)) := by have h9 : _ = X := HXx.out; rw [if_pos (.inl ha)] at h9; exact h9.symm
          have b1 : decide ((x : Int) < 55296) = true := decide_eq_true (by omega)
          go_wp2
          go_ret
          exact Js.Res.ok _ HE.out ⟨rfl, HR.out, HP.out⟩
        · have b1 : decide ((x : Int) < 55296) = false := decide_eq_false (by omega)
          by_cases hb : 57343 < x
          · have HE : Hid (X = .ok (x, k + 6)) := by have h9 : _ = X := HXx.out; rw [if_pos (.inr hb)] at h9; exact h9.symm
            have b2 : decide ((57343 : Int) < (x : Int)) = true := decide_eq_true (by omega)
            go_wp2
            go_ret
            exact Js.Res.ok _ HE.out ⟨rfl, HR.out, HP.out⟩
          · have b2 : decide ((57343 : Int) < (x : Int)) = false := decide_eq_false (by omega)
            have HXy : Hid ((match Js.low s (k + 6) with
              | some y => if x < 56320 then .ok ((x - 55296) * 1024 + (y - 56320) + 65536, k + 12) else .error (k, 145)
              | none => .error (k, 145) : Js.R (Nat × Nat)) = X) := by have h9 : _ = X := HXx.out; rw [if_neg (by omega)] at h9; exact h9
            clear HXx
            have HL := Lib.hid (fun w' (h : w'.heap[R]? = some (Js.obj s (k + 6) o b)) => Js.low_is R s (k + 6) o b w' h hki hs)
            have HF : Hid (∀ w', w'.heap[R]? = some (Js.obj s k o b) → Calls Tryd.prog 54 #[.pointer (some ⟨R, 0, none⟩), .int .i64 145] w' (Js.Stops R (k, 145) w')) := fun w' h => by
              have h9 := Js.fail_is R s k o b 145 w' h
              rw [if_neg (by decide)] at h9
              exact h9
            have hRW := lt_of_heap HR.out
            obtain ⟨L, hL⟩ : ∃ L, Js.low s (k + 6) = L := ⟨_, rfl⟩
            have hLy : ∀ y, L = some y → 56320 ≤ y ∧ y ≤ 57343 ∧ k + 12 ≤ s.size := fun y hy => Js.low_some s (k + 6) y (hL.trans hy)
            rw [hL] at HL HXy
            clear hL
            cases L with
            | none =>
              have HE : Hid (X = .error (k, 145)) := HXy.out.symm
              have HL2 : Hid (∀ w', w'.heap[R]? = some (Js.obj s (k + 6) o b) → Calls Tryd.prog 115 #[.pointer (some ⟨R, 0, none⟩)] w' fun e w2 => ∃ y : Nat, e = .returned (.tuple #[.int .i32 y, .bool false]) ∧ Below w'.heap.size w' w2) := fun w' h => (HL.out w' h).mono fun e w2 ⟨y, h1, _, h3⟩ => ⟨y, h1, h3⟩
              clear HL HXy hLy
              go_wp2_with (go_at_call 115; refine (HL2.out _ HR.out).mono ?_)
              first | rintro e w3 y rfl b3 | rintro e w3 ⟨y, rfl, b3⟩
              have r3 := (b3.block R hRW).trans HR.out
              have f3 : w3.frozen? ⟨R, 1, none⟩ = false := Lib.frozen_of_heap r3 1
              have c3 : w3.cell? ⟨R, 1, none⟩ = some (.int .i64 ((k + 6 : Nat) : Int)) := by rw [Lib.cell_of_heap r3]; rfl
              go_wp2_with (go_at_call 54; refine (HF.out _ (Js.set_at r3 (k : Int) k rfl)).mono ?_)
              rintro e w4 ⟨rfl, k4⟩
              go_wp2
              exact bodyPost_stop rfl (Js.Res.bad _ HE.out ⟨rfl, ((HP.out.trans (Kp.of b3 (Nat.le_refl _))).set 1 _).trans k4⟩)
            | some y =>
              obtain ⟨hy1, hy2, hy3⟩ := hLy y rfl
              have HL2 : Hid (∀ w', w'.heap[R]? = some (Js.obj s (k + 6) o b) → Calls Tryd.prog 115 #[.pointer (some ⟨R, 0, none⟩)] w' fun e w2 => e = .returned (.tuple #[.int .i32 y, .bool true]) ∧ Below w'.heap.size w' w2) := fun w' h => (HL.out w' h).mono fun e w2 ⟨z, h1, h2, h3⟩ => ⟨by rw [h1, h2 y rfl]; rfl, h3⟩
              clear hLy HL
              by_cases hc2 : x < 56320
              · have HE : Hid (X = .ok ((x - 55296) * 1024 + (y - 56320) + 65536, k + 12)) := by have h9 : _ = X := HXy.out; rw [show (match some y with | some y => if x < 56320 then .ok ((x - 55296) * 1024 + (y - 56320) + 65536, k + 12) else .error (k, 145) | none => .error (k, 145) : Js.R (Nat × Nat)) = _ from if_pos hc2] at h9; exact h9.symm
                have b4 : decide ((x : Int) < 56320) = true := decide_eq_true (by omega)
                go_wp2_with (go_at_call 115; refine (HL2.out _ HR.out).mono ?_)
                first | rintro e w3 rfl b3 | rintro e w3 ⟨rfl, b3⟩
                have r3 := (b3.block R hRW).trans HR.out
                have f3 : w3.frozen? ⟨R, 1, none⟩ = false := Lib.frozen_of_heap r3 1
                have c3 : w3.cell? ⟨R, 1, none⟩ = some (.int .i64 ((k + 6 : Nat) : Int)) := by rw [Lib.cell_of_heap r3]; rfl
                go_wp2
                go_ret
                exact Js.Res.ok _ HE.out ⟨by go_num, Js.set_at r3 _ _ (by omega), (HP.out.trans (Kp.of b3 (Nat.le_refl _))).set 1 _⟩
              · have HE : Hid (X = .error (k, 145)) := by have h9 : _ = X := HXy.out; rw [show (match some y with | some y => if x < 56320 then .ok ((x - 55296) * 1024 + (y - 56320) + 65536, k + 12) else .error (k, 145) | none => .error (k, 145) : Js.R (Nat × Nat)) = _ from if_neg hc2] at h9; exact h9.symm
                have b4 : decide ((x : Int) < 56320) = false := decide_eq_false (by omega)
                go_wp2_with (go_at_call 115; refine (HL2.out _ HR.out).mono ?_)
                first | rintro e w3 rfl b3 | rintro e w3 ⟨rfl, b3⟩
                have r3 := (b3.block R hRW).trans HR.out
                have f3 : w3.frozen? ⟨R, 1, none⟩ = false := Lib.frozen_of_heap r3 1
                have c3 : w3.cell? ⟨R, 1, none⟩ = some (.int .i64 ((k + 6 : Nat) : Int)) := by rw [Lib.cell_of_heap r3]; rfl
                go_wp2_with (go_at_call 54; refine (HF.out _ (Js.set_at r3 (k : Int) k rfl)).mono ?_)
                rintro e w4 ⟨rfl, k4⟩
                go_wp2
                exact bodyPost_stop rfl (Js.Res.bad _ HE.out ⟨rfl, ((HP.out.trans (Kp.of b3 (Nat.le_refl _))).set 1 _).trans k4⟩)
  · have hue : (c == 117) = false := by simpa using hu
    rw [hue, Bool.or_false] at hix
    by_cases hn : Js.short c = none
    · rw [hn] at hix
      have HE : Hid (X = .error (Js.wrong s (k + 1))) := by
        have h9 : _ = X := HXc.out
        rw [hn] at h9
        simp only [if_neg hu] at h9
        exact h9.symm
      have HW : ∀ w', w'.heap[R]? = some (Js.obj s (k + 1) o b) → Calls Tryd.prog 106 #[.pointer (some ⟨R, 0, none⟩), .string Js.escS] w' (Js.Stops R (Js.wrong s (k + 1)) w') := fun w' h => HWB.out w' h (fun _ => hix)
      clear HXc HWB HWO hix hc hn hue hu hc256 HX
      go_enter Tryd.func107, Tryd.ntmps107
      go_wp2_with (go_at_call 106; refine (HW _ HR1.out).mono ?_)
      rintro e w1 ⟨rfl, k1⟩
      go_wp2
      exact bodyPost_stop rfl (Js.Res.bad _ HE.out ⟨rfl, HP1.out.trans k1⟩)
    · obtain ⟨x, hx⟩ : ∃ x, Js.short c = some x := Option.ne_none_iff_exists'.1 hn
      rw [hx] at hix
      have HE : Hid (X = .ok (x, k + 2)) := by
        have h9 : _ = X := HXc.out
        rw [hx] at h9
        exact h9.symm
      have hcz : c ≠ 0 := by intro h; subst h; revert hx; simp [Js.short]
      have HW : ∀ w', w'.heap[R]? = some (Js.obj s (k + 1) o b) → Calls Tryd.prog 106 #[.pointer (some ⟨R, 0, none⟩), .string Js.escS] w' (Js.Goes R s (k + 1 + 1) o b (.int .u8 c) w') := fun w' h => HWO.out w' h (hlt hcz) hs (by omega) hix
      have hcs := Js.short_cases c x hx
      clear HXc HWB HWO hix hc hn hue hx HX
      rcases hcs with ⟨hcs, rfl⟩ | ⟨rfl, rfl⟩ | ⟨rfl, rfl⟩ | ⟨rfl, rfl⟩ | ⟨rfl, rfl⟩ | ⟨rfl, rfl⟩
      · obtain ⟨r, hr1, hr2, HC⟩ := Js.ix_is Js.btnS x _ (Js.ix_btn x hc256 (by omega))
        have hne : ((x : Int) == 117) = false := Js.beq_f (by omega)
        clear hr2 hcs
        go_enter Tryd.func107, Tryd.ntmps107
        go_wp2_with (go_at_call 106; refine (HW _ HR1.out).mono ?_)
        rintro e w1 ⟨rfl, h1, k1⟩
        go_wp2_with (go_at_call 36; refine (HC _).mono ?_)
        rintro e w2 ⟨rfl, rfl⟩
        go_wp2
        go_ret
        exact Js.Res.ok _ HE.out ⟨by simp, h1, HP1.out.trans k1⟩
      · have HW2 : ∀ w', w'.heap[R]? = some (Js.obj s (k + 1) o b) → Calls Tryd.prog 106 #[.pointer (some ⟨R, 0, none⟩), .string Js.escS] w' (Js.Goes R s (k + 1 + 1) o b (.int .u8 98) w') := HW
        have HC : ∀ w', Calls Tryd.prog 36 #[.string Js.btnS, .int .u8 98] w' fun e w2 => e = .returned (.int .i64 0) ∧ w2 = w' := fun w' => Tryd.strings_IndexByte Js.btnS 98 w'
        clear HW
        go_enter Tryd.func107, Tryd.ntmps107
        go_wp2_with (go_at_call 106; refine (HW2 _ HR1.out).mono ?_)
        rintro e w1 ⟨rfl, h1, k1⟩
        go_wp2_with (go_at_call 36; refine (HC _).mono ?_)
        rintro e w2 ⟨rfl, rfl⟩
        go_wp2
        go_ret
        exact Js.Res.ok _ HE.out ⟨by kernel_rfl, h1, HP1.out.trans k1⟩
      · have HW2 : ∀ w', w'.heap[R]? = some (Js.obj s (k + 1) o b) → Calls Tryd.prog 106 #[.pointer (some ⟨R, 0, none⟩), .string Js.escS] w' (Js.Goes R s (k + 1 + 1) o b (.int .u8 116) w') := HW
        have HC : ∀ w', Calls Tryd.prog 36 #[.string Js.btnS, .int .u8 116] w' fun e w2 => e = .returned (.int .i64 1) ∧ w2 = w' := fun w' => Tryd.strings_IndexByte Js.btnS 116 w'
        clear HW
        go_enter Tryd.func107, Tryd.ntmps107
        go_wp2_with (go_at_call 106; refine (HW2 _ HR1.out).mono ?_)
        rintro e w1 ⟨rfl, h1, k1⟩
        go_wp2_with (go_at_call 36; refine (HC _).mono ?_)
        rintro e w2 ⟨rfl, rfl⟩
        go_wp2
        go_ret
        exact Js.Res.ok _ HE.out ⟨by kernel_rfl, h1, HP1.out.trans k1⟩
      · have HW2 : ∀ w', w'.heap[R]? = some (Js.obj s (k + 1) o b) → Calls Tryd.prog 106 #[.pointer (some ⟨R, 0, none⟩), .string Js.escS] w' (Js.Goes R s (k + 1 + 1) o b (.int .u8 110) w') := HW
        have HC : ∀ w', Calls Tryd.prog 36 #[.string Js.btnS, .int .u8 110] w' fun e w2 => e = .returned (.int .i64 2) ∧ w2 = w' := fun w' => Tryd.strings_IndexByte Js.btnS 110 w'
        clear HW
        go_enter Tryd.func107, Tryd.ntmps107
        go_wp2_with (go_at_call 106; refine (HW2 _ HR1.out).mono ?_)
        rintro e w1 ⟨rfl, h1, k1⟩
        go_wp2_with (go_at_call 36; refine (HC _).mono ?_)
        rintro e w2 ⟨rfl, rfl⟩
        go_wp2
        go_ret
        exact Js.Res.ok _ HE.out ⟨by kernel_rfl, h1, HP1.out.trans k1⟩
      · have HW2 : ∀ w', w'.heap[R]? = some (Js.obj s (k + 1) o b) → Calls Tryd.prog 106 #[.pointer (some ⟨R, 0, none⟩), .string Js.escS] w' (Js.Goes R s (k + 1 + 1) o b (.int .u8 102) w') := HW
        have HC : ∀ w', Calls Tryd.prog 36 #[.string Js.btnS, .int .u8 102] w' fun e w2 => e = .returned (.int .i64 3) ∧ w2 = w' := fun w' => Tryd.strings_IndexByte Js.btnS 102 w'
        clear HW
        go_enter Tryd.func107, Tryd.ntmps107
        go_wp2_with (go_at_call 106; refine (HW2 _ HR1.out).mono ?_)
        rintro e w1 ⟨rfl, h1, k1⟩
        go_wp2_with (go_at_call 36; refine (HC _).mono ?_)
        rintro e w2 ⟨rfl, rfl⟩
        go_wp2
        go_ret
        exact Js.Res.ok _ HE.out ⟨by kernel_rfl, h1, HP1.out.trans k1⟩
      · have HW2 : ∀ w', w'.heap[R]? = some (Js.obj s (k + 1) o b) → Calls Tryd.prog 106 #[.pointer (some ⟨R, 0, none⟩), .string Js.escS] w' (Js.Goes R s (k + 1 + 1) o b (.int .u8 114) w') := HW
        have HC : ∀ w', Calls Tryd.prog 36 #[.string Js.btnS, .int .u8 114] w' fun e w2 => e = .returned (.int .i64 4) ∧ w2 = w' := fun w' => Tryd.strings_IndexByte Js.btnS 114 w'
        clear HW
        go_enter Tryd.func107, Tryd.ntmps107
        go_wp2_with (go_at_call 106; refine (HW2 _ HR1.out).mono ?_)
        rintro e w1 ⟨rfl, h1, k1⟩
        go_wp2_with (go_at_call 36; refine (HC _).mono ?_)
        rintro e w2 ⟨rfl, rfl⟩
        go_wp2
        go_ret
        exact Js.Res.ok _ HE.out ⟨by kernel_rfl, h1, HP1.out.trans k1⟩
end Go.Proofs.YtmmijebekipdeaaDoor
