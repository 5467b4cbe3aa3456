/- Contract of the reference's canon: ReadKey. -/
import Derived.Test.YthnaninhbofeoaaGreatDoorRefL
import Derived.Test.YthnaninhbofeoaaGreatDoorKeyR
namespace Go.Proofs.YthnaninhbofeoaaGreatDoor
open Go.RowKit

set_option maxHeartbeats 3200000 in
set_option maxRecDepth 100000 in
theorem rreadkey_is (s : ByteArray) (jb : ByteArray) (ls : List Lab.L) (er : Int) (h : Can.readKey s = (jb, ls, er)) (w : World) (hs : s.size ≤ 1000000) :
    Calls Tryz.prog 45 #[.string s] w fun e w' => (∃ v, e = .returned (.tuple #[.agg #[.string jb, v], .int .i64 er]) ∧ OwnLabels w.heap.size v ls w') ∧ Below w.heap.size w w' := by
  have H0 : Hid (Can.readKeyL s 0 (s.data.toList.drop 0) = (jb, ls, er)) := h
  have i0 : (s.size : Int) ≤ 1000000 := by omega
  clear h
  go_enter Tryz.func45, Tryz.ntmps45
  go_wp2_with fail
  go_loop [4] (fun i => ∃ k : Nat, k ≤ s.size ∧ i = .int .i64 k ∧ Hid (Can.readKeyL s k (s.data.toList.drop k) = (jb, ls, er))) (fun i => s.size - (intOf i).toNat)
  case atStart => exact ⟨0, Nat.zero_le _, rfl, H0⟩
  case round =>
    obtain ⟨k, hk, rfl, HK⟩ := hrel
    have k2 := alloc_new w (.cells #[.string ⟨#[]⟩, .slice none 0 0] 37)
    by_cases hlt : k < s.size
    · have hst : Can.readKeyL s k (s.data.toList.drop k) = if s[k] = 254 then Can.keyAt s k else Can.readKeyL s (k + 1) (s.data.toList.drop (k + 1)) := by
        rw [Utf.drop_cons s k hlt]; rfl
      have hck : (s[k].toNat : Int) < 256 := by have := s[k].toNat_lt; omega
      by_cases h254 : s[k] = 254
      · rw [if_pos h254, HK.out] at hst
        have c9 : ((s[k].toNat : Int) == 254) = true := by rw [h254]; rfl
        unfold Can.keyAt Can.badKey at hst
        obtain ⟨a, ha⟩ : ∃ a, s.extract 0 k = a := ⟨_, rfl⟩
        obtain ⟨b, hb⟩ : ∃ b, s.extract (k + 1) s.size = b := ⟨_, rfl⟩
        have hsl : s.data.toList.length = s.size := Array.length_toList
        have had : a.data.toList = s.data.toList.take k := by
          rw [← ha]; have := Can.dl_extract s 0 k; unfold Can.dl at this; rw [this]; simp
        have hbd : b.data.toList = s.data.toList.drop (k + 1) := by
          rw [← hb]; have := Can.dl_extract s (k + 1) s.size; unfold Can.dl at this; rw [this]
          exact List.take_of_length_le (by rw [List.length_drop]; omega)
        have has : a.size ≤ 1000000 := by rw [← ha, ByteArray.size_extract]; omega
        have hbs : b.size ≤ 1000000 := by rw [← hb, ByteArray.size_extract]; omega
        rw [← had, ← hbd] at hst
        have hae : ByteArray.mk a.data.toList.toArray = a := by simp
        rw [hae] at hst
        obtain ⟨bj, hbj⟩ : ∃ bj, Can.job a.data.toList = bj := ⟨_, rfl⟩
        rw [hbj] at hst
        obtain ⟨⟨lr, e0⟩, hrd⟩ : ∃ q, Can.read b.data.toList = q := ⟨_, rfl⟩
        have her := Can.read_err b.data.toList
        rw [hrd] at hst her
        dsimp only at hst her
        have HJ := Lib.hid (fun w => rjob_is a bj hbj w has)
        have HR := Lib.hid (fun w => rread_is b lr e0 hrd w hbs)
        have H9 := Lib.hid h254
        have HA := Lib.hid ha
        have HBB := Lib.hid hb
        have n1 : IntKind.i64.wrap ((k : Int) + 1) = (k : Int) + 1 := by rw [IntKind.wrap_i64]; omega
        have n2 : (k : Int) + 1 ≤ (s.size : Int) := by omega
        have n3 : ((k : Int) + 1).toNat = k + 1 := by omega
        clear ha hb had hbd hae hbj hrd hsl HK h254
        rcases her with rfl | rfl
        · cases bj
          · rw [if_neg (by simp)] at hst
            simp only [Prod.mk.injEq] at hst
            obtain ⟨rfl, rfl, rfl⟩ := hst
            go_wp2_with (go_at_call 42; try rw [HBB.out]; refine (HR.out _).mono ?_)
            first | rintro e w1 v rfl hv hb1 | rintro e w1 ⟨⟨v, rfl, hv⟩, hb1⟩
            have k1 := below_kept hb1 k2 (by simp)
            have hs1 := hb1.size
            simp only [World.size_alloc] at hs1
            have hB1 : Below w.heap.size w w1 := ((Below.refl _ _).alloc (Nat.le_refl _) _).trans (hb1.mono (by simp))
            go_wp2_with (go_at_call 48; try rw [HA.out]; refine (HJ.out _).mono ?_)
            first | rintro e w3 rfl hb3 | rintro e w3 ⟨rfl, hb3⟩
            have k3 := below_kept hb3 k1 (by omega)
            have hB3 := below_next hB1 hb3
            have c0 : w3.cell? ⟨w.heap.size, 0, none⟩ = some (.string ⟨#[]⟩) := by rw [Lib.cell_of_heap k3]; rfl
            have c1 : w3.cell? ⟨w.heap.size, 1, none⟩ = some (.slice none 0 0) := by rw [Lib.cell_of_heap k3]; rfl
            have f0 : w3.frozen? ⟨w.heap.size, 0, none⟩ = false := Lib.frozen_of_heap k3 0
            have f1 : w3.frozen? ⟨w.heap.size, 1, none⟩ = false := Lib.frozen_of_heap k3 1
            go_wp2_with fail
            have dd := two_cells w3 w.heap.size (.string ⟨#[]⟩) (.slice none 0 0) (by rw [c0]; rfl) (by rw [c1]; rfl)
            refine bodyPost_ret (v := .tuple #[.agg #[(.string ⟨#[]⟩), (.slice none 0 0)], .int .i64 50]) ?_ rfl ⟨⟨_, rfl, OwnLabels.nil _ _⟩, (hB3.setCell (p := ⟨w.heap.size, 0, none⟩) (Nat.le_refl _) _).setCell (p := ⟨w.heap.size, 1, none⟩) (Nat.le_refl _) _⟩
            generalize (w3.setCell ⟨w.heap.size, 0, none⟩ (.string ⟨#[]⟩)).setCell ⟨w.heap.size, 1, none⟩ (.slice none 0 0) = W at dd
            obtain ⟨d0, d1⟩ := dd
            simp [results, Tryz.f45, go_sem, d0, d1]
          · rw [if_pos ⟨rfl, rfl⟩] at hst
            simp only [Prod.mk.injEq] at hst
            obtain ⟨rfl, rfl, rfl⟩ := hst
            go_wp2_with (go_at_call 42; try rw [HBB.out]; refine (HR.out _).mono ?_)
            first | rintro e w1 v rfl hv hb1 | rintro e w1 ⟨⟨v, rfl, hv⟩, hb1⟩
            have k1 := below_kept hb1 k2 (by simp)
            have hs1 := hb1.size
            simp only [World.size_alloc] at hs1
            have hB1 : Below w.heap.size w w1 := ((Below.refl _ _).alloc (Nat.le_refl _) _).trans (hb1.mono (by simp))
            go_wp2_with (go_at_call 48; try rw [HA.out]; refine (HJ.out _).mono ?_)
            first | rintro e w3 rfl hb3 | rintro e w3 ⟨rfl, hb3⟩
            have k3 := below_kept hb3 k1 (by omega)
            have hB3 := below_next hB1 hb3
            have hv3 := row_below hv hb3 (Nat.le_refl _)
            obtain ⟨pv, cv, rfl, _, _, _⟩ := OwnLabels.open hv3
            obtain ⟨N, hN⟩ : ∃ N, ls.length = N := ⟨_, rfl⟩
            have c0 : w3.cell? ⟨w.heap.size, 0, none⟩ = some (.string ⟨#[]⟩) := by rw [Lib.cell_of_heap k3]; rfl
            have c1 : w3.cell? ⟨w.heap.size, 1, none⟩ = some (.slice none 0 0) := by rw [Lib.cell_of_heap k3]; rfl
            have f0 : w3.frozen? ⟨w.heap.size, 0, none⟩ = false := Lib.frozen_of_heap k3 0
            have f1 : w3.frozen? ⟨w.heap.size, 1, none⟩ = false := Lib.frozen_of_heap k3 1
            have hv2 := fun x y => row_lift (row_aside (row_aside hv3 (a := ⟨w.heap.size, 0, none⟩) (show w.heap.size < _ by simp) x) (a := ⟨w.heap.size, 1, none⟩) (show w.heap.size < _ by simp) y) (show w.heap.size ≤ _ by simp)
            rw [hN]
            go_wp2_with fail
            try rw [HA.out]
            have dd := two_cells w3 w.heap.size (.string jb) (.slice pv N cv) (by rw [c0]; rfl) (by rw [c1]; rfl)
            refine bodyPost_ret (v := .tuple #[.agg #[(.string jb), (.slice pv N cv)], .int .i64 0]) ?_ rfl ⟨⟨_, rfl, by rw [← hN]; exact hv2 _ _⟩, (hB3.setCell (p := ⟨w.heap.size, 0, none⟩) (Nat.le_refl _) _).setCell (p := ⟨w.heap.size, 1, none⟩) (Nat.le_refl _) _⟩
            generalize (w3.setCell ⟨w.heap.size, 0, none⟩ (.string jb)).setCell ⟨w.heap.size, 1, none⟩ (.slice pv N cv) = W at dd
            obtain ⟨d0, d1⟩ := dd
            simp [results, Tryz.f45, go_sem, d0, d1]
        · rw [if_neg (by simp)] at hst
          simp only [Prod.mk.injEq] at hst
          obtain ⟨rfl, rfl, rfl⟩ := hst
          go_wp2_with (go_at_call 42; try rw [HBB.out]; refine (HR.out _).mono ?_)
          first | rintro e w1 v rfl hv hb1 | rintro e w1 ⟨⟨v, rfl, hv⟩, hb1⟩
          have k1 := below_kept hb1 k2 (by simp)
          have hs1 := hb1.size
          simp only [World.size_alloc] at hs1
          have hB1 : Below w.heap.size w w1 := ((Below.refl _ _).alloc (Nat.le_refl _) _).trans (hb1.mono (by simp))
          have c0 : w1.cell? ⟨w.heap.size, 0, none⟩ = some (.string ⟨#[]⟩) := by rw [Lib.cell_of_heap k1]; rfl
          have c1 : w1.cell? ⟨w.heap.size, 1, none⟩ = some (.slice none 0 0) := by rw [Lib.cell_of_heap k1]; rfl
          have f0 : w1.frozen? ⟨w.heap.size, 0, none⟩ = false := Lib.frozen_of_heap k1 0
          have f1 : w1.frozen? ⟨w.heap.size, 1, none⟩ = false := Lib.frozen_of_heap k1 1
          go_wp2_with fail
          have dd := two_cells w1 w.heap.size (.string ⟨#[]⟩) (.slice none 0 0) (by rw [c0]; rfl) (by rw [c1]; rfl)
          refine bodyPost_ret (v := .tuple #[.agg #[(.string ⟨#[]⟩), (.slice none 0 0)], .int .i64 50]) ?_ rfl ⟨⟨_, rfl, OwnLabels.nil _ _⟩, (hB1.setCell (p := ⟨w.heap.size, 0, none⟩) (Nat.le_refl _) _).setCell (p := ⟨w.heap.size, 1, none⟩) (Nat.le_refl _) _⟩
          generalize (w1.setCell ⟨w.heap.size, 0, none⟩ (.string ⟨#[]⟩)).setCell ⟨w.heap.size, 1, none⟩ (.slice none 0 0) = W at dd
          obtain ⟨d0, d1⟩ := dd
          simp [results, Tryz.f45, go_sem, d0, d1]
      · rw [if_neg h254] at hst
        have hne : ¬ (s[k].toNat : Int) = 254 := by intro e; apply h254; rw [← UInt8.toNat_inj]; have : (254 : UInt8).toNat = 254 := rfl; omega
        have c1 : ((s[k].toNat : Int) == 254) = false := by simpa using hne
        have HG := Lib.hid (hst.symm.trans HK.out)
        clear hst HK hne h254
        go_wp2_with fail
        go_round
        case rel => exact ⟨k + 1, by omega, by go_num, HG⟩
        case measure => simp [intOf]; omega
    · have hG : Hid (Can.badKey = (jb, ls, er)) := by
        show _ = _
        rw [← HK.out, List.drop_eq_nil_iff.2 (by rw [Array.length_toList]; show s.size ≤ k; omega)]; rfl
      have hE := hG.out
      unfold Can.badKey at hE
      simp only [Prod.mk.injEq] at hE
      obtain ⟨rfl, rfl, rfl⟩ := hE
      clear HK hG
      go_wp2_with fail
      refine bodyPost_ret (v := .tuple #[.agg #[(.string ⟨#[]⟩), (.slice none 0 0)], .int .i64 50]) ?_ rfl ⟨⟨_, rfl, OwnLabels.nil _ _⟩, (Below.refl _ _).alloc (Nat.le_refl _) _⟩
      generalize w.alloc (.cells #[.string ⟨#[]⟩, .slice none 0 0] 37) = W at k2
      have d0 : W.cell? ⟨w.heap.size, 0, none⟩ = some (.string ⟨#[]⟩) := by rw [Lib.cell_of_heap k2]; rfl
      have d1 : W.cell? ⟨w.heap.size, 1, none⟩ = some (.slice none 0 0) := by rw [Lib.cell_of_heap k2]; rfl
      simp [results, Tryz.f45, go_sem, d0, d1]
end Go.Proofs.YthnaninhbofeoaaGreatDoor
