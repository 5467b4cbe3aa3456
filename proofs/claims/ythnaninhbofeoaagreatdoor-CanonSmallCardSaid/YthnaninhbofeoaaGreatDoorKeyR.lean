/- Contract of canon: ReadKey. -/
import Derived.Test.YthnaninhbofeoaaGreatDoorKeyK
import Derived.Test.YthnaninhbofeoaaGreatDoorCanR
namespace Go.Proofs.YthnaninhbofeoaaGreatDoor
open Go.RowKit

theorem two_cells (w : World) (b : Nat) (x y : Value) (c0 : (w.cell? ⟨b, 0, none⟩).isSome = true) (c1 : (w.cell? ⟨b, 1, none⟩).isSome = true) :
    ((w.setCell ⟨b, 0, none⟩ x).setCell ⟨b, 1, none⟩ y).cell? ⟨b, 0, none⟩ = some x ∧ ((w.setCell ⟨b, 0, none⟩ x).setCell ⟨b, 1, none⟩ y).cell? ⟨b, 1, none⟩ = some y :=
  ⟨(World.cell?_setCell_other _ _ _ _ (by intro e; cases e)).trans (World.cell?_setCell_same' _ _ _ c0),
   World.cell?_setCell_same' _ _ _ (by rw [World.cell?_setCell_other _ _ _ _ (by intro e; cases e)]; exact c1)⟩

set_option maxHeartbeats 3200000 in
set_option maxRecDepth 100000 in
theorem creadkey_is (s : ByteArray) (jb : ByteArray) (ls : List Lab.L) (er : Int) (h : Can.readKey s = (jb, ls, er)) (m : Int) (w : World) (hm : w.cell? ⟨0, 0, none⟩ = some (.int .i64 m)) (hs : s.size ≤ 1000000) :
    Calls Tryz.prog 25 #[.string s] w fun e w' => (∃ v, e = .returned (.tuple #[.agg #[.string jb, v], .int .i64 er]) ∧ OwnLabels w.heap.size v ls w') ∧ Below w.heap.size w w' := by
  have hcut := fun w hm => Tryz.strings_Cut s ⟨#[254]⟩ m w (by omega) hm
  have hix : Lib.index s.data.toList [254] = Lib.indexByte s.data.toList 254 := Lib.index_one _ _
  have hge := Lib.indexByte_ge s.data.toList 254
  have HM0 := Lib.hid hm
  by_cases hmiss : Lib.indexByte s.data.toList 254 = -1
  · have hc : Lib.cut s.data.toList [254] = (s.data.toList, [], false) := by unfold Lib.cut; rw [hix, hmiss]; rfl
    unfold Can.readKey at h
    rw [Can.readKeyL_miss s 0 _ hmiss] at h
    unfold Can.badKey at h
    simp only [Prod.mk.injEq] at h
    obtain ⟨rfl, rfl, rfl⟩ := h
    have HC : Hid (∀ w : World, w.cell? ⟨0, 0, none⟩ = some (.int .i64 m) → Calls Tryz.prog 62 #[.string s, .string ⟨#[254]⟩] w fun e w' => e = .returned (.tuple #[.string s, .string ⟨#[]⟩, .bool false]) ∧ Below w.heap.size w w') := by
      show ∀ w : World, _
      intro w hm
      refine (hcut w hm).mono fun e w' ⟨he, n, hw⟩ => ⟨?_, by subst hw; exact below_drewN (Below.refl _ _) n⟩
      have e1 : (ByteArray.mk #[254]).data.toList = [254] := rfl
      rw [he, e1, hc]
    have hm1 : ∀ o, (w.alloc o).cell? ⟨0, 0, none⟩ = some (.int .i64 m) := fun o => cell_later ((Below.refl _ _).alloc (Nat.le_refl _) o) hm (Nat.le_refl _)
    clear hcut hix hge hmiss hc hm
    go_enter Tryz.func25, Tryz.ntmps25
    go_wp2_with (go_at_call 62; refine (HC.out _ (hm1 _)).mono ?_)
    first | rintro e w2 rfl hb2 | rintro e w2 ⟨rfl, hb2⟩
    have k2 := below_kept hb2 (alloc_new w _) (by simp)
    have hs2 := hb2.size
    simp only [World.size_alloc] at hs2
    have c0 : w2.cell? ⟨w.heap.size, 0, none⟩ = some (.string ⟨#[]⟩) := by rw [Lib.cell_of_heap k2]; rfl
    have c1 : w2.cell? ⟨w.heap.size, 1, none⟩ = some (.slice none 0 0) := by rw [Lib.cell_of_heap k2]; rfl
    have f0 : w2.frozen? ⟨w.heap.size, 0, none⟩ = false := Lib.frozen_of_heap k2 0
    have f1 : w2.frozen? ⟨w.heap.size, 1, none⟩ = false := Lib.frozen_of_heap k2 1
    have hB : Below w.heap.size w w2 := ((Below.refl _ _).alloc (Nat.le_refl _) _).trans (hb2.mono (by simp))
    go_wp2_with fail
    have dd := two_cells w2 w.heap.size (.string ⟨#[]⟩) (.slice none 0 0) (by rw [c0]; rfl) (by rw [c1]; rfl)
    refine bodyPost_ret (v := .tuple #[.agg #[(.string ⟨#[]⟩), (.slice none 0 0)], .int .i64 50]) ?_ rfl ⟨⟨_, rfl, OwnLabels.nil _ _⟩, (hB.setCell (p := ⟨w.heap.size, 0, none⟩) (Nat.le_refl _) _).setCell (p := ⟨w.heap.size, 1, none⟩) (Nat.le_refl _) _⟩
    generalize (w2.setCell ⟨w.heap.size, 0, none⟩ (.string ⟨#[]⟩)).setCell ⟨w.heap.size, 1, none⟩ (.slice none 0 0) = W at dd
    obtain ⟨d0, d1⟩ := dd
    simp [results, Tryz.f25, go_sem, d0, d1]
  · obtain ⟨i, hi⟩ : ∃ i : Nat, Lib.indexByte s.data.toList 254 = i := ⟨(Lib.indexByte s.data.toList 254).toNat, by omega⟩
    have hc : Lib.cut s.data.toList [254] = (s.data.toList.take i, s.data.toList.drop (i + 1), true) := by
      unfold Lib.cut
      rw [hix, hi, if_pos (by omega)]
      rfl
    unfold Can.readKey at h
    rw [Can.readKeyL_hit s 0 _ i hi, Nat.zero_add] at h
    unfold Can.keyAt Can.badKey at h
    obtain ⟨a, ha⟩ : ∃ a, ByteArray.mk (s.data.toList.take i).toArray = a := ⟨_, rfl⟩
    obtain ⟨b, hb⟩ : ∃ b, ByteArray.mk (s.data.toList.drop (i + 1)).toArray = b := ⟨_, rfl⟩
    have had : a.data.toList = s.data.toList.take i := by rw [← ha]
    have hbd : b.data.toList = s.data.toList.drop (i + 1) := by rw [← hb]
    have hsl : s.data.toList.length = s.size := Array.length_toList
    have has : a.size ≤ 1000000 := by
      have : a.size = (s.data.toList.take i).length := by rw [← ha]; exact List.size_toArray
      rw [this, List.length_take]; omega
    have hbs : b.size ≤ 1000000 := by
      have : b.size = (s.data.toList.drop (i + 1)).length := by rw [← hb]; exact List.size_toArray
      rw [this, List.length_drop]; omega
    rw [← had, ← hbd] at h
    have hae : ByteArray.mk a.data.toList.toArray = a := by rw [had]; exact ha
    rw [hae] at h
    have HC : Hid (∀ w : World, w.cell? ⟨0, 0, none⟩ = some (.int .i64 m) → Calls Tryz.prog 62 #[.string s, .string ⟨#[254]⟩] w fun e w' => e = .returned (.tuple #[.string a, .string b, .bool true]) ∧ Below w.heap.size w w') := by
      show ∀ w : World, _
      intro w hm
      refine (hcut w hm).mono fun e w' ⟨he, n, hw⟩ => ⟨?_, by subst hw; exact below_drewN (Below.refl _ _) n⟩
      have e1 : (ByteArray.mk #[254]).data.toList = [254] := rfl
      rw [he, e1, hc, ← ha, ← hb]
    obtain ⟨bj, hbj⟩ : ∃ bj, Can.job a.data.toList = bj := ⟨_, rfl⟩
    rw [hbj] at h
    obtain ⟨⟨lr, e0⟩, hrd⟩ : ∃ q, Can.read b.data.toList = q := ⟨_, rfl⟩
    have her := Can.read_err b.data.toList
    rw [hrd] at h her
    dsimp only at h her
    have HJ := Lib.hid (fun w => cjob_is a bj hbj w (by unfold maxLen; omega))
    have HR := Lib.hid (fun m w hm => cread_is b lr e0 hrd m w hm hbs)
    have hm1 : ∀ o, (w.alloc o).cell? ⟨0, 0, none⟩ = some (.int .i64 m) := fun o => cell_later ((Below.refl _ _).alloc (Nat.le_refl _) o) hm (Nat.le_refl _)
    clear hcut hix hge hmiss hc hi ha hb had hbd hae hbj hrd hm hsl
    cases bj
    · rw [if_neg (by simp)] at h
      simp only [Prod.mk.injEq] at h
      obtain ⟨rfl, rfl, rfl⟩ := h
      clear her
      go_enter Tryz.func25, Tryz.ntmps25
      go_wp2_with (go_at_call 62; refine (HC.out _ (hm1 _)).mono ?_)
      first | rintro e w2 rfl hb2 | rintro e w2 ⟨rfl, hb2⟩
      have k2 := below_kept hb2 (alloc_new w _) (by simp)
      have hs2 := hb2.size
      simp only [World.size_alloc] at hs2
      have c0 : w2.cell? ⟨w.heap.size, 0, none⟩ = some (.string ⟨#[]⟩) := by rw [Lib.cell_of_heap k2]; rfl
      have c1 : w2.cell? ⟨w.heap.size, 1, none⟩ = some (.slice none 0 0) := by rw [Lib.cell_of_heap k2]; rfl
      have f0 : w2.frozen? ⟨w.heap.size, 0, none⟩ = false := Lib.frozen_of_heap k2 0
      have f1 : w2.frozen? ⟨w.heap.size, 1, none⟩ = false := Lib.frozen_of_heap k2 1
      have hB : Below w.heap.size w w2 := ((Below.refl _ _).alloc (Nat.le_refl _) _).trans (hb2.mono (by simp))
      go_wp2_with (go_at_call 47; refine (HJ.out _).mono ?_)
      try rintro e w3 ⟨rfl, rfl⟩
      go_wp2_with fail
      have dd := two_cells w2 w.heap.size (.string ⟨#[]⟩) (.slice none 0 0) (by rw [c0]; rfl) (by rw [c1]; rfl)
      refine bodyPost_ret (v := .tuple #[.agg #[(.string ⟨#[]⟩), (.slice none 0 0)], .int .i64 50]) ?_ rfl ⟨⟨_, rfl, OwnLabels.nil _ _⟩, (hB.setCell (p := ⟨w.heap.size, 0, none⟩) (Nat.le_refl _) _).setCell (p := ⟨w.heap.size, 1, none⟩) (Nat.le_refl _) _⟩
      generalize (w2.setCell ⟨w.heap.size, 0, none⟩ (.string ⟨#[]⟩)).setCell ⟨w.heap.size, 1, none⟩ (.slice none 0 0) = W at dd
      obtain ⟨d0, d1⟩ := dd
      simp [results, Tryz.f25, go_sem, d0, d1]
    · rcases her with rfl | rfl
      · rw [if_pos ⟨rfl, rfl⟩] at h
        simp only [Prod.mk.injEq] at h
        obtain ⟨rfl, rfl, rfl⟩ := h
        go_enter Tryz.func25, Tryz.ntmps25
        go_wp2_with (go_at_call 62; refine (HC.out _ (hm1 _)).mono ?_)
        first | rintro e w2 rfl hb2 | rintro e w2 ⟨rfl, hb2⟩
        have hm2 := cell_later hb2 (hm1 _) (Nat.le_refl _)
        have k2 := below_kept hb2 (alloc_new w _) (by simp)
        have hs2 := hb2.size
        simp only [World.size_alloc] at hs2
        have c0 : w2.cell? ⟨w.heap.size, 0, none⟩ = some (.string ⟨#[]⟩) := by rw [Lib.cell_of_heap k2]; rfl
        have c1 : w2.cell? ⟨w.heap.size, 1, none⟩ = some (.slice none 0 0) := by rw [Lib.cell_of_heap k2]; rfl
        have f0 : w2.frozen? ⟨w.heap.size, 0, none⟩ = false := Lib.frozen_of_heap k2 0
        have f1 : w2.frozen? ⟨w.heap.size, 1, none⟩ = false := Lib.frozen_of_heap k2 1
        have hB : Below w.heap.size w w2 := ((Below.refl _ _).alloc (Nat.le_refl _) _).trans (hb2.mono (by simp))
        go_wp2_with (go_at_call 47; refine (HJ.out _).mono ?_)
        try rintro e w3 ⟨rfl, rfl⟩
        go_wp2_with (go_at_call 24; refine (HR.out _ _ hm2).mono ?_)
        first | rintro e w3 v rfl hv hb3 | rintro e w3 ⟨⟨v, rfl, hv⟩, hb3⟩
        have k3 := below_kept hb3 k2 (by omega)
        clear c0 c1 f0 f1
        have c0 : w3.cell? ⟨w.heap.size, 0, none⟩ = some (.string ⟨#[]⟩) := by rw [Lib.cell_of_heap k3]; rfl
        have c1 : w3.cell? ⟨w.heap.size, 1, none⟩ = some (.slice none 0 0) := by rw [Lib.cell_of_heap k3]; rfl
        have f0 : w3.frozen? ⟨w.heap.size, 0, none⟩ = false := Lib.frozen_of_heap k3 0
        have f1 : w3.frozen? ⟨w.heap.size, 1, none⟩ = false := Lib.frozen_of_heap k3 1
        have hB3 := below_next hB hb3
        obtain ⟨pv, cv, rfl, _, _, _⟩ := OwnLabels.open hv
        obtain ⟨N, hN⟩ : ∃ N, lr.length = N := ⟨_, rfl⟩
        have hv2 := fun x y => row_lift (row_aside (row_aside hv (a := ⟨w.heap.size, 0, none⟩) (show w.heap.size < _ by omega) x) (a := ⟨w.heap.size, 1, none⟩) (show w.heap.size < _ by omega) y) (show w.heap.size ≤ _ by omega)
        rw [hN]
        go_wp2_with fail
        have dd := two_cells w3 w.heap.size (.string a) (.slice pv N cv) (by rw [c0]; rfl) (by rw [c1]; rfl)
        refine bodyPost_ret (v := .tuple #[.agg #[(.string a), (.slice pv N cv)], .int .i64 0]) ?_ rfl ⟨⟨_, rfl, by rw [← hN]; exact hv2 _ _⟩, (hB3.setCell (p := ⟨w.heap.size, 0, none⟩) (Nat.le_refl _) _).setCell (p := ⟨w.heap.size, 1, none⟩) (Nat.le_refl _) _⟩
        generalize (w3.setCell ⟨w.heap.size, 0, none⟩ (.string a)).setCell ⟨w.heap.size, 1, none⟩ (.slice pv N cv) = W at dd
        obtain ⟨d0, d1⟩ := dd
        simp [results, Tryz.f25, go_sem, d0, d1]
      · rw [if_neg (by simp)] at h
        simp only [Prod.mk.injEq] at h
        obtain ⟨rfl, rfl, rfl⟩ := h
        go_enter Tryz.func25, Tryz.ntmps25
        go_wp2_with (go_at_call 62; refine (HC.out _ (hm1 _)).mono ?_)
        first | rintro e w2 rfl hb2 | rintro e w2 ⟨rfl, hb2⟩
        have hm2 := cell_later hb2 (hm1 _) (Nat.le_refl _)
        have k2 := below_kept hb2 (alloc_new w _) (by simp)
        have hs2 := hb2.size
        simp only [World.size_alloc] at hs2
        have c0 : w2.cell? ⟨w.heap.size, 0, none⟩ = some (.string ⟨#[]⟩) := by rw [Lib.cell_of_heap k2]; rfl
        have c1 : w2.cell? ⟨w.heap.size, 1, none⟩ = some (.slice none 0 0) := by rw [Lib.cell_of_heap k2]; rfl
        have f0 : w2.frozen? ⟨w.heap.size, 0, none⟩ = false := Lib.frozen_of_heap k2 0
        have f1 : w2.frozen? ⟨w.heap.size, 1, none⟩ = false := Lib.frozen_of_heap k2 1
        have hB : Below w.heap.size w w2 := ((Below.refl _ _).alloc (Nat.le_refl _) _).trans (hb2.mono (by simp))
        go_wp2_with (go_at_call 47; refine (HJ.out _).mono ?_)
        try rintro e w3 ⟨rfl, rfl⟩
        go_wp2_with (go_at_call 24; refine (HR.out _ _ hm2).mono ?_)
        first | rintro e w3 v rfl hv hb3 | rintro e w3 ⟨⟨v, rfl, hv⟩, hb3⟩
        have k3 := below_kept hb3 k2 (by omega)
        clear c0 c1 f0 f1
        have c0 : w3.cell? ⟨w.heap.size, 0, none⟩ = some (.string ⟨#[]⟩) := by rw [Lib.cell_of_heap k3]; rfl
        have c1 : w3.cell? ⟨w.heap.size, 1, none⟩ = some (.slice none 0 0) := by rw [Lib.cell_of_heap k3]; rfl
        have f0 : w3.frozen? ⟨w.heap.size, 0, none⟩ = false := Lib.frozen_of_heap k3 0
        have f1 : w3.frozen? ⟨w.heap.size, 1, none⟩ = false := Lib.frozen_of_heap k3 1
        have hB3 := below_next hB hb3
        obtain ⟨pv, cv, rfl, _, _, _⟩ := OwnLabels.open hv
        obtain ⟨N, hN⟩ : ∃ N, lr.length = N := ⟨_, rfl⟩
        have hv2 := fun x y => row_lift (row_aside (row_aside hv (a := ⟨w.heap.size, 0, none⟩) (show w.heap.size < _ by omega) x) (a := ⟨w.heap.size, 1, none⟩) (show w.heap.size < _ by omega) y) (show w.heap.size ≤ _ by omega)
        rw [hN]
        go_wp2_with fail
        have dd := two_cells w3 w.heap.size (.string ⟨#[]⟩) (.slice none 0 0) (by rw [c0]; rfl) (by rw [c1]; rfl)
        refine bodyPost_ret (v := .tuple #[.agg #[(.string ⟨#[]⟩), (.slice none 0 0)], .int .i64 50]) ?_ rfl ⟨⟨_, rfl, OwnLabels.nil _ _⟩, (hB3.setCell (p := ⟨w.heap.size, 0, none⟩) (Nat.le_refl _) _).setCell (p := ⟨w.heap.size, 1, none⟩) (Nat.le_refl _) _⟩
        generalize (w3.setCell ⟨w.heap.size, 0, none⟩ (.string ⟨#[]⟩)).setCell ⟨w.heap.size, 1, none⟩ (.slice none 0 0) = W at dd
        obtain ⟨d0, d1⟩ := dd
        simp [results, Tryz.f25, go_sem, d0, d1]
end Go.Proofs.YthnaninhbofeoaaGreatDoor
