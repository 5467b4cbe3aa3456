/- The walk of CanonOrder: the law returns true for every input. -/
import Derived.Test.YthnaninhbofeoaaGreatDoorFst
import Derived.BigQuiet
import Derived.Deep.RegionHeld3
namespace Go.Proofs.YthnaninhbofeoaaGreatDoor
open Go.RowKit

set_option maxHeartbeats 6400000 in
set_option maxRecDepth 100000 in
theorem order_nat (a0 : Option Addr) (zs : List Lab.St) (n c : Nat) (tu : Nat) (m : Int) (w : World) (hn : zs.length = n) (hA : Lab.StAt a0 zs w) (hF : ∀ z ∈ zs, Lab.StFit z) (hlc : n ≤ c) (htu : tu < 256) (hm : w.cell? ⟨0, 0, none⟩ = some (.int .i64 m)) :
    Calls Tryz.prog 4 #[.slice a0 n c, .int .u8 (tu : Int)] w fun e w' => e = .returned (.bool true) ∧ Below w.heap.size w w' := by
  have HW := Lib.hid (awake_true m w hm)
  have HALL := Lib.hid (fun w hA => all2_is a0 zs n c w hn hA hF hlc)
  have HSO := Lib.hid (fun b o c ts n hn hf hl w hb hT => sort_fine b o c ts n hn hf hl w hb hT)
  have S0 := Lib.hid (fun w => sort_none w)
  have HTS := Lib.hid (fun p1 p2 a b n c1 c2 w hn hm hA hB hj fa fb hl => sametargets_true p1 p2 a b n c1 c2 w hn hm hA hB hj fa fb hl)
  clear hn hF hm
  go_enter Tryz.func4, Tryz.ntmps4
  go_wp2_with (go_at_call 8; refine HW.out.mono ?_)
  first | rintro e w1 rfl hb1 | rintro e w1 ⟨rfl, hb1⟩
  have hA1 := hA.below hb1 (Nat.le_refl _)
  go_wp2_with (go_at_call 9; refine (HALL.out _ hA1).mono ?_)
  first | rintro e w2 v ts rfl hv hts hnil hb2 | rintro e w2 ⟨⟨v, ts, rfl, hv, hts, hnil⟩, hb2⟩
  have hB2 := below_next hb1 hb2
  have hfine := Can.fine_of ts _ hts (fun t ht => (hv.2 t ht).1)
  have hlen : ts.length ≤ 12 := by
    have := congrArg List.length hts
    rw [List.length_map, List.length_map, List.length_take] at this
    omega
  clear hts hA1 hA HALL HW hb1 hb2
  by_cases hts0 : ts = []
  · have hvn := hnil hts0
    subst hvn
    go_wp2_with (go_at_call 10; refine (S0.out _).mono ?_)
    first | rintro e w3 rfl hb3 | rintro e w3 ⟨rfl, hb3⟩
    have hB3 := below_next hB2 hb3
    go_wp2_with (go_at_call 10; refine (S0.out _).mono ?_)
    first | rintro e w4 rfl hb4 | rintro e w4 ⟨rfl, hb4⟩
    have hB4 := below_next hB3 hb4
    go_wp2_with fail
    have HS := Lib.hid (fun b w hb => HSO.out b 0 0 [] 0 rfl (fun t ht => absurd ht (by simp)) (by omega) w hb (fun i hi => absurd hi (by simp)))
    go_region_held3 (fun _ => True) (trivial)
      (first
        | (refine step_cat_none 22 Tryz.underlying22 (by rfl) _ _ (by rfl) w4.heap.size _ [] (by rfl) (RowTs.made w4.drew w4.heap.size (Nat.le_refl _)) (by rfl) ?_)
        | (go_at_call 10; refine (HS.out _ _ (by simp)).mono ?_; rintro e w5 ⟨⟨v5, r5, rfl, hv5, _, _, _, hr5⟩, hb5⟩))
    obtain rfl : r5 = [] := List.length_eq_zero_iff.1 (by omega)
    obtain ⟨p5, c5, rfl, _, _⟩ := hv5.openP
    have hB5 := below_next (hB4.alloc hB4.size _).drew hb5
    go_wp2_with (go_at_call 11; refine (HTS.out none none [] [] 0 0 0 _ rfl rfl (.inl rfl) (.inl rfl) rfl (fun t ht => absurd ht (by simp)) (fun t ht => absurd ht (by simp)) (by omega)).mono ?_)
    first | rintro e w6 rfl hb6 | rintro e w6 ⟨rfl, hb6⟩
    have hB6 := below_next hB5 hb6
    go_wp2_with (go_at_call 11; refine (HTS.out p5 none [] [] 0 c5 0 _ rfl rfl (.inl rfl) (.inl rfl) rfl (fun t ht => absurd ht (by simp)) (fun t ht => absurd ht (by simp)) (by omega)).mono ?_)
    first | rintro e w7 rfl hb7 | rintro e w7 ⟨rfl, hb7⟩
    have hB7 := below_next hB6 hb7
    go_wp2_with fail
    go_loopw [14] (fun i wr => i = .int .i64 1 ∧ Below w.heap.size w wr) (fun _ _ => 0)
    case atStart => exact ⟨rfl, hB7⟩
    case round =>
      obtain ⟨rfl, hb⟩ := hrel
      go_wp2_with fail
      go_loopw [130] (fun i wr => i = .int .i64 0 ∧ Below w.heap.size w wr) (fun _ _ => 0)
      case atStart => exact ⟨rfl, hb⟩
      case round =>
        obtain ⟨rfl, hb2⟩ := hrel
        go_wp2_with fail
        go_ret
        exact ⟨rfl, hb2⟩
  rcases hv.open with ⟨_, hnil2⟩ | ⟨b, cb, rfl, hbB, hb0, hlcb, hcm, hT⟩
  · exact absurd hnil2 hts0
  have hN0 : 0 < ts.length := List.length_pos_iff.2 hts0
  obtain ⟨k, hk⟩ : ∃ k, tu % ts.length = k := ⟨_, rfl⟩
  have hkN : k < ts.length := by rw [← hk]; exact Nat.mod_lt _ hN0
  have r1 : Int.tmod (tu : Int) (ts.length : Int) = (k : Int) := by rw [Int.tmod_eq_emod_of_nonneg (by omega), ← hk]; omega
  have r2 : IntKind.i64.wrap (tu : Int) = (tu : Int) := by rw [IntKind.wrap_i64]; omega
  have r3 : (0 : Int) < (ts.length : Int) := by omega
  have r4 : ¬ ((ts.length : Int) = 0) := by omega
  have htl : (ts.drop k ++ ts.take k).length = ts.length := by rw [List.length_append, List.length_drop, List.length_take]; omega
  have htm : ∀ x, x ∈ (ts.drop k ++ ts.take k).map Can.jl ↔ x ∈ ts.map Can.jl := fun x => by
    have h1 : (ts.drop k ++ ts.take k).Perm ts := by
      have := List.perm_append_comm (l₁ := ts.drop k) (l₂ := ts.take k)
      rwa [List.take_append_drop] at this
    exact (h1.map Can.jl).mem_iff
  have htf : ∀ t ∈ ts.drop k ++ ts.take k, Can.Fine t := fun t ht => by
    rw [List.mem_append] at ht
    exact hfine t (ht.elim List.mem_of_mem_drop List.mem_of_mem_take)
  have hld : (ts.drop k).length = ts.length - k := List.length_drop
  have hlt : (ts.take k).length = k := by rw [List.length_take]; omega
  obtain ⟨N, hN⟩ : ∃ N, ts.length = N := ⟨_, rfl⟩
  rw [hN] at hN0 hkN r1 r3 r4 htl hlen hlcb hld ⊢
  go_wp2_with (go_at_call 10; refine (HSO.out b 0 cb ts N hN hfine (by omega) _ hb0 hT).mono ?_)
  first | rintro e w3 v8 r8 rfl hv8 hf8 hu8 hm8 hl8 hb3 | rintro e w3 ⟨⟨v8, r8, rfl, hv8, hf8, hu8, hm8, hl8⟩, hb3⟩
  have hB3 := below_next hB2 hb3
  have hT3 := hT.belowT hb3 (Nat.le_refl _)
  have hb03 : b < w3.heap.size := Nat.lt_of_lt_of_le hb0 hb3.size
  rcases hv8.open with ⟨_, hx8⟩ | ⟨g8, c8, rfl, _, h08, hl8c, _, hT8⟩
  · exfalso
    subst hx8
    have h1 := (hm8 (Can.jl ts[0])).2 (List.mem_map.2 ⟨_, List.getElem_mem (by omega), rfl⟩)
    simp at h1
  obtain ⟨L, hL⟩ : ∃ L, r8.length = L := ⟨_, rfl⟩
  rw [hL] at hl8 hl8c ⊢
  go_wp2_with (go_at_call 10; refine (HSO.out g8 0 c8 r8 L hL hf8 (by omega) _ h08 hT8).mono ?_)
  first | rintro e w4 v10 r10 rfl hv10 hf10 hu10 hm10 hl10 hb4 | rintro e w4 ⟨⟨v10, r10, rfl, hv10, hf10, hu10, hm10, hl10⟩, hb4⟩
  have hB4 := below_next hB3 hb4
  have hT4 := hT3.belowT hb4 (Nat.le_refl _)
  have hb04 : b < w4.heap.size := Nat.lt_of_lt_of_le hb03 hb4.size
  have hT84 := hT8.belowT hb4 (Nat.le_refl _)
  have h084 : g8 < w4.heap.size := Nat.lt_of_lt_of_le h08 hb4.size
  have hj10 : r10.map Can.jl = r8.map Can.jl := Can.up_uniq _ _ hu10 hu8 hm10
  obtain ⟨p10, c10, rfl, hl10c, hP10⟩ := hv10.openP
  have hL10 : r10.length = L := by
    have := congrArg List.length hj10
    rw [List.length_map, List.length_map] at this
    omega
  rw [hL10] at hl10c ⊢
  have HSL := Lib.hid (fun g c w hb hT => HSO.out g 0 c (ts.drop k ++ ts.take k) N htl htf (by omega) w hb hT)
  have HTD : Hid (∀ w', Below w4.heap.size w4 w' → Can.TAt b (0 + k * 2) (ts.drop k) w' ∧ Can.TAt b 0 (ts.take k) w' ∧ ∀ t ∈ ts.drop k ++ ts.take k, Lab.At t.p t.ls w') := by
    show ∀ w', _
    intro w' hw
    have h1 := hT4.belowT hw (Nat.le_refl _)
    refine ⟨h1.drop k, h1.take k, fun t ht => ?_⟩
    have ht2 : t ∈ ts := by
      rw [List.mem_append] at ht
      exact ht.elim List.mem_of_mem_drop List.mem_of_mem_take
    obtain ⟨i, hi, rfl⟩ := List.getElem_of_mem ht2
    exact (h1 i hi).2.2
  have q1 : (ts.drop k).length = N - k := by omega
  have HF := Lib.hid hfine
  have HT4 := Lib.hid hT4
  have HT8 := Lib.hid hT84
  have HU := Lib.hid hu8
  have HM := Lib.hid hm8
  have HF8 := Lib.hid hf8
  have HJ10 := Lib.hid hj10
  have HF10 := Lib.hid hf10
  have HL := Lib.hid hL
  have HN := Lib.hid hN
  have HTM := Lib.hid htm
  have n1 : (0 : Int) ≤ (k : Int) := by omega
  have n2 : (k : Int) ≤ (N : Int) := by omega
  have n3 : (N : Int) ≤ (cb : Int) := by omega
  have n4 : (k : Int) ≤ (cb : Int) := by omega
  clear hfine hT hT3 hT4 hT8 hT84 hu8 hm8 hf8 hu10 hm10 hf10 hj10 hL hN htl htf htm hv8 hv10 hv hl10 hb3 hb4 hB2 hB3 hts0 hnil hk r1
  go_wp2_with fail
  go_region_held3 (fun _ => True) (trivial)
    (first
      | (refine step_cat 22 Tryz.underlying22 (by rfl) _ _ (by rfl) w4.heap.size _ [] (by rfl) (RowTs.made w4.drew w4.heap.size (Nat.le_refl _)) (ts.drop k) b (0 + k * 2) (N - k) (cb - k) (by first | rfl | (go_simp; omega)) q1 (HTD.out _ ((Below.refl _ w4).alloc (Nat.le_refl _) _).drew).1 (N - k) (by simp only [List.length_nil]; omega) (by omega) (by omega) (by simp) ?_; intro g5 c5 w5 hr5 hg5
         have hb5 : Below w4.heap.size w4 w5 := ((Below.refl _ w4).alloc (Nat.le_refl _) _).drew.grown hg5 (by simp) (fun j hj => (World.ownsRow.lt (RowTs.made w4.drew w4.heap.size (Nat.le_refl _)) j hj).1))
      | (refine step_cat 22 Tryz.underlying22 (by rfl) _ _ (by rfl) w4.heap.size _ _ (by rfl) hr5 (ts.take k) b 0 k cb (by go_simp) hlt (HTD.out _ hb5).2.1 N (by simp only [List.length_nil, List.length_append]; omega) (by omega) (by omega) hb5.size ?_; intro g6 c6 w6 hr6 hg6
         have hb6 : Below w4.heap.size w4 w6 := hb5.grown hg6 hb5.size (fun j hj => (World.ownsRow.lt hr5 j hj).1)
         obtain ⟨h06, hT6⟩ := hr6.at (HTD.out _ hb6).2.2)
      | (go_at_call 10; refine (HSL.out _ _ _ h06 hT6).mono ?_; rintro e w7 ⟨⟨v7, r7, rfl, hv7, hf7, hu7, hm7, hl7⟩, hb7⟩))
  have hb47 := below_next hb6 hb7
  obtain ⟨p7, c7, rfl, hl7c, hP7⟩ := hv7.openP
  have hj7 : r7.map Can.jl = r8.map Can.jl := Can.up_uniq _ _ hu7 HU.out (fun x => by rw [hm7 x, HTM.out x, HM.out x])
  have hL7 : r7.length = L := by
    have := congrArg List.length hj7
    rw [List.length_map, List.length_map, HL.out] at this
    exact this
  rw [hL7] at hl7c ⊢
  have HP8 : Hid (∀ w', Below w4.heap.size w4 w' → Can.TAtP (some ⟨g8, 0, none⟩) r8 w') := fun w' hw => .inr ⟨g8, rfl, Nat.lt_of_lt_of_le h084 hw.size, HT8.out.belowT hw (Nat.le_refl _)⟩
  go_wp2_with (go_at_call 11; refine (HTS.out p10 (some ⟨g8, 0, none⟩) r10 r8 L c10 c8 _ hL10 HL.out (hP10.below hb47 (Nat.le_refl _)) (HP8.out _ hb47) HJ10.out HF10.out HF8.out (by omega)).mono ?_)
  first | rintro e w8 rfl hb8 | rintro e w8 ⟨rfl, hb8⟩
  have hb48 := below_next hb47 hb8
  go_wp2_with (go_at_call 11; refine (HTS.out p7 (some ⟨g8, 0, none⟩) r7 r8 L c7 c8 _ hL7 HL.out (hP7.below hb8 (Nat.le_refl _)) (HP8.out _ hb48) hj7 hf7 HF8.out (by omega)).mono ?_)
  first | rintro e w9 rfl hb9 | rintro e w9 ⟨rfl, hb9⟩
  have hb49 := below_next hb48 hb9
  have hL0 : 0 < L := by
    rcases Nat.eq_zero_or_pos L with h | h
    · exfalso
      have h0 : r8 = [] := List.length_eq_zero_iff.1 (by rw [HL.out, h])
      have h1 := (HM.out (Can.jl (ts[0]'(by rw [HN.out]; exact hN0)))).2 (List.mem_map.2 ⟨_, List.getElem_mem _, rfl⟩)
      rw [h0] at h1
      simp at h1
    · exact h
  have HCC := Lib.hid (fun a b r er h w hA hB fa fb => ccompare_is a b r er h w hA hB fa fb)
  clear hm7 hu7 hf7 hj7 hv7 hl7 hl7c hP7 hL7 hb7 hb8 hb9 hb48 hb47 hr6 hr5 hg6 hg5 hb5 hb6 h06 hT6 HSL HSO HTS S0 hP10 hl10c hL10 HJ10 HF10 HTD HTM hlt hld q1
  go_wp2_with fail
  go_loopw [14] (fun i wr => ∃ j : Nat, j < L ∧ i = .int .i64 ((j + 1 : Nat) : Int) ∧ Below w4.heap.size w4 wr) (fun i _ => L - (intOf i).toNat)
  case atStart => exact ⟨0, hL0, rfl, hb49⟩
  case round =>
    obtain ⟨j, hj, rfl, hb⟩ := hrel
    have hsz := hb.size
    by_cases hjl : j + 1 < L
    · have ja : j < r8.length := by rw [HL.out]; omega
      have jb : j + 1 < r8.length := by rw [HL.out]; omega
      obtain ⟨x0, x1, x2⟩ := HT8.out j ja
      obtain ⟨y0, y1, y2⟩ := HT8.out (j + 1) jb
      have f1 := HF8.out r8[j] (List.getElem_mem _)
      have f2 := HF8.out r8[j + 1] (List.getElem_mem _)
      have hup := Can.up_step r8 HU.out j jb
      obtain ⟨x, hx⟩ : ∃ x, r8[j] = x := ⟨_, rfl⟩
      obtain ⟨y, hy⟩ : ∃ y, r8[j + 1] = y := ⟨_, rfl⟩
      rw [hx] at x0 x1 x2 f1 hup
      rw [hy] at y0 y1 y2 f2 hup
      have hnb := Can.not_before _ _ hup
      have e1 : Can.cmp x y = (-1, 0) := by rw [Can.cmp_fine x y f1 f2, if_pos hup]
      have e2 : Can.cmp y x = (1, 0) := by rw [Can.cmp_fine y x f2 f1, if_neg hnb.1, if_neg hnb.2]
      have T1 := Lib.hid (fun w hA hB => HCC.out x y (-1) 0 e1 w hA hB (Can.fine_fit x f1) (Can.fine_fit y f2))
      have T2 := Lib.hid (fun w hA hB => HCC.out y x 1 0 e2 w hA hB (Can.fine_fit y f2) (Can.fine_fit x f1))
      clear e1 e2 hnb hup f1 f2 hx hy
      obtain ⟨xj, xp, xn, xc, xl⟩ := x
      obtain ⟨yj, yp, yn, yc, yl⟩ := y
      dsimp only at x0 x1 x2 y0 y1 y2 T1 T2
      rw [Nat.zero_add] at x0 x1 y0 y1
      have HKS : Hid (∀ w', Below wr.heap.size wr w' → w'.cell? ⟨g8, j * 2, none⟩ = some (.string xj) ∧ w'.cell? ⟨g8, j * 2 + 1, none⟩ = some (.slice xp xn xc) ∧ w'.cell? ⟨g8, (j + 1) * 2, none⟩ = some (.string yj) ∧ w'.cell? ⟨g8, (j + 1) * 2 + 1, none⟩ = some (.slice yp yn yc)) := by
        show ∀ w', _
        intro w' hw
        have hw2 := chainT hb hw
        exact ⟨cell_later hw2 x0 (Nat.le_refl _), cell_later hw2 x1 (Nat.le_refl _), cell_later hw2 y0 (Nat.le_refl _), cell_later hw2 y1 (Nat.le_refl _)⟩
      have l1 : Lab.At xp xl wr.drew := x2.below hb.drew (Nat.le_refl _)
      have l2 : Lab.At yp yl wr.drew := y2.below hb.drew (Nat.le_refl _)
      obtain ⟨k0, k1, k2, k3⟩ := HKS.out _ (Below.refl _ wr)
      have m1 : IntKind.i64.wrap (((j + 1 : Nat) : Int) - 1) = (j : Int) := by rw [IntKind.wrap_i64]; omega
      have m1b : IntKind.i64.wrap ((j : Int) + 1 - 1) = (j : Int) := by rw [IntKind.wrap_i64]; omega
      have m1c : IntKind.i64.wrap (j : Int) = (j : Int) := by rw [IntKind.wrap_i64]; omega
      have m1d : ¬ ((j : Int) < 0) := by omega
      have m1e : ¬ ((L : Int) ≤ (j : Int)) := by omega
      have m2 : (0 : Int) ≤ (j : Int) := by omega
      have m3 : (j : Int) < (L : Int) := by omega
      have m4 : ((j + 1 : Nat) : Int) < (L : Int) := by omega
      have m5 : (j : Int) + 1 < (L : Int) := by omega
      have m6 : (0 : Int) ≤ (j : Int) + 1 := by omega
      have m7 : ((j : Int) + 1).toNat = j + 1 := by omega
      clear x0 x1 y0 y1 ja jb
      go_wp2_with fail
      go_region_held3 (fun w' => w'.cell? ⟨g8, j * 2, none⟩ = some (.string xj) ∧ w'.cell? ⟨g8, j * 2 + 1, none⟩ = some (.slice xp xn xc) ∧ w'.cell? ⟨g8, (j + 1) * 2, none⟩ = some (.string yj) ∧ w'.cell? ⟨g8, (j + 1) * 2 + 1, none⟩ = some (.slice yp yn yc))
        (first | exact HKS.out _ ((Below.refl _ wr).drew.trans hby) | exact HKS.out _ (Below.refl _ wr).drew | go_keep)
        ((go_at_call 12; refine (T1.out _ l1 l2).mono ?_; rintro e wy ⟨rfl, hby⟩))
      have hby' : Below w4.heap.size w4 wy := hb.drew.trans (hby.mono hsz)
      have hbz : Below wr.heap.size wr wy := (Below.refl _ wr).drew.trans hby
      have l3 : Lab.At xp xl wy.drew := x2.below hby'.drew (Nat.le_refl _)
      have l4 : Lab.At yp yl wy.drew := y2.below hby'.drew (Nat.le_refl _)
      obtain ⟨k4, k5, k6, k7⟩ := HKS.out _ hbz
      go_wp2_with fail
      go_region_held3 (fun w' => w'.cell? ⟨g8, j * 2, none⟩ = some (.string xj) ∧ w'.cell? ⟨g8, j * 2 + 1, none⟩ = some (.slice xp xn xc) ∧ w'.cell? ⟨g8, (j + 1) * 2, none⟩ = some (.string yj) ∧ w'.cell? ⟨g8, (j + 1) * 2 + 1, none⟩ = some (.slice yp yn yc))
        (first | exact HKS.out _ (chainT hbz.drew hbu) | exact HKS.out _ hbz.drew | go_keep)
        ((go_at_call 12; refine (T2.out _ l4 l3).mono ?_; rintro e wu ⟨rfl, hbu⟩))
      have hbu' : Below w4.heap.size w4 wu := chainT hby'.drew hbu
      go_wp2_with fail
      go_roundw
      case rel => exact ⟨j + 1, hjl, by go_num, hbu'⟩
      case measure => simp [intOf]; omega
    · have hjL : j + 1 = L := by omega
      have m4 : ¬ (((j + 1 : Nat) : Int) < (L : Int)) := by omega
      have m5 : ¬ ((j : Int) + 1 < (L : Int)) := by omega
      go_wp2_with fail
      clear hj hjl hjL m4 m5
      go_loopw [130] (fun i wr => ∃ k : Nat, k ≤ N ∧ i = .int .i64 k ∧ Below w4.heap.size w4 wr) (fun i _ => N - (intOf i).toNat)
      case atStart => exact ⟨0, Nat.zero_le _, rfl, hb⟩
      case round =>
        obtain ⟨i, hi, rfl, hb2⟩ := hrel
        have hsz2 := hb2.size
        by_cases hlt : i < N
        · have hit : i < ts.length := by rw [HN.out]; exact hlt
          obtain ⟨x0, x1, x2⟩ := HT4.out i hit
          have x0r := cell_later hb2 x0 (Nat.le_refl _)
          have x1r := cell_later hb2 x1 (Nat.le_refl _)
          have q1 := HF.out ts[i] (List.getElem_mem _)
          have q2 := (HM.out (Can.jl ts[i])).2 (List.mem_map.2 ⟨_, List.getElem_mem _, rfl⟩)
          have q3 := Can.up_count r8 HU.out ts[i] q2
          obtain ⟨t, ht⟩ : ∃ t, ts[i] = t := ⟨_, rfl⟩
          rw [ht] at x0 x1 x2 x0r x1r q1 q3
          have HCNI := Lib.hid q3
          have HFX := Lib.hid q1
          have hbr : b < wr.heap.size := Nat.lt_of_lt_of_le hb04 hsz2
          rw [Nat.zero_add] at x0 x1 x0r x1r
          clear q1 q2 q3 ht hit
          obtain ⟨tj, tp, tn, tc, tl⟩ := t
          dsimp only at x0 x1 x2 x0r x1r
          go_wp2_with fail
          have hbI : Below w4.heap.size w4 (wr.alloc (.cells #[.string tj, .slice tp tn tc] 37)) := hb2.alloc hsz2 _
          have hbox : (wr.alloc (.cells #[.string tj, .slice tp tn tc] 37)).heap[wr.heap.size]? = some (.cells #[.string tj, .slice tp tn tc] 37) := alloc_new wr _
          have hzI : (wr.alloc (.cells #[.string tj, .slice tp tn tc] 37)).heap.size = wr.heap.size + 1 := by simp
          obtain ⟨WI, hWI⟩ : ∃ W, wr.alloc (.cells #[.string tj, .slice tp tn tc] 37) = W := ⟨_, rfl⟩
          rw [hWI] at hbI hbox hzI ⊢
          have hXI : wr.heap.size < WI.heap.size := by omega
          obtain ⟨X, hX⟩ : ∃ X, wr.heap.size = X := ⟨_, rfl⟩
          rw [hX] at hbox hXI ⊢
          clear hWI hzI x0r x1r hX hb2 hsz2 hbr
          go_loopw [21, 136] (fun cn i2 wq => ∃ k : Nat, k ≤ L ∧ cn = .int .i64 (((r8.take k).countP (fun u => Can.kd (Can.jl u) == Can.kd (Can.jl ⟨tj, tp, tn, tc, tl⟩)) : Nat) : Int) ∧ i2 = .int .i64 k ∧ Below WI.heap.size WI wq) (fun _ i2 _ => L - (intOf i2).toNat)
          case atStart => exact ⟨0, Nat.zero_le _, by simp, rfl, Below.refl _ _⟩
          case round =>
            obtain ⟨k2, hk2, rfl, rfl, hbx⟩ := hrel
            have hszx := hbx.size
            by_cases hk3 : k2 < L
            · have ka : k2 < r8.length := by rw [HL.out]; exact hk3
              have hb4x : Below w4.heap.size w4 wr := chainT hbI (hbx)
              obtain ⟨y0, y1, y2⟩ := HT8.out k2 ka
              have f2 := HF8.out r8[k2] (List.getElem_mem _)
              have hnext : (r8.take (k2 + 1)).countP (fun u => Can.kd (Can.jl u) == Can.kd (Can.jl ⟨tj, tp, tn, tc, tl⟩)) = (r8.take k2).countP (fun u => Can.kd (Can.jl u) == Can.kd (Can.jl ⟨tj, tp, tn, tc, tl⟩)) + (if (Can.kd (Can.jl r8[k2]) == Can.kd (Can.jl ⟨tj, tp, tn, tc, tl⟩)) = true then 1 else 0) := by
                rw [List.take_add_one, List.getElem?_eq_getElem ka, List.countP_append]
                show _ + List.countP _ [r8[k2]] = _
                rw [List.countP_singleton]
              have hcl : (r8.take k2).countP (fun u => Can.kd (Can.jl u) == Can.kd (Can.jl ⟨tj, tp, tn, tc, tl⟩)) ≤ k2 := Nat.le_trans List.countP_le_length (by rw [List.length_take]; omega)
              obtain ⟨u, hu⟩ : ∃ u, r8[k2] = u := ⟨_, rfl⟩
              rw [hu] at y0 y1 y2 f2 hnext
              have f1 := HFX.out
              obtain ⟨cv, hcv, hcz⟩ := Can.cmp_zero _ _ f1 f2
              have hsm := Can.kd_same _ _ f1 f2
              have q1 : tl.length = tn := f1.1
              have q5 := (Lab.right_fit _ f1.2.2).2
              have q6 := f2.1
              have q7 := (Lab.right_fit _ f2.2.2).2
              have T1 := Lib.hid (fun w hA hB => HCC.out ⟨tj, tp, tn, tc, tl⟩ u cv 0 hcv w hA hB (Can.fine_fit _ f1) (Can.fine_fit _ f2))
              obtain ⟨rr, hrr⟩ : ∃ rr, (Can.kd (Can.jl u) == Can.kd (Can.jl ⟨tj, tp, tn, tc, tl⟩)) = rr := ⟨_, rfl⟩
              rw [hrr] at hnext hcz hsm
              obtain ⟨cn, hcn⟩ : ∃ cn, (r8.take k2).countP (fun u => Can.kd (Can.jl u) == Can.kd (Can.jl ⟨tj, tp, tn, tc, tl⟩)) = cn := ⟨_, rfl⟩
              rw [hcn] at hnext hcl ⊢
              clear hrr hu f1 f2 hcv ka hcn
              obtain ⟨uj, up, un, uc, ul⟩ := u
              dsimp only at y0 y1 y2 q5 q6 q7 hsm T1
              have T2 := Lib.hid (fun w hA hB => sametarget_is tj uj tp up tl ul tn un tc uc rr hsm w q1 q6 hA hB (by unfold maxLen; omega) (by unfold maxLen; omega))
              rw [Nat.zero_add] at y0 y1
              have y0r := cell_later hb4x y0 (Nat.le_refl _)
              have y1r := cell_later hb4x y1 (Nat.le_refl _)
              have hXw := below_kept hbx hbox hXI
              have X0 : wr.cell? ⟨X, 0, none⟩ = some (.string tj) := by rw [Lib.cell_of_heap hXw]; rfl
              have X1 : wr.cell? ⟨X, 1, none⟩ = some (.slice tp tn tc) := by rw [Lib.cell_of_heap hXw]; rfl
              have hXlt : X < wr.heap.size := Nat.lt_of_lt_of_le hXI hszx
              have hgw : g8 < wr.heap.size := Nat.lt_of_lt_of_le h084 hb4x.size
              have HKS : Hid (∀ w', Below (wr.alloc (.cells #[.string uj, .slice up un uc] 37)).heap.size (wr.alloc (.cells #[.string uj, .slice up un uc] 37)) w' → w'.cell? ⟨X, 0, none⟩ = some (.string tj) ∧ w'.cell? ⟨X, 1, none⟩ = some (.slice tp tn tc) ∧ w'.cell? ⟨wr.heap.size, 0, none⟩ = some (.string uj) ∧ w'.cell? ⟨wr.heap.size, 1, none⟩ = some (.slice up un uc)) := by
                show ∀ w', _
                intro w' hw
                have h1 := below_kept hw ((Below.heap_alloc wr (.cells #[.string uj, .slice up un uc] 37) X (by omega)).trans hXw) (by simp; omega)
                have h2 := below_kept hw (alloc_new wr (.cells #[.string uj, .slice up un uc] 37)) (by simp)
                refine ⟨?_, ?_, ?_, ?_⟩
                · rw [Lib.cell_of_heap h1]; rfl
                · rw [Lib.cell_of_heap h1]; rfl
                · rw [Lib.cell_of_heap h2]; rfl
                · rw [Lib.cell_of_heap h2]; rfl
              have hb4a : Below w4.heap.size w4 (wr.alloc (.cells #[.string uj, .slice up un uc] 37)) := hb4x.alloc hb4x.size _
              have hbxa : Below WI.heap.size WI (wr.alloc (.cells #[.string uj, .slice up un uc] 37)) := hbx.alloc hszx _
              have l1 : Lab.At tp tl (wr.alloc (.cells #[.string uj, .slice up un uc] 37)) := x2.below hb4a (Nat.le_refl _)
              have l2 : Lab.At up ul (wr.alloc (.cells #[.string uj, .slice up un uc] 37)) := y2.below hb4a (Nat.le_refl _)
              clear y0 y1 q1 q5 q6 q7 hsm hXw
              go_wp2_with (go_at_call 12; refine (T1.out _ l1 l2).mono ?_)
              first | rintro e wy rfl hby | rintro e wy ⟨rfl, hby⟩
              obtain ⟨k0, k1, k2', k3⟩ := HKS.out _ hby
              have hb4y := chainT hb4a hby
              have hbxy := chainT hbxa hby
              have l3 : Lab.At tp tl wy := x2.below hb4y (Nat.le_refl _)
              have l4 : Lab.At up ul wy := y2.below hb4y (Nat.le_refl _)
              cases rr with
              | true =>
                rw [if_pos rfl] at hnext
                have n8 : IntKind.i64.wrap ((cn : Int) + 1) = (cn : Int) + 1 := by rw [IntKind.wrap_i64]; omega
                go_wp2_with (go_at_call 13; refine (T2.out _ l3 l4).mono ?_)
                first | rintro e wz rfl hbz | rintro e wz ⟨rfl, hbz⟩
                go_wp2_with fail
                go_roundw
                case rel => exact ⟨k2 + 1, by omega, by rw [hnext]; congr 1, by go_num, chainT hbxy hbz⟩
                case measure => simp [intOf]; omega
              | false =>
                rw [if_neg (by simp)] at hnext
                go_wp2_with (go_at_call 13; refine (T2.out _ l3 l4).mono ?_)
                first | rintro e wz rfl hbz | rintro e wz ⟨rfl, hbz⟩
                go_wp2_with fail
                go_roundw
                case rel => exact ⟨k2 + 1, by omega, by rw [hnext]; rfl, by go_num, chainT hbxy hbz⟩
                case measure => simp [intOf]; omega
            · have hkL : k2 = L := by omega
              subst hkL
              have h1 := HCNI.out
              rw [← List.take_of_length_le (l := r8) (i := k2) (by have := HL.out; omega)] at h1
              rw [h1]
              go_wp2_with fail
              go_roundw
              case rel => exact ⟨i + 1, by omega, by go_num, chainT hbI hbx⟩
              case measure => simp [intOf]; omega
        · have : i = N := by omega
          subst this
          have m6 : (L : Int) ≤ (i : Int) := by omega
          go_wp2_with fail
          go_ret
          exact ⟨rfl, below_next hB4 hb2⟩
theorem walk_CanonOrder (a0 : Option Addr) (zs : List Lab.St) (n c : Nat) (tu : Int) (m : Int) (w : World) (hn : zs.length = n) (hA : Lab.StAt a0 zs w) (hF : ∀ z ∈ zs, Lab.StFit z) (hlc : n ≤ c) (_hmax : c ≤ maxLen) (htu : (Lit.int .u8 tu).wf = true) (hm : w.cell? ⟨0, 0, none⟩ = some (.int .i64 m)) :
    Calls Tryz.prog 4 #[.slice a0 n c, .int .u8 tu] w fun e w' => e = .returned (.bool true) ∧ Below w.heap.size w w' := by
  obtain ⟨e1, h1⟩ := row.wf_u8 htu
  rw [e1]
  exact order_nat a0 zs n c _ m w hn hA hF hlc h1 hm
end Go.Proofs.YthnaninhbofeoaaGreatDoor
