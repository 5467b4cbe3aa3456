/- The walk of 'targets', where its bounds hold. (Printed by gen_targ.py.) -/
import Derived.Test.YthnaninhbofeoaaGreatDoorTargA
import Derived.Deep.RegionHeld3
namespace Go.Proofs.YthnaninhbofeoaaGreatDoor
open Go.RowKit

set_option maxHeartbeats 6400000 in
set_option maxRecDepth 100000 in
theorem ctargets_near (aj : ByteArray) (ap : Option Addr) (al : List Lab.L) (an ac : Nat) (bj : ByteArray) (bp : Option Addr) (bl : List Lab.L) (bn bc : Nat) (s : ByteArray) (m : Int) (w : World) (hna : al.length = an) (hnb : bl.length = bn) (hA : Lab.At ap al w) (hB : Lab.At bp bl w) (hp : ap = none → ac = 0)
    (hs : s.size ≤ 3000) (hja : aj.size ≤ 300) (hjb : bj.size ≤ 300) (hm : w.cell? ⟨0, 0, none⟩ = some (.int .i64 m)) (h1 : Can.short al = true) (h2 : Can.short bl = true) :
    Calls Tryz.prog 16 #[.agg #[.string aj, .slice ap an ac], .agg #[.string bj, .slice bp bn bc], .string s] w fun e w' => e = .returned (.bool true) ∧ Below w.heap.size w w' := by
  have KA : Hid (∀ w' : World, Below (w.heap.size + 2) ((w.alloc (.cells #[.string aj, .slice ap an ac] 37)).alloc (.cells #[.string bj, .slice bp bn bc] 37)) w' → (w'.cell? ⟨w.heap.size, 0, none⟩ = some (.string aj) ∧ w'.cell? ⟨w.heap.size, 1, none⟩ = some (.slice ap an ac)) ∧ (w'.cell? ⟨w.heap.size + 1, 0, none⟩ = some (.string bj) ∧ w'.cell? ⟨w.heap.size + 1, 1, none⟩ = some (.slice bp bn bc)) ∧ Lab.At ap al w' ∧ Lab.At bp bl w' ∧ w'.cell? ⟨0, 0, none⟩ = some (.int .i64 m)) := by
    show ∀ w' : World, _
    intro w' h
    have tb := two_boxes w (.cells #[.string aj, .slice ap an ac] 37) (.cells #[.string bj, .slice bp bn bc] 37)
    have hsz : ((w.alloc (.cells #[.string aj, .slice ap an ac] 37)).alloc (.cells #[.string bj, .slice bp bn bc] 37)).heap.size = w.heap.size + 2 := by simp
    refine ⟨box_cells (below_kept h tb.1 (by omega)), box_cells (below_kept h tb.2 (by omega)), ((hA.alloc _).alloc _).below h (by omega), ((hB.alloc _).alloc _).below h (by omega), cell_later h (cell_later (((Below.refl _ _).alloc (Nat.le_refl _) _).alloc (by simp) _) hm (Nat.le_refl _)) (by omega)⟩
  have hW0 : Below w.heap.size w ((w.alloc (.cells #[.string aj, .slice ap an ac] 37)).alloc (.cells #[.string bj, .slice bp bn bc] 37)) := ((Below.refl _ _).alloc (Nat.le_refl _) _).alloc (by simp) _
  obtain ⟨h70a, hFa⟩ := Can.short_fit al h1
  obtain ⟨h70b, hFb⟩ := Can.short_fit bl h2
  rw [hna] at h70a
  rw [hnb] at h70b
  have more : ∀ l : List Lab.L, Lab.Fit 1100 l → Lab.Fit maxLen l := fun l h x hx => by have := h x hx; unfold maxLen; omega
  have HSa := Lib.hid (fun w hA => short_is ap al an ac true h1 w hna hA (more _ hFa) (by unfold maxLen; omega))
  have HSb := Lib.hid (fun w hB => short_is bp bl bn bc true h2 w hnb hB (more _ hFb) (by unfold maxLen; omega))
  obtain ⟨⟨k, er⟩, hk⟩ : ∃ q, Can.key (Lab.bs aj) al = q := ⟨_, rfl⟩
  have hkl := Can.key_len aj al (by omega) hFa (by omega)
  rw [hk] at hkl
  dsimp only at hkl
  obtain ⟨S, hS⟩ : ∃ S, ByteArray.mk k.toArray = S := ⟨_, rfl⟩
  have hSz : S.size = k.length := by rw [← hS]; exact List.size_toArray
  have hSd : S.data.toList = k := by rw [← hS]
  obtain ⟨t, ht⟩ : ∃ t, (if er = 0 then Can.sum 14695981039346656037 k else 0) = t := ⟨_, rfl⟩
  obtain ⟨⟨jr, lr, e2⟩, hread⟩ : ∃ q, Can.readKey s = q := ⟨_, rfl⟩
  have hlr : lr.length ≤ 1000000 := by
    have h := Can.readKey_len s
    rw [hread] at h
    dsimp only at h
    omega
  obtain ⟨⟨r, e3⟩, hcmp⟩ : ∃ q, Can.cmp ⟨aj, ap, an, ac, al⟩ ⟨bj, bp, bn, bc, bl⟩ = q := ⟨_, rfl⟩
  obtain ⟨jq, hjq⟩ : ∃ jq, Can.job aj.data.toList = jq := ⟨_, rfl⟩
  obtain ⟨N, hNN⟩ : ∃ N, lr.length = N := ⟨_, rfl⟩
  have H1 := Lib.hid (fun w hA => lent_is ap al an ac w hna hA hp (by omega))
  have H2 := Lib.hid (fun p c w hA => ckey_is aj p al an c k er hk w hna hA hFa h70a (by omega))
  have H3 := Lib.hid (fun p c w hA => ckeyprint_is aj p al an c k er hk t ht w hna hA hFa h70a (by omega) (by omega))
  have H4 := Lib.hid (fun w hA => rkey_is aj ap al an ac k er hk w hna hA hFa h70a (by omega))
  have H6 := Lib.hid (fun m w hm => creadkey_is s jr lr e2 hread m w hm (by omega))
  have H7 := Lib.hid (fun w => rreadkey_is s jr lr e2 hread w (by omega))
  have fb : Can.TFit ⟨bj, bp, bn, bc, bl⟩ := ⟨hnb, h70b, hFb, (show bj.size ≤ 1000000 by omega)⟩
  have HC := Lib.hid (fun p c w hA hB => ccompare_is ⟨aj, p, an, c, al⟩ ⟨bj, bp, bn, bc, bl⟩ r e3 hcmp w hA hB ⟨hna, h70a, hFa, (show aj.size ≤ 1000000 by omega)⟩ fb)
  have HD := Lib.hid (fun w hA hB => rcompare_is ⟨aj, ap, an, ac, al⟩ ⟨bj, bp, bn, bc, bl⟩ r e3 hcmp w hA hB ⟨hna, h70a, hFa, (show aj.size ≤ 1000000 by omega)⟩ fb)
  have HJ1 := Lib.hid (fun w => cjob_is aj jq hjq w (by unfold maxLen; omega))
  have HJ2 := Lib.hid (fun w => rjob_is aj jq hjq w (by omega))
  have HSt := Lib.hid (fun p1 p2 c1 c2 w hA hB => sametarget_true jr p1 p2 lr N c1 c2 w hNN hA hB (by unfold maxLen; omega))
  have HKp := Lib.hid (fun g cap B w hA hO => kept_true g cap ap al an ac B w hna hA (by omega) hO)
  have hS9 : er = 0 → Hid (∀ w, Calls Tryz.prog 41 #[.string S] w fun e W' => e = .returned (.int .u64 (t : Int)) ∧ w = W') := fun h0 w => rsum_is S (by unfold maxLen; omega) t (by rw [hSd, ← ht, if_pos h0]) w
  rw [hS] at H2 H4
  have htz : er ≠ 0 → t = 0 := fun h0 => by rw [← ht, if_neg h0]
  have HN := Lib.hid hna
  have HNN := Lib.hid hNN
  have i1 : (s.size : Int) ≤ 3000 := by omega
  have i2 : (aj.size : Int) ≤ 300 := by omega
  have i3 : (bj.size : Int) ≤ 300 := by omega
  have q1 : (S.toList == S.toList) = true := by simp
  have q3 : (jq == jq) = true := by simp
  have hx := jr.size
  clear hx h1 h2 hna hnb hB hm hp h70a h70b hFa hFb more hk hkl hS hSz hSd ht hread hlr hcmp hjq hNN fb
  by_cases h0 : er = 0
  · have HS9 := hS9 h0
    subst h0
    clear hS9 htz
    go_enter Tryz.func16, Tryz.ntmps16
    go_wp2_with (go_at_call 26; refine (HSa.out _ ((hA.alloc _).alloc _)).mono ?_)
    first | rintro e w1 rfl hb1 | rintro e w1 ⟨rfl, hb1⟩
    have hB1 : Below (w.heap.size + 2) ((w.alloc (.cells #[.string aj, .slice ap an ac] 37)).alloc (.cells #[.string bj, .slice bp bn bc] 37)) w1 := by first | exact hb1 | (simpa using hb1)
    obtain ⟨⟨a0, a1⟩, ⟨b0, b1⟩, lA, lB, m0⟩ := KA.out _ hB1
    go_wp2_with (go_at_call 26; refine (HSb.out _ lB).mono ?_)
    first | rintro e w2 rfl hb2 | rintro e w2 ⟨rfl, hb2⟩
    have hB2 := below_chain hB1 (by simp) hb2
    clear a0 a1 b0 b1 lA lB m0
    obtain ⟨⟨a0, a1⟩, ⟨b0, b1⟩, lA, lB, m0⟩ := KA.out _ hB2
    go_wp2_with (go_at_call 39; refine (H1.out _ lA).mono ?_)
    first | rintro e w3 g cap rfl hO3 hb3 | rintro e w3 ⟨⟨g, cap, rfl, hO3⟩, hb3⟩
    have hB3 := below_chain hB2 (by simp) hb3
    have hO3 := row_lift hO3 (show w.heap.size ≤ w2.heap.size by have := hB2.size; simp at this; omega)
    clear a0 a1 b0 b1 lA lB m0
    obtain ⟨⟨a0, a1⟩, ⟨b0, b1⟩, lA, lB, m0⟩ := KA.out _ hB3
    have KT : Hid (∀ w' : World, Below (w3.heap.size + 1) (w3.alloc (.cells #[.string aj, .slice (some ⟨g, 0, none⟩) an cap] 37)) w' → ((w'.cell? ⟨w.heap.size, 0, none⟩ = some (.string aj) ∧ w'.cell? ⟨w.heap.size, 1, none⟩ = some (.slice ap an ac)) ∧ (w'.cell? ⟨w.heap.size + 1, 0, none⟩ = some (.string bj) ∧ w'.cell? ⟨w.heap.size + 1, 1, none⟩ = some (.slice bp bn bc)) ∧ Lab.At ap al w' ∧ Lab.At bp bl w' ∧ w'.cell? ⟨0, 0, none⟩ = some (.int .i64 m)) ∧ (w'.cell? ⟨w3.heap.size, 0, none⟩ = some (.string aj) ∧ w'.cell? ⟨w3.heap.size, 1, none⟩ = some (.slice (some ⟨g, 0, none⟩) an cap)) ∧ OwnLabels w.heap.size (.slice (some ⟨g, 0, none⟩) (an + 3) cap) (al ++ Mark.some 3) w' ∧ Lab.At (some ⟨g, 0, none⟩) al w') := by
      show ∀ w' : World, _
      intro w' h
      have h2 : Below (w.heap.size + 2) ((w.alloc (.cells #[.string aj, .slice ap an ac] 37)).alloc (.cells #[.string bj, .slice bp bn bc] 37)) w' := (hB3.alloc (by have := hB3.size; simp at this; omega) _).trans (h.mono (by have := hB3.size; simp at this; omega))
      have h3 : OwnLabels w.heap.size (.slice (some ⟨g, 0, none⟩) (an + 3) cap) (al ++ Mark.some 3) w' := row_below (World.ownsRow.alloc hO3 _) h (by simp)
      refine ⟨KA.out _ h2, box_cells (below_kept h (alloc_new w3 _) (by omega)), h3, ?_⟩
      obtain ⟨p', c', he, hAt, _, _⟩ := OwnLabels.open h3
      rw [List.length_append, Mark.some_length, HN.out] at he
      cases he
      exact hAt.take
    have lT0 : Lab.At (some ⟨g, 0, none⟩) al (w3.alloc (.cells #[.string aj, .slice (some ⟨g, 0, none⟩) an cap] 37)) := (KT.out _ (Below.refl _ _)).2.2.2
    clear hO3
    go_wp2_with (go_at_call 21; refine (H2.out _ _ _ lT0).mono ?_)
    first | rintro e w4 rfl hb4 | rintro e w4 ⟨rfl, hb4⟩
    have hT4 : Below (w3.heap.size + 1) (w3.alloc (.cells #[.string aj, .slice (some ⟨g, 0, none⟩) an cap] 37)) w4 := by first | exact hb4 | (simpa using hb4)
    clear lT0 hb4
    clear a0 a1 b0 b1 lA lB m0
    obtain ⟨⟨⟨a0, a1⟩, ⟨b0, b1⟩, lA, lB, m0⟩, ⟨t0, t1⟩, oT, lT⟩ := KT.out _ hT4
    go_wp2_with (go_at_call 22; refine (H3.out _ _ _ lT).mono ?_)
    first | rintro e w5 rfl hb5 | rintro e w5 ⟨rfl, hb5⟩
    have hT5 := below_chain hT4 (by simp) hb5
    clear a0 a1 b0 b1 lA lB m0 t0 t1 oT lT
    obtain ⟨⟨⟨a0, a1⟩, ⟨b0, b1⟩, lA, lB, m0⟩, ⟨t0, t1⟩, oT, lT⟩ := KT.out _ hT5
    go_wp2_with (go_at_call 44; refine (H4.out _ lA).mono ?_)
    first | rintro e w6 rfl hb6 | rintro e w6 ⟨rfl, hb6⟩
    have hT6 := below_chain hT5 (by simp) hb6
    clear a0 a1 b0 b1 lA lB m0 t0 t1 oT lT
    obtain ⟨⟨⟨a0, a1⟩, ⟨b0, b1⟩, lA, lB, m0⟩, ⟨t0, t1⟩, oT, lT⟩ := KT.out _ hT6
    go_wp2_with (go_at_call 41; refine (HS9.out _).mono ?_)
    try rintro e w7 ⟨rfl, rfl⟩
    go_wp2_with (go_at_call 25; refine (H6.out _ _ m0).mono ?_)
    first | rintro e w7 vx rfl hX hb7 | rintro e w7 ⟨⟨vx, rfl, hX⟩, hb7⟩
    have hT7 := below_chain hT6 (by simp) hb7
    obtain ⟨px, cx, rfl, hAx, _, _⟩ := OwnLabels.open hX
    rw [HNN.out]
    clear a0 a1 b0 b1 lA lB m0 t0 t1 oT lT
    have KX : Hid (∀ w' : World, Below (w7.heap.size + 1) (w7.alloc (.cells #[.string jr, .slice px N cx] 37)) w' → (((w'.cell? ⟨w.heap.size, 0, none⟩ = some (.string aj) ∧ w'.cell? ⟨w.heap.size, 1, none⟩ = some (.slice ap an ac)) ∧ (w'.cell? ⟨w.heap.size + 1, 0, none⟩ = some (.string bj) ∧ w'.cell? ⟨w.heap.size + 1, 1, none⟩ = some (.slice bp bn bc)) ∧ Lab.At ap al w' ∧ Lab.At bp bl w' ∧ w'.cell? ⟨0, 0, none⟩ = some (.int .i64 m)) ∧ (w'.cell? ⟨w3.heap.size, 0, none⟩ = some (.string aj) ∧ w'.cell? ⟨w3.heap.size, 1, none⟩ = some (.slice (some ⟨g, 0, none⟩) an cap)) ∧ OwnLabels w.heap.size (.slice (some ⟨g, 0, none⟩) (an + 3) cap) (al ++ Mark.some 3) w' ∧ Lab.At (some ⟨g, 0, none⟩) al w') ∧ (w'.cell? ⟨w7.heap.size, 0, none⟩ = some (.string jr) ∧ w'.cell? ⟨w7.heap.size, 1, none⟩ = some (.slice px N cx)) ∧ Lab.At px lr w') := by
      show ∀ w' : World, _
      intro w' h
      have hsz := hT7.size
      simp only [World.size_alloc] at hsz
      have h2 : Below (w3.heap.size + 1) (w3.alloc (.cells #[.string aj, .slice (some ⟨g, 0, none⟩) an cap] 37)) w' := (hT7.alloc hsz _).trans (h.mono (by omega))
      exact ⟨KT.out _ h2, box_cells (below_kept h (alloc_new w7 _) (by omega)), (hAx.alloc _).below h (by simp)⟩
    clear hX hAx
    go_wp2_with (go_at_call 45; refine (H7.out _).mono ?_)
    first | rintro e w8 vy rfl hY hb8 | rintro e w8 ⟨⟨vy, rfl, hY⟩, hb8⟩
    have hX8 : Below (w7.heap.size + 1) (w7.alloc (.cells #[.string jr, .slice px N cx] 37)) w8 := by first | exact hb8 | (simpa using hb8)
    clear hb8
    obtain ⟨py, cy, rfl, hAy, _, _⟩ := OwnLabels.open hY
    rw [HNN.out]
    have KY : Hid (∀ w' : World, Below (w8.heap.size + 1) (w8.alloc (.cells #[.string jr, .slice py N cy] 37)) w' → ((((w'.cell? ⟨w.heap.size, 0, none⟩ = some (.string aj) ∧ w'.cell? ⟨w.heap.size, 1, none⟩ = some (.slice ap an ac)) ∧ (w'.cell? ⟨w.heap.size + 1, 0, none⟩ = some (.string bj) ∧ w'.cell? ⟨w.heap.size + 1, 1, none⟩ = some (.slice bp bn bc)) ∧ Lab.At ap al w' ∧ Lab.At bp bl w' ∧ w'.cell? ⟨0, 0, none⟩ = some (.int .i64 m)) ∧ (w'.cell? ⟨w3.heap.size, 0, none⟩ = some (.string aj) ∧ w'.cell? ⟨w3.heap.size, 1, none⟩ = some (.slice (some ⟨g, 0, none⟩) an cap)) ∧ OwnLabels w.heap.size (.slice (some ⟨g, 0, none⟩) (an + 3) cap) (al ++ Mark.some 3) w' ∧ Lab.At (some ⟨g, 0, none⟩) al w') ∧ (w'.cell? ⟨w7.heap.size, 0, none⟩ = some (.string jr) ∧ w'.cell? ⟨w7.heap.size, 1, none⟩ = some (.slice px N cx)) ∧ Lab.At px lr w') ∧ (w'.cell? ⟨w8.heap.size, 0, none⟩ = some (.string jr) ∧ w'.cell? ⟨w8.heap.size, 1, none⟩ = some (.slice py N cy)) ∧ Lab.At py lr w') := by
      show ∀ w' : World, _
      intro w' h
      have hsz := hX8.size
      simp only [World.size_alloc] at hsz
      have h2 : Below (w7.heap.size + 1) (w7.alloc (.cells #[.string jr, .slice px N cx] 37)) w' := (hX8.alloc hsz _).trans (h.mono (by omega))
      exact ⟨KX.out _ h2, box_cells (below_kept h (alloc_new w8 _) (by omega)), (hAy.alloc _).below h (by simp)⟩
    clear hY hAy
    obtain ⟨⟨⟨⟨a0, a1⟩, ⟨b0, b1⟩, lA, lB, m0⟩, ⟨t0, t1⟩, oT, lT⟩, ⟨x0, x1⟩, lX⟩ := (KY.out _ (Below.refl _ _)).1
    go_wp2_with (go_at_call 12; refine (HC.out _ _ _ lT lB).mono ?_)
    first | rintro e w9 rfl hb9 | rintro e w9 ⟨rfl, hb9⟩
    have hY9 : Below (w8.heap.size + 1) (w8.alloc (.cells #[.string jr, .slice py N cy] 37)) w9 := by first | exact hb9 | (simpa using hb9)
    clear hb9
    clear a0 a1 b0 b1 lA lB m0 t0 t1 oT lT x0 x1 lX
    obtain ⟨⟨⟨⟨a0, a1⟩, ⟨b0, b1⟩, lA, lB, m0⟩, ⟨t0, t1⟩, oT, lT⟩, ⟨x0, x1⟩, lX⟩ := (KY.out _ hY9).1
    go_wp2_with (go_at_call 46; refine (HD.out _ lA lB).mono ?_)
    first | rintro e w10 rfl hb10 | rintro e w10 ⟨rfl, hb10⟩
    have hY10 := below_chain hY9 (by simp) hb10
    clear a0 a1 b0 b1 lA lB m0 t0 t1 oT lT x0 x1 lX
    go_wp2_with fail
    have HCells : Hid (∀ w' : World, Below (w8.heap.size + 1) (w8.alloc (.cells #[.string jr, .slice py N cy] 37)) w' → w'.cell? ⟨w.heap.size, 0, none⟩ = some (.string aj) ∧ w'.cell? ⟨w.heap.size, 1, none⟩ = some (.slice ap an ac) ∧ w'.cell? ⟨w7.heap.size, 0, none⟩ = some (.string jr) ∧ w'.cell? ⟨w7.heap.size, 1, none⟩ = some (.slice px N cx) ∧ w'.cell? ⟨w8.heap.size, 0, none⟩ = some (.string jr) ∧ w'.cell? ⟨w8.heap.size, 1, none⟩ = some (.slice py N cy) ∧ Below (w8.heap.size + 1) (w8.alloc (.cells #[.string jr, .slice py N cy] 37)) w') := by
      show ∀ w' : World, _
      intro w' h
      obtain ⟨⟨⟨⟨⟨a0, a1⟩, _⟩, _⟩, ⟨x0, x1⟩, _⟩, ⟨y0, y1⟩, _⟩ := KY.out _ h
      exact ⟨a0, a1, x0, x1, y0, y1, h⟩
    have HSt15 : Hid (∀ w' : World, Below (w8.heap.size + 1) (w8.alloc (.cells #[.string jr, .slice py N cy] 37)) w' → Calls Tryz.prog 13 #[.agg #[.string jr, .slice px N cx], .agg #[.string jr, .slice py N cy]] w' fun e w'' => e = .returned (.bool true) ∧ Below w'.heap.size w' w'') := by
      show ∀ w' : World, _
      intro w' h
      obtain ⟨⟨_, ⟨_, _⟩, lX⟩, ⟨_, _⟩, lY⟩ := KY.out _ h
      exact HSt.out _ _ _ _ _ lX lY
    have HKp15 : Hid (∀ w' : World, Below (w8.heap.size + 1) (w8.alloc (.cells #[.string jr, .slice py N cy] 37)) w' → Calls Tryz.prog 43 #[.slice (some ⟨g, 0, none⟩) an cap, .slice ap an ac] w' fun e w'' => e = .returned (.bool true) ∧ Below w'.heap.size w' w'') := by
      show ∀ w' : World, _
      intro w' h
      obtain ⟨⟨⟨⟨_, _, lA, _, _⟩, _, oT, _⟩, _⟩, _⟩ := KY.out _ h
      exact HKp.out _ _ _ _ lA oT
    have hBall : Hid (∀ w' : World, Below (w8.heap.size + 1) (w8.alloc (.cells #[.string jr, .slice py N cy] 37)) w' → Below w.heap.size w w') := by
      show ∀ w' : World, _
      intro w' h
      have s0 := hB3.size
      have s1 := hT7.size
      have s2 := hX8.size
      simp only [World.size_alloc] at s0 s1 s2
      have x1 := (hX8.alloc s2 _).trans (h.mono (by omega))
      have x2 := (hT7.alloc s1 _).trans (x1.mono (by omega))
      have x3 := (hB3.alloc (by omega) _).trans (x2.mono (by omega))
      exact hW0.trans (x3.mono (by omega))
    clear KA KT KX KY hW0 hA
    obtain ⟨s0, s1, s2, s3, s4, s5, s6⟩ := HCells.out _ hY10
    go_region_held3 (fun w' => w'.cell? ⟨w.heap.size, 0, none⟩ = some (.string aj) ∧ w'.cell? ⟨w.heap.size, 1, none⟩ = some (.slice ap an ac) ∧ w'.cell? ⟨w7.heap.size, 0, none⟩ = some (.string jr) ∧ w'.cell? ⟨w7.heap.size, 1, none⟩ = some (.slice px N cx) ∧ w'.cell? ⟨w8.heap.size, 0, none⟩ = some (.string jr) ∧ w'.cell? ⟨w8.heap.size, 1, none⟩ = some (.slice py N cy) ∧ Below (w8.heap.size + 1) (w8.alloc (.cells #[.string jr, .slice py N cy] 37)) w')
      (first
        | exact HCells.out _ (below_chain (by go_split_ands; assumption) (by simp) hb3)
        | exact HCells.out _ hY10.drew
        | exact HCells.out _ (hY10.drew _)
        | go_keep)
      ((first
        | (go_at_call 47; refine (HJ1.out _).mono ?_; rintro e w' ⟨rfl, rfl⟩)
        | (go_at_call 48; refine (HJ2.out _).mono ?_; rintro e w' ⟨rfl, hb3⟩)
        | (go_at_call 13; refine (HSt15.out _ (by go_split_ands; assumption)).mono ?_; rintro e w' ⟨rfl, hb3⟩)
        | (go_at_call 43; refine (HKp15.out _ (by go_split_ands; assumption)).mono ?_; rintro e w' ⟨rfl, hb3⟩)))
    all_goals
      go_wp2_with fail
      go_ret
      exact ⟨rfl, hBall.out _ (by go_split_ands; assumption)⟩
  · have q2 : (er == 0) = false := by simpa using h0
    obtain rfl : t = 0 := htz h0
    clear hS9 htz h0
    go_enter Tryz.func16, Tryz.ntmps16
    go_wp2_with (go_at_call 26; refine (HSa.out _ ((hA.alloc _).alloc _)).mono ?_)
    first | rintro e w1 rfl hb1 | rintro e w1 ⟨rfl, hb1⟩
    have hB1 : Below (w.heap.size + 2) ((w.alloc (.cells #[.string aj, .slice ap an ac] 37)).alloc (.cells #[.string bj, .slice bp bn bc] 37)) w1 := by first | exact hb1 | (simpa using hb1)
    obtain ⟨⟨a0, a1⟩, ⟨b0, b1⟩, lA, lB, m0⟩ := KA.out _ hB1
    go_wp2_with (go_at_call 26; refine (HSb.out _ lB).mono ?_)
    first | rintro e w2 rfl hb2 | rintro e w2 ⟨rfl, hb2⟩
    have hB2 := below_chain hB1 (by simp) hb2
    clear a0 a1 b0 b1 lA lB m0
    obtain ⟨⟨a0, a1⟩, ⟨b0, b1⟩, lA, lB, m0⟩ := KA.out _ hB2
    go_wp2_with (go_at_call 39; refine (H1.out _ lA).mono ?_)
    first | rintro e w3 g cap rfl hO3 hb3 | rintro e w3 ⟨⟨g, cap, rfl, hO3⟩, hb3⟩
    have hB3 := below_chain hB2 (by simp) hb3
    have hO3 := row_lift hO3 (show w.heap.size ≤ w2.heap.size by have := hB2.size; simp at this; omega)
    clear a0 a1 b0 b1 lA lB m0
    obtain ⟨⟨a0, a1⟩, ⟨b0, b1⟩, lA, lB, m0⟩ := KA.out _ hB3
    have KT : Hid (∀ w' : World, Below (w3.heap.size + 1) (w3.alloc (.cells #[.string aj, .slice (some ⟨g, 0, none⟩) an cap] 37)) w' → ((w'.cell? ⟨w.heap.size, 0, none⟩ = some (.string aj) ∧ w'.cell? ⟨w.heap.size, 1, none⟩ = some (.slice ap an ac)) ∧ (w'.cell? ⟨w.heap.size + 1, 0, none⟩ = some (.string bj) ∧ w'.cell? ⟨w.heap.size + 1, 1, none⟩ = some (.slice bp bn bc)) ∧ Lab.At ap al w' ∧ Lab.At bp bl w' ∧ w'.cell? ⟨0, 0, none⟩ = some (.int .i64 m)) ∧ (w'.cell? ⟨w3.heap.size, 0, none⟩ = some (.string aj) ∧ w'.cell? ⟨w3.heap.size, 1, none⟩ = some (.slice (some ⟨g, 0, none⟩) an cap)) ∧ OwnLabels w.heap.size (.slice (some ⟨g, 0, none⟩) (an + 3) cap) (al ++ Mark.some 3) w' ∧ Lab.At (some ⟨g, 0, none⟩) al w') := by
      show ∀ w' : World, _
      intro w' h
      have h2 : Below (w.heap.size + 2) ((w.alloc (.cells #[.string aj, .slice ap an ac] 37)).alloc (.cells #[.string bj, .slice bp bn bc] 37)) w' := (hB3.alloc (by have := hB3.size; simp at this; omega) _).trans (h.mono (by have := hB3.size; simp at this; omega))
      have h3 : OwnLabels w.heap.size (.slice (some ⟨g, 0, none⟩) (an + 3) cap) (al ++ Mark.some 3) w' := row_below (World.ownsRow.alloc hO3 _) h (by simp)
      refine ⟨KA.out _ h2, box_cells (below_kept h (alloc_new w3 _) (by omega)), h3, ?_⟩
      obtain ⟨p', c', he, hAt, _, _⟩ := OwnLabels.open h3
      rw [List.length_append, Mark.some_length, HN.out] at he
      cases he
      exact hAt.take
    have lT0 : Lab.At (some ⟨g, 0, none⟩) al (w3.alloc (.cells #[.string aj, .slice (some ⟨g, 0, none⟩) an cap] 37)) := (KT.out _ (Below.refl _ _)).2.2.2
    clear hO3
    go_wp2_with (go_at_call 21; refine (H2.out _ _ _ lT0).mono ?_)
    first | rintro e w4 rfl hb4 | rintro e w4 ⟨rfl, hb4⟩
    have hT4 : Below (w3.heap.size + 1) (w3.alloc (.cells #[.string aj, .slice (some ⟨g, 0, none⟩) an cap] 37)) w4 := by first | exact hb4 | (simpa using hb4)
    clear lT0 hb4
    clear a0 a1 b0 b1 lA lB m0
    obtain ⟨⟨⟨a0, a1⟩, ⟨b0, b1⟩, lA, lB, m0⟩, ⟨t0, t1⟩, oT, lT⟩ := KT.out _ hT4
    go_wp2_with (go_at_call 22; refine (H3.out _ _ _ lT).mono ?_)
    first | rintro e w5 rfl hb5 | rintro e w5 ⟨rfl, hb5⟩
    have hT5 := below_chain hT4 (by simp) hb5
    clear a0 a1 b0 b1 lA lB m0 t0 t1 oT lT
    obtain ⟨⟨⟨a0, a1⟩, ⟨b0, b1⟩, lA, lB, m0⟩, ⟨t0, t1⟩, oT, lT⟩ := KT.out _ hT5
    go_wp2_with (go_at_call 44; refine (H4.out _ lA).mono ?_)
    first | rintro e w6 rfl hb6 | rintro e w6 ⟨rfl, hb6⟩
    have hT6 := below_chain hT5 (by simp) hb6
    clear a0 a1 b0 b1 lA lB m0 t0 t1 oT lT
    obtain ⟨⟨⟨a0, a1⟩, ⟨b0, b1⟩, lA, lB, m0⟩, ⟨t0, t1⟩, oT, lT⟩ := KT.out _ hT6
    go_wp2_with (go_at_call 25; refine (H6.out _ _ m0).mono ?_)
    first | rintro e w7 vx rfl hX hb7 | rintro e w7 ⟨⟨vx, rfl, hX⟩, hb7⟩
    have hT7 := below_chain hT6 (by simp) hb7
    obtain ⟨px, cx, rfl, hAx, _, _⟩ := OwnLabels.open hX
    rw [HNN.out]
    clear a0 a1 b0 b1 lA lB m0 t0 t1 oT lT
    have KX : Hid (∀ w' : World, Below (w7.heap.size + 1) (w7.alloc (.cells #[.string jr, .slice px N cx] 37)) w' → (((w'.cell? ⟨w.heap.size, 0, none⟩ = some (.string aj) ∧ w'.cell? ⟨w.heap.size, 1, none⟩ = some (.slice ap an ac)) ∧ (w'.cell? ⟨w.heap.size + 1, 0, none⟩ = some (.string bj) ∧ w'.cell? ⟨w.heap.size + 1, 1, none⟩ = some (.slice bp bn bc)) ∧ Lab.At ap al w' ∧ Lab.At bp bl w' ∧ w'.cell? ⟨0, 0, none⟩ = some (.int .i64 m)) ∧ (w'.cell? ⟨w3.heap.size, 0, none⟩ = some (.string aj) ∧ w'.cell? ⟨w3.heap.size, 1, none⟩ = some (.slice (some ⟨g, 0, none⟩) an cap)) ∧ OwnLabels w.heap.size (.slice (some ⟨g, 0, none⟩) (an + 3) cap) (al ++ Mark.some 3) w' ∧ Lab.At (some ⟨g, 0, none⟩) al w') ∧ (w'.cell? ⟨w7.heap.size, 0, none⟩ = some (.string jr) ∧ w'.cell? ⟨w7.heap.size, 1, none⟩ = some (.slice px N cx)) ∧ Lab.At px lr w') := by
      show ∀ w' : World, _
      intro w' h
      have hsz := hT7.size
      simp only [World.size_alloc] at hsz
      have h2 : Below (w3.heap.size + 1) (w3.alloc (.cells #[.string aj, .slice (some ⟨g, 0, none⟩) an cap] 37)) w' := (hT7.alloc hsz _).trans (h.mono (by omega))
      exact ⟨KT.out _ h2, box_cells (below_kept h (alloc_new w7 _) (by omega)), (hAx.alloc _).below h (by simp)⟩
    clear hX hAx
    go_wp2_with (go_at_call 45; refine (H7.out _).mono ?_)
    first | rintro e w8 vy rfl hY hb8 | rintro e w8 ⟨⟨vy, rfl, hY⟩, hb8⟩
    have hX8 : Below (w7.heap.size + 1) (w7.alloc (.cells #[.string jr, .slice px N cx] 37)) w8 := by first | exact hb8 | (simpa using hb8)
    clear hb8
    obtain ⟨py, cy, rfl, hAy, _, _⟩ := OwnLabels.open hY
    rw [HNN.out]
    have KY : Hid (∀ w' : World, Below (w8.heap.size + 1) (w8.alloc (.cells #[.string jr, .slice py N cy] 37)) w' → ((((w'.cell? ⟨w.heap.size, 0, none⟩ = some (.string aj) ∧ w'.cell? ⟨w.heap.size, 1, none⟩ = some (.slice ap an ac)) ∧ (w'.cell? ⟨w.heap.size + 1, 0, none⟩ = some (.string bj) ∧ w'.cell? ⟨w.heap.size + 1, 1, none⟩ = some (.slice bp bn bc)) ∧ Lab.At ap al w' ∧ Lab.At bp bl w' ∧ w'.cell? ⟨0, 0, none⟩ = some (.int .i64 m)) ∧ (w'.cell? ⟨w3.heap.size, 0, none⟩ = some (.string aj) ∧ w'.cell? ⟨w3.heap.size, 1, none⟩ = some (.slice (some ⟨g, 0, none⟩) an cap)) ∧ OwnLabels w.heap.size (.slice (some ⟨g, 0, none⟩) (an + 3) cap) (al ++ Mark.some 3) w' ∧ Lab.At (some ⟨g, 0, none⟩) al w') ∧ (w'.cell? ⟨w7.heap.size, 0, none⟩ = some (.string jr) ∧ w'.cell? ⟨w7.heap.size, 1, none⟩ = some (.slice px N cx)) ∧ Lab.At px lr w') ∧ (w'.cell? ⟨w8.heap.size, 0, none⟩ = some (.string jr) ∧ w'.cell? ⟨w8.heap.size, 1, none⟩ = some (.slice py N cy)) ∧ Lab.At py lr w') := by
      show ∀ w' : World, _
      intro w' h
      have hsz := hX8.size
      simp only [World.size_alloc] at hsz
      have h2 : Below (w7.heap.size + 1) (w7.alloc (.cells #[.string jr, .slice px N cx] 37)) w' := (hX8.alloc hsz _).trans (h.mono (by omega))
      exact ⟨KX.out _ h2, box_cells (below_kept h (alloc_new w8 _) (by omega)), (hAy.alloc _).below h (by simp)⟩
    clear hY hAy
    obtain ⟨⟨⟨⟨a0, a1⟩, ⟨b0, b1⟩, lA, lB, m0⟩, ⟨t0, t1⟩, oT, lT⟩, ⟨x0, x1⟩, lX⟩ := (KY.out _ (Below.refl _ _)).1
    go_wp2_with (go_at_call 12; refine (HC.out _ _ _ lT lB).mono ?_)
    first | rintro e w9 rfl hb9 | rintro e w9 ⟨rfl, hb9⟩
    have hY9 : Below (w8.heap.size + 1) (w8.alloc (.cells #[.string jr, .slice py N cy] 37)) w9 := by first | exact hb9 | (simpa using hb9)
    clear hb9
    clear a0 a1 b0 b1 lA lB m0 t0 t1 oT lT x0 x1 lX
    obtain ⟨⟨⟨⟨a0, a1⟩, ⟨b0, b1⟩, lA, lB, m0⟩, ⟨t0, t1⟩, oT, lT⟩, ⟨x0, x1⟩, lX⟩ := (KY.out _ hY9).1
    go_wp2_with (go_at_call 46; refine (HD.out _ lA lB).mono ?_)
    first | rintro e w10 rfl hb10 | rintro e w10 ⟨rfl, hb10⟩
    have hY10 := below_chain hY9 (by simp) hb10
    clear a0 a1 b0 b1 lA lB m0 t0 t1 oT lT x0 x1 lX
    go_wp2_with fail
    have HCells : Hid (∀ w' : World, Below (w8.heap.size + 1) (w8.alloc (.cells #[.string jr, .slice py N cy] 37)) w' → w'.cell? ⟨w.heap.size, 0, none⟩ = some (.string aj) ∧ w'.cell? ⟨w.heap.size, 1, none⟩ = some (.slice ap an ac) ∧ w'.cell? ⟨w7.heap.size, 0, none⟩ = some (.string jr) ∧ w'.cell? ⟨w7.heap.size, 1, none⟩ = some (.slice px N cx) ∧ w'.cell? ⟨w8.heap.size, 0, none⟩ = some (.string jr) ∧ w'.cell? ⟨w8.heap.size, 1, none⟩ = some (.slice py N cy) ∧ Below (w8.heap.size + 1) (w8.alloc (.cells #[.string jr, .slice py N cy] 37)) w') := by
      show ∀ w' : World, _
      intro w' h
      obtain ⟨⟨⟨⟨⟨a0, a1⟩, _⟩, _⟩, ⟨x0, x1⟩, _⟩, ⟨y0, y1⟩, _⟩ := KY.out _ h
      exact ⟨a0, a1, x0, x1, y0, y1, h⟩
    have HSt15 : Hid (∀ w' : World, Below (w8.heap.size + 1) (w8.alloc (.cells #[.string jr, .slice py N cy] 37)) w' → Calls Tryz.prog 13 #[.agg #[.string jr, .slice px N cx], .agg #[.string jr, .slice py N cy]] w' fun e w'' => e = .returned (.bool true) ∧ Below w'.heap.size w' w'') := by
      show ∀ w' : World, _
      intro w' h
      obtain ⟨⟨_, ⟨_, _⟩, lX⟩, ⟨_, _⟩, lY⟩ := KY.out _ h
      exact HSt.out _ _ _ _ _ lX lY
    have HKp15 : Hid (∀ w' : World, Below (w8.heap.size + 1) (w8.alloc (.cells #[.string jr, .slice py N cy] 37)) w' → Calls Tryz.prog 43 #[.slice (some ⟨g, 0, none⟩) an cap, .slice ap an ac] w' fun e w'' => e = .returned (.bool true) ∧ Below w'.heap.size w' w'') := by
      show ∀ w' : World, _
      intro w' h
      obtain ⟨⟨⟨⟨_, _, lA, _, _⟩, _, oT, _⟩, _⟩, _⟩ := KY.out _ h
      exact HKp.out _ _ _ _ lA oT
    have hBall : Hid (∀ w' : World, Below (w8.heap.size + 1) (w8.alloc (.cells #[.string jr, .slice py N cy] 37)) w' → Below w.heap.size w w') := by
      show ∀ w' : World, _
      intro w' h
      have s0 := hB3.size
      have s1 := hT7.size
      have s2 := hX8.size
      simp only [World.size_alloc] at s0 s1 s2
      have x1 := (hX8.alloc s2 _).trans (h.mono (by omega))
      have x2 := (hT7.alloc s1 _).trans (x1.mono (by omega))
      have x3 := (hB3.alloc (by omega) _).trans (x2.mono (by omega))
      exact hW0.trans (x3.mono (by omega))
    clear KA KT KX KY hW0 hA
    obtain ⟨s0, s1, s2, s3, s4, s5, s6⟩ := HCells.out _ hY10
    go_region_held3 (fun w' => w'.cell? ⟨w.heap.size, 0, none⟩ = some (.string aj) ∧ w'.cell? ⟨w.heap.size, 1, none⟩ = some (.slice ap an ac) ∧ w'.cell? ⟨w7.heap.size, 0, none⟩ = some (.string jr) ∧ w'.cell? ⟨w7.heap.size, 1, none⟩ = some (.slice px N cx) ∧ w'.cell? ⟨w8.heap.size, 0, none⟩ = some (.string jr) ∧ w'.cell? ⟨w8.heap.size, 1, none⟩ = some (.slice py N cy) ∧ Below (w8.heap.size + 1) (w8.alloc (.cells #[.string jr, .slice py N cy] 37)) w')
      (first
        | exact HCells.out _ (below_chain (by go_split_ands; assumption) (by simp) hb3)
        | exact HCells.out _ hY10.drew
        | exact HCells.out _ (hY10.drew _)
        | go_keep)
      ((first
        | (go_at_call 47; refine (HJ1.out _).mono ?_; rintro e w' ⟨rfl, rfl⟩)
        | (go_at_call 48; refine (HJ2.out _).mono ?_; rintro e w' ⟨rfl, hb3⟩)
        | (go_at_call 13; refine (HSt15.out _ (by go_split_ands; assumption)).mono ?_; rintro e w' ⟨rfl, hb3⟩)
        | (go_at_call 43; refine (HKp15.out _ (by go_split_ands; assumption)).mono ?_; rintro e w' ⟨rfl, hb3⟩)))
    all_goals
      go_wp2_with fail
      go_ret
      exact ⟨rfl, hBall.out _ (by go_split_ands; assumption)⟩
end Go.Proofs.YthnaninhbofeoaaGreatDoor
