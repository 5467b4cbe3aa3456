/- Contracts of the reference's has, Filter and Without. Contract of the reference's Without. -/
import Derived.Test.YtbilaghljlobpaaGreatL5C
import Derived.Test.YtbilaghljlobpaaGreatL4J
namespace Go.Proofs.YtbilaghljlobpaaGreat
open Go.RowKit

set_option maxHeartbeats 1600000 in
set_option maxRecDepth 100000 in
theorem rhas_is (p : Option Addr) (xs : List ByteArray) (n c : Nat) (s : ByteArray) (b : Bool) (h : Lab.has xs s = b) (w : World) (hn : xs.length = n) (hA : Txt.At p xs w) (hl : n ≤ 100000) :
    Calls Tryz.prog 80 #[.slice p n c, .string s] w fun e w' => e = .returned (.bool b) ∧ w = w' := by
  have HN := Lib.hid hn
  have HD := Lib.hid (Lab.has_drop xs s)
  have H0 : Hid (Lab.has (xs.drop 0) s = b) := h
  have HA := Lib.hid hA
  clear hn h hA
  go_enter Tryz.func80, Tryz.ntmps80
  go_wp2_with fail
  go_loop [5] (fun i => ∃ k : Nat, k ≤ n ∧ i = .int .i64 (k : Int) ∧ Hid (Lab.has (xs.drop k) s = b)) (fun i => n - (intOf i).toNat)
  case atStart => exact ⟨0, Nat.zero_le _, rfl, H0⟩
  case round =>
    obtain ⟨k, hk, rfl, HK⟩ := hrel
    by_cases hlt : k < n
    · have hkl : k < xs.length := by rw [HN.out]; exact hlt
      obtain ⟨bb, o, rfl, hc⟩ := HA.out.open k hkl
      have hst := HK.out
      rw [HD.out k hkl] at hst
      have c0 := hc k hkl
      obtain ⟨x, hx⟩ : ∃ x, xs[k] = x := ⟨_, rfl⟩
      rw [hx] at c0 hst
      obtain ⟨bq, hbq⟩ : ∃ bq, decide (Lab.bs s = Lab.bs x) = bq := ⟨_, rfl⟩
      have q1 : (x.toList == s.toList) = bq := by
        rw [← hbq, Lab.bytes_beq]
        by_cases e : Lab.bs s = Lab.bs x
        · rw [decide_eq_true e, decide_eq_true e.symm]
        · rw [decide_eq_false e, decide_eq_false (fun h => e h.symm)]
      rw [hbq] at hst
      have n1 : (0 : Int) ≤ (k : Int) := by omega
      have n2 : (k : Int) < (n : Int) := by omega
      clear hx hc HK hbq
      cases bq
      · rw [Bool.false_or] at hst
        have HG := Lib.hid hst
        clear hst
        go_wp2_with fail
        go_round
        case rel => exact ⟨k + 1, by omega, by go_num, HG⟩
        case measure => simp [intOf]; omega
      · rw [Bool.true_or] at hst
        subst hst
        go_wp2_with fail
        go_ret
        exact ⟨rfl, rfl⟩
    · have hst := HK.out
      rw [List.drop_eq_nil_iff.2 (by rw [HN.out]; omega)] at hst
      have hst2 : false = b := hst
      have n2 : (n : Int) ≤ (k : Int) := by omega
      subst hst2
      clear HK H0 hst
      go_wp2_with fail
      go_ret
      exact ⟨rfl, rfl⟩

set_option maxHeartbeats 3200000 in
set_option maxRecDepth 100000 in
theorem rfilter_contract (f : ByteArray → Bool) (p p2 : Option Addr) (ls : List Lab.L) (xs : List ByteArray) (among : Bool) (hf : f = fun s => (Lab.has xs s == among)) (n c n2 c2 : Nat) (r : List Lab.L) (er : Int) (h : Lab.filt f ls = (r, er)) (w : World) (hn : ls.length = n) (hn2 : xs.length = n2) (hA : Lab.At p ls w) (hB : Txt.At p2 xs w) (hF : Lab.Fit maxLen ls) (hl : n ≤ 5000) (hl2 : n2 ≤ 5000) :
    Calls Tryz.prog 42 #[.slice p n c, .slice p2 n2 c2, .bool among] w fun e w' => (∃ v, e = .returned (.tuple #[v, .int .i64 er]) ∧ OwnLabels w.heap.size v r w') ∧ Below w.heap.size w w' := by
  obtain ⟨b, hb⟩ : ∃ b, Lab.right ls = b := ⟨_, rfl⟩
  have HRT := Lib.hid (rright_is p ls n c b hb w hn hA hF (by unfold maxLen; omega))
  unfold Lab.filt at h
  rw [hb] at h
  cases b
  · rw [if_neg (by simp)] at h
    simp only [Prod.mk.injEq] at h
    obtain ⟨rfl, rfl⟩ := h
    clear hb hn hn2 hA hB hF hf
    go_enter Tryz.func42, Tryz.ntmps42
    go_wp2_with (go_at_call 79; refine HRT.out.mono ?_)
    first | rintro e w1 rfl hb1 | rintro e w1 ⟨rfl, hb1⟩
    go_wp2_with fail
    go_ret2
    exact ⟨⟨_, rfl, OwnLabels.nil _ _⟩, hb1⟩
  rw [if_pos rfl] at h
  simp only [Prod.mk.injEq] at h
  obtain ⟨hr, rfl⟩ := h
  have HR := Lib.hid hr
  have HN := Lib.hid hn
  have HA := Lib.hid hA
  have HB := Lib.hid hB
  have HFF := Lib.hid hf
  have HTK := Lib.hid (Lab.filter_take ls f)
  have HHS := Lib.hid (fun s b h w hA => rhas_is p2 xs n2 c2 s b h w hn2 hA (by omega))
  clear hb hn hn2 hA hB hF hf hr
  go_enter Tryz.func42, Tryz.ntmps42
  go_wp2_with (go_at_call 79; refine HRT.out.mono ?_)
  first | rintro e w1 rfl hb1 | rintro e w1 ⟨rfl, hb1⟩
  clear HRT
  go_wp2_with fail
  go_loopw [9, 8] (fun i v wr => ∃ k : Nat, k ≤ n ∧ i = .int .i64 (k : Int) ∧ Hid (OwnLabels w.heap.size v ((ls.take k).filter fun x => f x.n) wr) ∧ Below w.heap.size w wr) (fun i _ _ => n - (intOf i).toNat)
  case atStart => exact ⟨0, Nat.zero_le _, rfl, OwnLabels.nil _ _, hb1⟩
  case round =>
    clear hb1
    obtain ⟨k, hk, rfl, HO, hb⟩ := hrel
    by_cases hlt : k < n
    · have hkl : k < ls.length := by rw [HN.out]; exact hlt
      obtain ⟨bb, o, rfl, hc⟩ := (HA.out.below hb (Nat.le_refl _)).open k hkl
      have c0 := (hc k hkl).1
      have c1 := (hc k hkl).2
      have htk := HTK.out k hkl
      obtain ⟨x, hx⟩ : ∃ x, ls[k] = x := ⟨_, rfl⟩
      rw [hx] at c0 c1 htk
      obtain ⟨hb2, hh⟩ : ∃ b, Lab.has xs x.n = b := ⟨_, rfl⟩
      have hfx : f x.n = (hb2 == among) := by
        rw [HFF.out]
        show (Lab.has xs x.n == among) = _
        rw [hh]
      obtain ⟨fb, hfb⟩ : ∃ b, (hb2 == among) = b := ⟨_, rfl⟩
      rw [hfb] at hfx
      rw [hfx] at htk
      have HH := Lib.hid (HHS.out x.n hb2 hh wr (HB.out.below hb (Nat.le_refl _)))
      have n1 : (0 : Int) ≤ (k : Int) := by omega
      have n3 : (k : Int) < (n : Int) := by omega
      have hll : ((ls.take k).filter fun x => f x.n).length ≤ k := by
        have := List.length_filter_le (fun x : Lab.L => f x.n) (ls.take k)
        rw [List.length_take] at this
        omega
      have HTK2 := Lib.hid htk
      clear hc hx hh hfx htk
      go_wp2_with (go_at_call 80; refine HH.out.mono ?_)
      try rintro _ _ ⟨rfl, rfl⟩
      cases fb
      · have HO2 : Hid (OwnLabels w.heap.size u8 ((ls.take (k + 1)).filter fun x => f x.n) wr) := by
          show OwnLabels _ _ _ _
          rw [HTK2.out, if_neg (by simp)]
          exact HO.out
        clear HH HTK2
        go_wp2_with fail
        go_roundw
        case rel => exact ⟨k + 1, by omega, by go_num, HO2, hb⟩
        case measure => simp [intOf]; omega
      · have hop := HO.out
        obtain ⟨L, hL⟩ : ∃ L, (ls.take k).filter (fun x => f x.n) = L := ⟨_, rfl⟩
        have e2 : ((ls.take (k + 1)).filter fun x => f x.n) = L ++ [x] := by rw [HTK2.out, if_pos rfl, hL]
        rw [hL] at hop hll
        have HE2 := Lib.hid e2
        clear HH HTK2 e2 hL
        go_wp2_with (at_builtin; refine wpList_pushL 24 Tryz.underlying24 rfl _ _ rfl _ _ _ _ rfl hop x _ _ rfl _ rfl (by simp) ?c1 ?c2 ?_)
        case c1 => omega
        case c2 => exact hb.size
        intro v9 w9 hown9 hg
        have hb9 := below_push _ hb hop hg
        have HO9 : Hid (OwnLabels w.heap.size v9 ((ls.take (k + 1)).filter fun x => f x.n) w9) := by
          show OwnLabels _ _ _ _
          rw [HE2.out]
          exact hown9
        clear hg hop hown9 c0 c1
        go_wp2_with fail
        go_roundw
        case rel => exact ⟨k + 1, by omega, by go_num, HO9, hb9⟩
        case measure => simp [intOf]; omega
    · have n3 : (n : Int) ≤ (k : Int) := by omega
      have hop := HO.out
      rw [List.take_of_length_le (by rw [HN.out]; omega), HR.out] at hop
      have HOP := Lib.hid hop
      clear hop HO
      go_wp2_with fail
      go_ret2
      exact ⟨⟨_, rfl, HOP.out⟩, hb⟩
end Go.Proofs.YtbilaghljlobpaaGreat
namespace Go.Proofs.YtbilaghljlobpaaGreat
open Go.RowKit

theorem Lab.prefix_test (s pf : ByteArray) (fb : Bool) (h : (fun s : ByteArray => !Lib.hasPrefix s.data.toList pf.data.toList) s = fb) :
    ((s.size : Int) < (pf.size : Int) ∧ fb = true) ∨ ((pf.size : Int) ≤ (s.size : Int) ∧ ((s.extract 0 pf.size).toList == pf.toList) = !fb ∧ ((s.extract 0 pf.size).toList != pf.toList) = fb) := by
  have h1 := Lib.hasPrefix_raw s pf
  dsimp only at h
  rw [← h1] at h
  by_cases hl : pf.size ≤ s.size
  · rw [decide_eq_true hl, Bool.true_and] at h
    exact .inr ⟨by omega, by rw [← h, Bool.not_not], h⟩
  · rw [decide_eq_false hl, Bool.false_and] at h
    exact .inl ⟨by omega, h.symm⟩
set_option maxHeartbeats 3200000 in
set_option maxRecDepth 100000 in
theorem rwithout_contract (f : ByteArray → Bool) (p : Option Addr) (ls : List Lab.L) (pf : ByteArray) (hf : f = fun s => !Lib.hasPrefix s.data.toList pf.data.toList) (n c : Nat) (r : List Lab.L) (er : Int) (h : Lab.filt f ls = (r, er)) (w : World) (hn : ls.length = n) (hA : Lab.At p ls w) (hF : Lab.Fit maxLen ls) (hl : n ≤ 5000) :
    Calls Tryz.prog 43 #[.slice p n c, .string pf] w fun e w' => (∃ v, e = .returned (.tuple #[v, .int .i64 er]) ∧ OwnLabels w.heap.size v r w') ∧ Below w.heap.size w w' := by
  obtain ⟨b, hb⟩ : ∃ b, Lab.right ls = b := ⟨_, rfl⟩
  have HRT := Lib.hid (rright_is p ls n c b hb w hn hA hF (by unfold maxLen; omega))
  unfold Lab.filt at h
  rw [hb] at h
  cases b
  · rw [if_neg (by simp)] at h
    simp only [Prod.mk.injEq] at h
    obtain ⟨rfl, rfl⟩ := h
    clear hb hn hA hF hf
    go_enter Tryz.func43, Tryz.ntmps43
    go_wp2_with (go_at_call 79; refine HRT.out.mono ?_)
    first | rintro e w1 rfl hb1 | rintro e w1 ⟨rfl, hb1⟩
    go_wp2_with fail
    go_ret2
    exact ⟨⟨_, rfl, OwnLabels.nil _ _⟩, hb1⟩
  rw [if_pos rfl] at h
  simp only [Prod.mk.injEq] at h
  obtain ⟨hr, rfl⟩ := h
  have HR := Lib.hid hr
  have HN := Lib.hid hn
  have HA := Lib.hid hA
  have HFF := Lib.hid hf
  have HTK := Lib.hid (Lab.filter_take ls f)
  have HFT := Lib.hid hF
  clear hb hn hA hF hf hr
  go_enter Tryz.func43, Tryz.ntmps43
  go_wp2_with (go_at_call 79; refine HRT.out.mono ?_)
  first | rintro e w1 rfl hb1 | rintro e w1 ⟨rfl, hb1⟩
  clear HRT
  go_wp2_with fail
  go_loopw [7, 6] (fun i v wr => ∃ k : Nat, k ≤ n ∧ i = .int .i64 (k : Int) ∧ Hid (OwnLabels w.heap.size v ((ls.take k).filter fun x => f x.n) wr) ∧ Below w.heap.size w wr) (fun i _ _ => n - (intOf i).toNat)
  case atStart => exact ⟨0, Nat.zero_le _, rfl, OwnLabels.nil _ _, hb1⟩
  case round =>
    clear hb1
    obtain ⟨k, hk, rfl, HO, hb⟩ := hrel
    by_cases hlt : k < n
    · have hkl : k < ls.length := by rw [HN.out]; exact hlt
      obtain ⟨bb, o, rfl, hc⟩ := (HA.out.below hb (Nat.le_refl _)).open k hkl
      have c0 := (hc k hkl).1
      have c1 := (hc k hkl).2
      have htk := HTK.out k hkl
      obtain ⟨x, hx⟩ : ∃ x, ls[k] = x := ⟨_, rfl⟩
      rw [hx] at c0 c1 htk
      have hxz := (HFT.out ls[k] (List.getElem_mem _)).1
      rw [hx] at hxz
      unfold maxLen at hxz
      obtain ⟨fb, hfx⟩ : ∃ b, f x.n = b := ⟨_, rfl⟩
      have hpre := hfx
      rw [HFF.out] at hpre
      rw [hfx] at htk
      have htest := Lab.prefix_test x.n pf fb hpre
      have n1 : (0 : Int) ≤ (k : Int) := by omega
      have n3 : (k : Int) < (n : Int) := by omega
      have hll : ((ls.take k).filter fun x => f x.n).length ≤ k := by
        have := List.length_filter_le (fun x : Lab.L => f x.n) (ls.take k)
        rw [List.length_take] at this
        omega
      have HTK2 := Lib.hid htk
      clear hc hx hfx htk hpre
      rcases htest with ⟨h1, rfl⟩ | ⟨h1, h2, h3⟩
      · have hop := HO.out
        obtain ⟨L, hL⟩ : ∃ L, (ls.take k).filter (fun x => f x.n) = L := ⟨_, rfl⟩
        have e2 : ((ls.take (k + 1)).filter fun x => f x.n) = L ++ [x] := by rw [HTK2.out, if_pos rfl, hL]
        rw [hL] at hop hll
        have HE2 := Lib.hid e2
        clear HTK2 e2 hL
        go_wp2_with (at_builtin; refine wpList_pushL 24 Tryz.underlying24 rfl _ _ rfl _ _ _ _ rfl hop x _ _ rfl _ rfl (by simp) ?c1 ?c2 ?_)
        case c1 => omega
        case c2 => exact hb.size
        intro v9 w9 hown9 hg
        have hb9 := below_push _ hb hop hg
        have HO9 : Hid (OwnLabels w.heap.size v9 ((ls.take (k + 1)).filter fun x => f x.n) w9) := by
          show OwnLabels _ _ _ _
          rw [HE2.out]
          exact hown9
        clear hg hop hown9 c0 c1
        go_wp2_with fail
        go_roundw
        case rel => exact ⟨k + 1, by omega, by go_num, HO9, hb9⟩
        case measure => simp [intOf]; omega
      · cases fb
        · have HO2 : Hid (OwnLabels w.heap.size u6 ((ls.take (k + 1)).filter fun x => f x.n) wr) := by
            show OwnLabels _ _ _ _
            rw [HTK2.out, if_neg (by simp)]
            exact HO.out
          clear HTK2
          go_wp2_with fail
          go_roundw
          case rel => exact ⟨k + 1, by omega, by go_num, HO2, hb⟩
          case measure => simp [intOf]; omega
        · have hop := HO.out
          obtain ⟨L, hL⟩ : ∃ L, (ls.take k).filter (fun x => f x.n) = L := ⟨_, rfl⟩
          have e2 : ((ls.take (k + 1)).filter fun x => f x.n) = L ++ [x] := by rw [HTK2.out, if_pos rfl, hL]
          rw [hL] at hop hll
          have HE2 := Lib.hid e2
          clear HTK2 e2 hL
          go_wp2_with (at_builtin; refine wpList_pushL 24 Tryz.underlying24 rfl _ _ rfl _ _ _ _ rfl hop x _ _ rfl _ rfl (by simp) ?c3 ?c4 ?_)
          case c3 => omega
          case c4 => exact hb.size
          intro v9 w9 hown9 hg
          have hb9 := below_push _ hb hop hg
          have HO9 : Hid (OwnLabels w.heap.size v9 ((ls.take (k + 1)).filter fun x => f x.n) w9) := by
            show OwnLabels _ _ _ _
            rw [HE2.out]
            exact hown9
          clear hg hop hown9 c0 c1
          go_wp2_with fail
          go_roundw
          case rel => exact ⟨k + 1, by omega, by go_num, HO9, hb9⟩
          case measure => simp [intOf]; omega
    · have n3 : (n : Int) ≤ (k : Int) := by omega
      have hop := HO.out
      rw [List.take_of_length_le (by rw [HN.out]; omega), HR.out] at hop
      have HOP := Lib.hid hop
      clear hop HO
      go_wp2_with fail
      go_ret2
      exact ⟨⟨_, rfl, HOP.out⟩, hb⟩
end Go.Proofs.YtbilaghljlobpaaGreat
