/- Contract of the reference's Without. -/
import Derived.Test.YtflmojjpdmbnaaaL5W
namespace Go.Proofs.Ytflmojjpdmbnaaa
open Go.RowKit

theorem Lab.prefix_test (s pf : ByteArray) (fb : Bool) (h : (fun s : ByteArray => !Lib.hasPrefix s.data.toList pf.data.toList) s = fb) :
    ((s.size : Int) < (pf.size : Int) ∧ fb = true) ∨ ((pf.size : Int) ≤ (s.size : Int) ∧ ((s.extract 0 pf.size).toList == pf.toList) = !fb ∧ ((s.extract 0 pf.size).toList != pf.toList) = fb) := by
  have h1 := Lib.hasPrefix_raw s pf
  dsimp only at h
  rw [← h1] at h
  by_cases hl : pf.size ≤ s.size
  · rw [decide_eq_true hl, Bool.true_and] at h
    exact .inr ⟨by omega, by rw [← h, Bool.not_not], h⟩
  · rw [decide_eq_false hl, Bool.false_and] at h
    exact .inl ⟨by omega, h.symm⟩
set_option maxHeartbeats 3200000 in
set_option maxRecDepth 100000 in
theorem rwithout_contract (f : ByteArray → Bool) (p : Option Addr) (ls : List Lab.L) (pf : ByteArray) (hf : f = fun s => !Lib.hasPrefix s.data.toList pf.data.toList) (n c : Nat) (r : List Lab.L) (er : Int) (h : Lab.filt f ls = (r, er)) (w : World) (hn : ls.length = n) (hA : Lab.At p ls w) (hF : Lab.Fit maxLen ls) (hl : n ≤ 5000) :
    Calls Try.prog 72 #[.slice p n c, .string pf] w fun e w' => (∃ v, e = .returned (.tuple #[v, .int .i64 er]) ∧ OwnLabels w.heap.size v r w') ∧ Below w.heap.size w w' := by
  obtain ⟨b, hb⟩ : ∃ b, Lab.right ls = b := ⟨_, rfl⟩
  have HRT := Lib.hid (rright_is p ls n c b hb w hn hA hF (by unfold maxLen; omega))
  unfold Lab.filt at h
  rw [hb] at h
  cases b
  · rw [if_neg (by simp)] at h
    simp only [Prod.mk.injEq] at h
    obtain ⟨rfl, rfl⟩ := h
    clear hb hn hA hF hf
    go_enter Try.func72, Try.ntmps72
    go_wp2_with (go_at_call 102; refine HRT.out.mono ?_)
    first | rintro e w1 rfl hb1 | rintro e w1 ⟨rfl, hb1⟩
    go_wp2_with fail
    go_ret2
    exact ⟨⟨_, rfl, OwnLabels.nil _ _⟩, hb1⟩
  rw [if_pos rfl] at h
  simp only [Prod.mk.injEq] at h
  obtain ⟨hr, rfl⟩ := h
  have HR := Lib.hid hr
  have HN := Lib.hid hn
  have HA := Lib.hid hA
  have HFF := Lib.hid hf
  have HTK := Lib.hid (Lab.filter_take ls f)
  have HFT := Lib.hid hF
  clear hb hn hA hF hf hr
  go_enter Try.func72, Try.ntmps72
  go_wp2_with (go_at_call 102; refine HRT.out.mono ?_)
  first | rintro e w1 rfl hb1 | rintro e w1 ⟨rfl, hb1⟩
  clear HRT
  go_wp2_with fail
  go_loopw [7, 6] (fun i v wr => ∃ k : Nat, k ≤ n ∧ i = .int .i64 (k : Int) ∧ Hid (OwnLabels w.heap.size v ((ls.take k).filter fun x => f x.n) wr) ∧ Below w.heap.size w wr) (fun i _ _ => n - (intOf i).toNat)
  case atStart => exact ⟨0, Nat.zero_le _, rfl, OwnLabels.nil _ _, hb1⟩
  case round =>
    clear hb1
    obtain ⟨k, hk, rfl, HO, hb⟩ := hrel
    by_cases hlt : k < n
    · have hkl : k < ls.length := by rw [HN.out]; exact hlt
      obtain ⟨bb, o, rfl, hc⟩ := (HA.out.below hb (Nat.le_refl _)).open k hkl
      have c0 := (hc k hkl).1
      have c1 := (hc k hkl).2
      have htk := HTK.out k hkl
      obtain ⟨x, hx⟩ : ∃ x, ls[k] = x := ⟨_, rfl⟩
      rw [hx] at c0 c1 htk
      have hxz := (HFT.out ls[k] (List.getElem_mem _)).1
      rw [hx] at hxz
      unfold maxLen at hxz
      obtain ⟨fb, hfx⟩ : ∃ b, f x.n = b := ⟨_, rfl⟩
      have hpre := hfx
      rw [HFF.out] at hpre
      rw [hfx] at htk
      have htest := Lab.prefix_test x.n pf fb hpre
      have n1 : (0 : Int) ≤ (k : Int) := by omega
      have n3 : (k : Int) < (n : Int) := by omega
      have hll : ((ls.take k).filter fun x => f x.n).length ≤ k := by
        have := List.length_filter_le (fun x : Lab.L => f x.n) (ls.take k)
        rw [List.length_take] at this
        omega
      have HTK2 := Lib.hid htk
      clear hc hx hfx htk hpre
      rcases htest with ⟨h1, rfl⟩ | ⟨h1, h2, h3⟩
      · have hop := HO.out
        obtain ⟨L, hL⟩ : ∃ L, (ls.take k).filter (fun x => f x.n) = L := ⟨_, rfl⟩
        have e2 : ((ls.take (k + 1)).filter fun x => f x.n) = L ++ [x] := by rw [HTK2.out, if_pos rfl, hL]
        rw [hL] at hop hll
        have HE2 := Lib.hid e2
        clear HTK2 e2 hL
        go_wp2_with (at_builtin; refine wpList_pushL 22 Try.underlying22 rfl _ _ rfl _ _ _ _ rfl hop x _ _ rfl _ rfl (by simp) ?c1 ?c2 ?_)
        case c1 => omega
        case c2 => exact hb.size
        intro v9 w9 hown9 hg
        have hb9 := below_push _ hb hop hg
        have HO9 : Hid (OwnLabels w.heap.size v9 ((ls.take (k + 1)).filter fun x => f x.n) w9) := by
          show OwnLabels _ _ _ _
          rw [HE2.out]
          exact hown9
        clear hg hop hown9 c0 c1
        go_wp2_with fail
        go_roundw
        case rel => exact ⟨k + 1, by omega, by go_num, HO9, hb9⟩
        case measure => simp [intOf]; omega
      · cases fb
        · have HO2 : Hid (OwnLabels w.heap.size u6 ((ls.take (k + 1)).filter fun x => f x.n) wr) := by
            show OwnLabels _ _ _ _
            rw [HTK2.out, if_neg (by simp)]
            exact HO.out
          clear HTK2
          go_wp2_with fail
          go_roundw
          case rel => exact ⟨k + 1, by omega, by go_num, HO2, hb⟩
          case measure => simp [intOf]; omega
        · have hop := HO.out
          obtain ⟨L, hL⟩ : ∃ L, (ls.take k).filter (fun x => f x.n) = L := ⟨_, rfl⟩
          have e2 : ((ls.take (k + 1)).filter fun x => f x.n) = L ++ [x] := by rw [HTK2.out, if_pos rfl, hL]
          rw [hL] at hop hll
          have HE2 := Lib.hid e2
          clear HTK2 e2 hL
          go_wp2_with (at_builtin; refine wpList_pushL 22 Try.underlying22 rfl _ _ rfl _ _ _ _ rfl hop x _ _ rfl _ rfl (by simp) ?c3 ?c4 ?_)
          case c3 => omega
          case c4 => exact hb.size
          intro v9 w9 hown9 hg
          have hb9 := below_push _ hb hop hg
          have HO9 : Hid (OwnLabels w.heap.size v9 ((ls.take (k + 1)).filter fun x => f x.n) w9) := by
            show OwnLabels _ _ _ _
            rw [HE2.out]
            exact hown9
          clear hg hop hown9 c0 c1
          go_wp2_with fail
          go_roundw
          case rel => exact ⟨k + 1, by omega, by go_num, HO9, hb9⟩
          case measure => simp [intOf]; omega
    · have n3 : (n : Int) ≤ (k : Int) := by omega
      have hop := HO.out
      rw [List.take_of_length_le (by rw [HN.out]; omega), HR.out] at hop
      have HOP := Lib.hid hop
      clear hop HO
      go_wp2_with fail
      go_ret2
      exact ⟨⟨_, rfl, HOP.out⟩, hb⟩
end Go.Proofs.Ytflmojjpdmbnaaa
