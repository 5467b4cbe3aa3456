/- Contracts of the reference's Of, and of gaugerlaw04.is. -/
import Derived.Test.YtbilaghljlobpaaGreatL5B
namespace Go.Proofs.YtbilaghljlobpaaGreat
open Go.RowKit

theorem Lab.oneAll_all (ls : List Lab.L) (k : Nat) (h : k < ls.length) (c : Int) (h1 : Lab.one ls[k] = c) (hc : c ≠ 0) : Lab.oneAll (ls.drop k) = c := by
  rw [Lab.oneAll_drop ls k h, h1, if_neg hc]
theorem Lab.names_take (ls : List Lab.L) (k : Nat) (h : k < ls.length) (hn : (Lab.names (ls.take k)).Nodup) (hno : ∀ q (hq : q < ls.length), q < k → Lab.bs ls[q].n ≠ Lab.bs ls[k].n) : (Lab.names (ls.take (k + 1))).Nodup := by
  unfold Lab.names at hn ⊢
  rw [List.take_succ_eq_append_getElem h, List.map_append, List.nodup_append]
  refine ⟨hn, by simp, fun a ha b hb e => ?_⟩
  obtain rfl : b = Lab.bs ls[k].n := by simpa using hb
  subst e
  obtain ⟨x, hx, e⟩ := List.mem_map.1 ha
  obtain ⟨q, hq, rfl⟩ := List.getElem_of_mem hx
  rw [List.length_take] at hq
  rw [List.getElem_take] at e
  exact hno q (by omega) (by omega) e
theorem Lab.names_twice (ls : List Lab.L) (j k : Nat) (h : k < ls.length) (hj : j < ls.length) (hjk : j ≠ k) (e : Lab.bs ls[j].n = Lab.bs ls[k].n) : ¬ (Lab.names ls).Nodup := by
  intro hn
  unfold Lab.names List.Nodup at hn
  rw [List.pairwise_map, List.pairwise_iff_getElem] at hn
  rcases Nat.lt_or_ge j k with h1 | h1
  · exact hn j k hj h h1 e
  · exact hn k j h hj (by omega) e.symm
set_option maxHeartbeats 6400000 in
set_option maxRecDepth 100000 in
theorem rof_is (p : Option Addr) (ls : List Lab.L) (n c : Nat) (r : List Lab.L) (er : Int) (h : Lab.of ls = (r, er)) (w : World) (hn : ls.length = n) (hA : Lab.At p ls w) (hF : Lab.Fit maxLen ls) (hl : n ≤ 10000) :
    Calls Tryz.prog 14 #[.slice p n c] w fun e w' => (∃ v, e = .returned (.tuple #[v, .int .i64 er]) ∧ OwnLabels w.heap.size v r w') ∧ Below w.heap.size w w' := by
  have HN := Lib.hid hn
  have HA := Lib.hid hA
  have HFT := Lib.hid hF
  have HOF := Lib.hid h
  have HD := Lib.hid (Lab.oneAll_drop ls)
  have HRD := Lib.hid (fun m k h => Lab.rputs_drop m ls k h)
  clear h hn hA hF
  go_enter Tryz.func14, Tryz.ntmps14
  go_wp2_with fail
  go_loopw [4] (fun i wr => ∃ k : Nat, k ≤ n ∧ i = .int .i64 (k : Int) ∧ Hid (Lab.oneAll (ls.drop k) = Lab.oneAll ls) ∧ Below w.heap.size w wr) (fun i _ => n - (intOf i).toNat)
  case atStart => exact ⟨0, Nat.zero_le _, rfl, rfl, Below.refl _ _⟩
  case round =>
    obtain ⟨k, hk, rfl, HK, hb⟩ := hrel
    by_cases hlt : k < n
    · have hkl : k < ls.length := by rw [HN.out]; exact hlt
      obtain ⟨b, o, rfl, hc⟩ := (HA.out.below hb (Nat.le_refl _)).open k hkl
      have c0 := (hc k hkl).1
      have c1 := (hc k hkl).2
      have hst := HK.out
      rw [HD.out k hkl] at hst
      have hfx := HFT.out ls[k] (List.getElem_mem _)
      obtain ⟨x, hx⟩ : ∃ x, ls[k] = x := ⟨_, rfl⟩
      rw [hx] at c0 c1 hst hfx
      obtain ⟨e1, he1⟩ : ∃ e, Lab.one x = e := ⟨_, rfl⟩
      have HW := Lib.hid (fun w => wrong_is x e1 he1 w hfx.1 hfx.2)
      rw [he1] at hst
      have n1 : (0 : Int) ≤ (k : Int) := by omega
      have n2 : (k : Int) < (n : Int) := by omega
      clear hc hx hfx he1 HK
      go_wp2_with (go_at_call 51; refine (HW.out _).mono ?_)
      first | rintro e w1 rfl hb1 | rintro e w1 ⟨rfl, hb1⟩
      have hb2 := below_next hb hb1
      clear hb1 HW c0 c1
      by_cases hz : e1 = 0
      · rw [if_pos hz] at hst
        subst hz
        have HG := Lib.hid hst
        clear hst
        go_wp2_with fail
        go_roundw
        case rel => exact ⟨k + 1, by omega, by go_num, HG, hb2⟩
        case measure => simp [intOf]; omega
      · rw [if_neg hz] at hst
        have hof := HOF.out
        unfold Lab.of at hof
        rw [if_neg (by rw [← hst]; exact hz), ← hst] at hof
        simp only [Prod.mk.injEq] at hof
        obtain ⟨rfl, rfl⟩ := hof
        have q : (e1 != 0) = true := by simpa using hz
        clear hst hz
        go_wp2_with fail
        go_ret2
        exact ⟨⟨_, rfl, OwnLabels.nil _ _⟩, hb2⟩
    · have n2 : (n : Int) ≤ (k : Int) := by omega
      have hst := HK.out
      rw [List.drop_eq_nil_iff.2 (by rw [HN.out]; omega)] at hst
      have HZ : Hid (Lab.oneAll ls = 0) := hst.symm
      clear HK hst
      go_wp2_with fail
      obtain ⟨wo, hwo⟩ : ∃ wo : World, wo = wr := ⟨_, rfl⟩
      subst hwo
      go_loopw [7, 6] (fun i v wr => ∃ (k : Nat) (q : Option Addr) (out : List Lab.L) (m d : Nat), k ≤ n ∧ i = .int .i64 (k : Int) ∧ v = .slice q m d ∧ Hid (out.length = m) ∧ Hid (OwnLabels w.heap.size (.slice q m d) out wr) ∧ Hid (Lab.rputs out (ls.drop k) = Lab.rputs [] ls) ∧ Hid ((Lab.names (ls.take k)).Nodup) ∧ m ≤ k ∧ Hid (∀ x ∈ out, x.n.size ≤ maxLen ∧ x.v.size ≤ maxLen) ∧ Below w.heap.size w wr) (fun i _ _ => n - (intOf i).toNat)
      case atStart => exact ⟨0, none, [], 0, 0, Nat.zero_le _, rfl, rfl, rfl, OwnLabels.nil _ _, rfl, List.nodup_nil, Nat.le_refl _, fun x hx => by simp at hx, hb⟩
      case round =>
        clear hk n2 hlt hb
        obtain ⟨k, q, out, m, d, hk, rfl, rfl, HM, HO, HK, HNO, hmk, HFO, hb⟩ := hrel
        by_cases hlt : k < n
        · have hkl : k < ls.length := by rw [HN.out]; exact hlt
          have hAw := HA.out.below hb (Nat.le_refl _)
          obtain ⟨b, o, rfl, hc⟩ := hAw.open k hkl
          have c0 := (hc k hkl).1
          have c1 := (hc k hkl).2
          have hst := HK.out
          rw [HRD.out out k hkl] at hst
          have hfx := HFT.out ls[k] (List.getElem_mem _)
          have hfo := Lab.found ls ls[k].n
          have htk := Lab.names_take ls k hkl HNO.out
          have htw := fun j hj hjk => Lab.names_twice ls j k hkl hj hjk
          obtain ⟨x, hx⟩ : ∃ x, ls[k] = x := ⟨_, rfl⟩
          have hxm : Lab.bs x.n ∈ Lab.names ls := List.mem_map.2 ⟨ls[k], List.getElem_mem _, by rw [hx]⟩
          rw [hx] at c0 c1 hst hfx hfo htk htw
          obtain ⟨i, hi⟩ : ∃ i, Lab.find x.n 0 ls = i := ⟨_, rfl⟩
          rw [hi] at hfo
          have HFI := Lib.hid (fun w hA => rfind_is (some ⟨b, o, none⟩) ls n c x.n i hi w HN.out hA (by omega))
          have HAW := Lib.hid hAw
          have n1 : (0 : Int) ≤ (k : Int) := by omega
          have n2 : (k : Int) < (n : Int) := by omega
          rcases hfo with ⟨_, _, h3⟩ | ⟨j, hj, rfl, _, he, hno⟩
          · exact absurd hxm h3
          have hjn : j < n := by rw [← HN.out]; exact hj
          by_cases hjk : j = k
          · subst hjk
            have HT := Lib.hid (htk hno)
            obtain ⟨r2, hr2⟩ : ∃ r2, Lab.rput1 out x = r2 := ⟨_, rfl⟩
            rw [hr2] at hst
            have hlen2 : r2.length ≤ m + 1 := by
              rw [← hr2, ← HM.out]
              exact Lab.rput_length x out _
            have hfr2 : ∀ y ∈ r2, y.n.size ≤ maxLen ∧ y.v.size ≤ maxLen := fun y hy => by
              rw [← hr2] at hy
              rcases Lab.rput1_mem hy with h1 | rfl
              · exact HFO.out y h1
              · exact hfx
            have HP := Lib.hid (fun w hA => rput_is q out m d x r2 hr2 w HM.out hA HFO.out hfx.1 (by omega))
            have HG := Lib.hid hst
            have HF2 := Lib.hid hfr2
            have hat := HO.out.at
            have HAT := Lib.hid hat
            have q9 : ((j : Int) != (j : Int)) = false := by simp
            clear hc hx hst hfx htk htw hi hno he hr2 hfr2 hat hxm hAw HK
            go_wp2_with (go_at_call 59; refine (HFI.out _ HAW.out).mono ?_)
            try rintro _ _ ⟨rfl, rfl⟩
            go_wp2_with (go_at_call 60; refine (HP.out _ HAT.out).mono ?_)
            first | rintro e w3 v3 rfl hv3 hb3 | rintro e w3 ⟨⟨v3, rfl, hv3⟩, hb3⟩
            have hb4 := below_next hb hb3
            have hv4 := row_lift hv3 hb.size
            obtain ⟨q4, d4, rfl, _⟩ := OwnLabels.open hv3
            obtain ⟨m4, hm4⟩ : ∃ m4, r2.length = m4 := ⟨_, rfl⟩
            rw [hm4] at hlen2
            have HV4 : Hid (OwnLabels w.heap.size (.slice q4 m4 d4) r2 w3) := by
              show OwnLabels _ _ _ _
              rw [← hm4]
              exact hv4
            rw [hm4]
            have HM4 := Lib.hid hm4
            clear hv3 hv4 hb3 hm4 c0 c1
            go_wp2_with fail
            go_roundw
            case rel => exact ⟨j + 1, q4, r2, m4, d4, by omega, by go_num, rfl, HM4, HV4, HG, HT, by omega, HF2, hb4⟩
            case measure => simp [intOf]; omega
          · have htwice := htw j hj hjk he
            have hof := HOF.out
            unfold Lab.of at hof
            rw [if_pos HZ.out, if_neg htwice] at hof
            simp only [Prod.mk.injEq] at hof
            obtain ⟨rfl, rfl⟩ := hof
            have q9 : ((j : Int) != (k : Int)) = true := by simp; omega
            clear hc hx hst hfx htk htw hi hno he hxm hAw HK htwice
            go_wp2_with (go_at_call 59; refine (HFI.out _ HAW.out).mono ?_)
            try rintro _ _ ⟨rfl, rfl⟩
            go_wp2_with fail
            go_ret2
            exact ⟨⟨_, rfl, OwnLabels.nil _ _⟩, hb⟩
        · obtain rfl : k = n := by omega
          have n2 : (k : Int) ≤ (k : Int) := by omega
          have hst := HK.out
          rw [List.drop_eq_nil_iff.2 (by rw [HN.out]; omega)] at hst
          have hnd : (Lab.names ls).Nodup := by
            have := HNO.out
            rw [List.take_of_length_le (by rw [HN.out]; omega)] at this
            exact this
          have hof := HOF.out
          unfold Lab.of at hof
          rw [if_pos HZ.out, if_pos hnd, ← Lab.rof_is ls hnd, ← hst] at hof
          have e5 : Lab.rputs out [] = out := rfl
          rw [e5, HM.out] at hof
          have HB := Lib.hid (fun w => rbound_is q m d w (by omega))
          by_cases h64 : 64 < m
          · rw [if_pos h64] at hof HB
            simp only [Prod.mk.injEq] at hof
            obtain ⟨rfl, rfl⟩ := hof
            clear hst hnd e5 HK
            go_wp2_with (go_at_call 61; refine (HB.out _).mono ?_)
            try rintro _ _ ⟨rfl, rfl⟩
            go_wp2_with fail
            go_ret2
            exact ⟨⟨_, rfl, OwnLabels.nil _ _⟩, hb⟩
          · rw [if_neg h64] at hof HB
            simp only [Prod.mk.injEq] at hof
            obtain ⟨rfl, rfl⟩ := hof
            clear hst hnd e5 HK
            go_wp2_with (go_at_call 61; refine (HB.out _).mono ?_)
            try rintro _ _ ⟨rfl, rfl⟩
            go_wp2_with fail
            go_ret2
            exact ⟨⟨_, rfl, HO.out⟩, hb⟩
set_option maxHeartbeats 800000 in
theorem is_true (p q : Option Addr) (r : List Lab.L) (n c c2 : Nat) (er : Int) (w : World) (hn : r.length = n) (hA : Lab.At p r w) (hB : Lab.At q r w) (hl : n ≤ maxLen) :
    Calls Tryz.prog 21 #[.slice p n c, .int .i64 er, .slice q n c2, .int .i64 er] w fun e w' => e = .returned (.bool true) ∧ Below w.heap.size w w' := by
  have HS := Lib.hid (same_below p q r n c c2 w hn hA hB hl)
  clear hn hA hB
  go_enter Tryz.func21, Tryz.ntmps21
  go_wp2_with (go_at_call 65; refine HS.out.mono ?_)
  first | rintro e w1 rfl hb1 | rintro e w1 ⟨rfl, hb1⟩
  go_wp2_with fail
  go_ret
  exact ⟨rfl, hb1⟩
end Go.Proofs.YtbilaghljlobpaaGreat
