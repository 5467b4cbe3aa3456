/- Contracts of label: bound, Of. -/
import Derived.Test.YthnaninhbofeoaaDoorOfB
import Derived.BigQuiet
namespace Go.Proofs.YthnaninhbofeoaaDoor
open Go.RowKit

set_option maxHeartbeats 400000 in
theorem bound_is (p : Option Addr) (n c : Nat) (w : World) (hl : n ≤ 100000) :
    Calls Tryd.prog 66 #[.slice p n c] w fun e w' => e = .returned (if 64 < n then .tuple #[.slice none 0 0, .int .i64 5] else .tuple #[.slice p n c, .int .i64 0]) ∧ w = w' := by
  by_cases h : 64 < n
  · rw [if_pos h]
    go_enter Tryd.func66, Tryd.ntmps66
    go_wp2_with fail
    go_ret2
    exact ⟨rfl, rfl⟩
  · rw [if_neg h]
    have h2 : n ≤ 64 := by omega
    clear h
    go_enter Tryd.func66, Tryd.ntmps66
    go_wp2_with fail
    go_ret2
    exact ⟨rfl, rfl⟩

theorem Lab.dup_of {d ls : List Lab.L} (hp : d.Perm ls) (j : Nat) (h1 : j + 1 < d.length) (he : Lab.bs d[j].n = Lab.bs d[j + 1].n) : ¬ (Lab.names ls).Nodup := by
  intro hn
  have hn2 : (Lab.names d).Nodup := ((Lab.names_perm hp).nodup_iff).2 hn
  unfold Lab.names List.Nodup at hn2
  rw [List.pairwise_map, List.pairwise_iff_getElem] at hn2
  exact hn2 j (j + 1) (by omega) h1 (by omega) he

set_option maxHeartbeats 3200000 in
set_option maxRecDepth 100000 in
theorem lof_is (p : Option Addr) (ls : List Lab.L) (n c : Nat) (r : List Lab.L) (er : Int) (h : Lab.of ls = (r, er)) (w : World) (hn : ls.length = n) (hA : Lab.At p ls w) (hF : Lab.Fit maxLen ls) (hl : n ≤ 100000) :
    Calls Tryd.prog 45 #[.slice p n c] w fun e w' => (∃ v, e = .returned (.tuple #[v, .int .i64 er]) ∧ OwnLabels w.heap.size v r w') ∧ Below w.heap.size w w' := by
  obtain ⟨e1, he1⟩ : ∃ e1, Lab.oneAll ls = e1 := ⟨_, rfl⟩
  have H0 : Hid (Lab.oneAll (ls.drop 0) = e1) := he1
  have HN := Lib.hid hn
  unfold Lab.of at h
  rw [he1] at h
  have HH := Lib.hid h
  have HC := Lib.hid (fun w hA => clone_is p ls n c w hn hA hl)
  clear he1 h hn
  go_enter Tryd.func45, Tryd.ntmps45
  go_wp2_with fail
  go_loopw [11] (fun i wr => ∃ k : Nat, k ≤ n ∧ i = .int .i64 k ∧ Hid (Lab.oneAll (ls.drop k) = e1) ∧ Below w.heap.size w wr) (fun i _ => n - (intOf i).toNat)
  case atStart => exact ⟨0, Nat.zero_le _, rfl, H0, Below.refl _ _⟩
  case round =>
    obtain ⟨k, hk, rfl, HK, hb⟩ := hrel
    have hsz := hb.size
    by_cases hlt : k < n
    · have hkl : k < ls.length := by rw [HN.out]; exact hlt
      have hA2 := hA.below hb (Nat.le_refl _)
      obtain ⟨b, o, rfl, hc⟩ := hA2.open k hkl
      have hst := HK.out
      rw [Lab.oneAll_drop ls k hkl] at hst
      obtain ⟨x, hx⟩ : ∃ x, ls[k] = x := ⟨_, rfl⟩
      have hfx := hF x (by rw [← hx]; exact List.getElem_mem _)
      have c0 := (hc k hkl).1
      have c1 := (hc k hkl).2
      rw [hx] at c0 c1 hst
      have hbx : b < wr.heap.size := World.block_lt_of_cell? _ _ c0
      obtain ⟨e0, he0⟩ : ∃ e0, Lab.one x = e0 := ⟨_, rfl⟩
      have HE := Lib.hid (fun w => one_is x e0 he0 w hfx.1 hfx.2)
      rw [he0] at hst
      clear hx hc he0 hfx HK
      by_cases h0 : e0 = 0
      · subst h0
        rw [if_pos rfl] at hst
        have HG := Lib.hid hst
        clear hst
        go_wp2_with (go_at_call 62; refine (HE.out _).mono ?_)
        first | rintro e w1 rfl hb1 | rintro e w1 ⟨rfl, hb1⟩
        have hb2 : Below w.heap.size w w1 := (hb.alloc hsz _).trans (hb1.mono (by simp; omega))
        go_wp2_with fail
        go_roundw
        case rel => exact ⟨k + 1, by omega, by go_num, HG, hb2⟩
        case measure => simp [intOf]; omega
      · rw [if_neg h0] at hst
        subst hst
        have hh := HH.out
        rw [if_neg h0] at hh
        simp only [Prod.mk.injEq] at hh
        obtain ⟨rfl, rfl⟩ := hh
        have q1 : (e0 != 0) = true := by simpa using h0
        clear h0 HH
        go_wp2_with (go_at_call 62; refine (HE.out _).mono ?_)
        first | rintro e w1 rfl hb1 | rintro e w1 ⟨rfl, hb1⟩
        have hb2 : Below w.heap.size w w1 := (hb.alloc hsz _).trans (hb1.mono (by simp; omega))
        go_wp2_with fail
        go_ret2
        exact ⟨⟨_, rfl, OwnLabels.nil _ _⟩, hb2⟩
    · have he : e1 = 0 := by
        rw [← HK.out, List.drop_eq_nil_iff.2 (by rw [HN.out]; omega)]; rfl
      subst he
      have hh := HH.out
      rw [if_pos rfl] at hh
      have HH2 := Lib.hid hh
      have hA2 := hA.below hb (Nat.le_refl _)
      clear hh HH HK
      go_wp2_with (go_at_call 63; refine (HC.out _ hA2).mono ?_)
      first | rintro e w1 v rfl hv hb1 | rintro e w1 ⟨⟨v, rfl, hv⟩, hb1⟩
      have hs1 := hb1.size
      have hB1 := below_next hb hb1
      have hv1 := row_lift hv hsz
      have HS := Lib.hid (sortL_is w.heap.size v ls n w1 HN.out hv1 (by omega) hl)
      clear hv
      go_wp2_with (go_at_call 64; refine HS.out.mono ?_)
      first | rintro e w2 ⟨rfl, d, ⟨hp, hasc⟩, hv2, hb2⟩ | rintro e w2 rfl d hp hasc hv2 hb2
      have hB2 := hB1.trans hb2
      have hs2 := hB2.size
      obtain ⟨pv, cv, rfl, hAd, _, _⟩ := OwnLabels.open hv2
      have hdl : d.length = n := hp.length_eq.trans HN.out
      rw [hdl]
      have HDL := Lib.hid hdl
      have HP := Lib.hid hp
      have HAs := Lib.hid hasc
      have HV2 := Lib.hid hv2
      clear hdl hp hasc hv2 hv1 HS
      go_wp2_with fail
      go_loopw [8] (fun i wx => ∃ t : Nat, 1 ≤ t ∧ t ≤ max 1 n ∧ i = .int .i64 t ∧ Hid (∀ j (h1 : j + 1 < d.length), j + 1 < t → Lab.bs d[j].n < Lab.bs d[j + 1].n) ∧ ∃ m, wx = w2.drewN m) (fun i _ => n - (intOf i).toNat)
      case atStart => exact ⟨1, Nat.le_refl _, by omega, rfl, fun j _ h => by omega, 0, rfl⟩
      case round =>
        obtain ⟨t, ht1, ht2, rfl, HK, m, rfl⟩ := hrel
        by_cases hltt : t < n
        · obtain ⟨j, rfl⟩ : ∃ j, t = j + 1 := ⟨t - 1, by omega⟩
          have hj1 : j + 1 < d.length := by rw [HDL.out]; exact hltt
          obtain ⟨b, o, rfl, hc⟩ := hAd.open j (by omega)
          have c0 := (hc (j + 1) hj1).1
          have c1 := (hc j (by omega)).1
          have hle := (List.pairwise_iff_getElem.1 HAs.out) j (j + 1) (by omega) hj1 (by omega)
          have HDup := Lib.hid (Lab.dup_of HP.out j hj1)
          obtain ⟨x, hx⟩ : ∃ x, d[j + 1] = x := ⟨_, rfl⟩
          obtain ⟨y, hy⟩ : ∃ y, d[j] = y := ⟨_, rfl⟩
          rw [hx] at c0 hle HDup
          rw [hy] at c1 hle HDup
          have HX := Lib.hid hx
          have HY := Lib.hid hy
          obtain ⟨bq, hbq⟩ : ∃ bq, (x.n.toList == y.n.toList) = bq := ⟨_, rfl⟩
          have hbq2 : decide (Lab.bs x.n = Lab.bs y.n) = bq := by
            rw [← hbq, ByteArray.toList_eq, ByteArray.toList_eq, Bool.eq_iff_iff]; simp [Lab.bs]
          have q0 : (0 : Int) ≤ (j : Int) := by omega
          have q1 : (j : Int) < (n : Int) := by omega
          have q2 : ((j : Int) + 1 - 1) = j := by omega
          have q3 : IntKind.i64.wrap (j : Int) = j := by rw [IntKind.wrap_i64]; omega
          have q4 : ((j : Int)).toNat = j := by omega
          have HL := Lib.hid hle
          have HB := Lib.hid hbq2
          clear hx hy hc hle hbq2
          cases bq
          · have HG : Hid (∀ i (h1 : i + 1 < d.length), i + 1 < j + 1 + 1 → Lab.bs d[i].n < Lab.bs d[i + 1].n) := by
              show ∀ i (h1 : i + 1 < d.length), i + 1 < j + 1 + 1 → Lab.bs d[i].n < Lab.bs d[i + 1].n
              intro i h1 h2
              rcases Nat.lt_or_ge (i + 1) (j + 1) with h3 | h3
              · exact HK.out i h1 h3
              · obtain rfl : i = j := by omega
                rw [HX.out, HY.out]
                exact Lab.lt_of_le_ne HL.out (fun e => (of_decide_eq_false HB.out) e.symm)
            go_wp2_with fail
            go_quiet (fail)
            go_wp2_with fail
            go_roundw
            case rel => exact ⟨j + 1 + 1, by omega, by omega, by go_num, HG, _, rfl⟩
            case measure => simp [intOf]; omega
          · have hh := HH2.out
            rw [if_neg (HDup.out (of_decide_eq_true HB.out).symm)] at hh
            simp only [Prod.mk.injEq] at hh
            obtain ⟨rfl, rfl⟩ := hh
            go_wp2_with fail
            go_quiet (fail)
            go_wp2_with fail
            go_ret2
            exact ⟨⟨_, rfl, OwnLabels.nil _ _⟩, below_drewN (below_drewN hB2 m) _⟩
        · have hst : Lab.Strict d := Lab.strict_of_steps d fun i h1 => HK.out i h1 (by have := HDL.out; omega)
          have hds := Lab.srt_uniq HP.out hst
          have hnd : (Lab.names ls).Nodup := ((Lab.names_perm HP.out).nodup_iff).1 (Lab.nodup_of_strict hst)
          have hh := HH2.out
          rw [if_pos hnd, ← hds] at hh
          have hB3 := below_drewN hB2 m
          have HD := Lib.hid (dele_is w.heap.size _ d n (w2.drewN m) HDL.out (show OwnLabels w.heap.size _ d (w2.drewN m) from HV2.out) hs2 hl)
          rw [HDL.out] at HD
          have hfl : (Lab.full d).length ≤ n := by rw [← HDL.out]; exact List.length_filter_le _ _
          obtain ⟨q, hq⟩ : ∃ q, Lab.full d = q := ⟨_, rfl⟩
          rw [hq] at hh HD hfl
          have hle1 : (n : Int) ≤ (t : Int) := by omega
          clear hst hds hnd hq HH2 HAs HP HK hAd HV2
          go_wp2_with (go_at_call 67; refine HD.out.mono ?_)
          first | rintro e w4 u rfl hu hb4 | rintro e w4 ⟨⟨u, rfl, hu⟩, hb4⟩
          obtain ⟨pu, cu, rfl, _, _, _⟩ := OwnLabels.open hu
          have HB := Lib.hid (fun w => bound_is pu q.length cu w (by omega))
          have HU := Lib.hid hu
          have hB4 := hB3.trans hb4
          obtain ⟨Q, hQ⟩ : ∃ Q, q.length = Q := ⟨_, rfl⟩
          rw [hQ] at HB hh ⊢
          by_cases h64 : 64 < Q
          · rw [if_pos h64] at hh
            have HB2 : Hid (∀ w, Calls Tryd.prog 66 #[.slice pu Q cu] w fun e w' => e = .returned (.tuple #[.slice none 0 0, .int .i64 5]) ∧ w = w') := by
              have := HB.out
              rw [if_pos h64] at this
              exact this
            simp only [Prod.mk.injEq] at hh
            obtain ⟨rfl, rfl⟩ := hh
            clear HB hu hQ
            go_wp2_with (go_at_call 66; refine (HB2.out _).mono ?_)
            try rintro e w5 ⟨rfl, rfl⟩
            go_wp2_with fail
            go_ret2
            exact ⟨⟨_, rfl, OwnLabels.nil _ _⟩, hB4⟩
          · rw [if_neg h64] at hh
            have HB2 : Hid (∀ w, Calls Tryd.prog 66 #[.slice pu Q cu] w fun e w' => e = .returned (.tuple #[.slice pu Q cu, .int .i64 0]) ∧ w = w') := by
              have := HB.out
              rw [if_neg h64] at this
              exact this
            simp only [Prod.mk.injEq] at hh
            obtain ⟨rfl, rfl⟩ := hh
            have HQ := Lib.hid hQ
            clear HB hu hQ
            go_wp2_with (go_at_call 66; refine (HB2.out _).mono ?_)
            try rintro e w5 ⟨rfl, rfl⟩
            go_wp2_with fail
            go_ret2
            exact ⟨⟨_, rfl, by rw [← HQ.out]; exact HU.out⟩, hB4⟩
end Go.Proofs.YthnaninhbofeoaaDoor
