/- gaugerlaw35.PoolSmall returns true. (Printed by gen_sml.py.) -/
import Derived.Test.YtpnpgjjbincigaaMny
import Derived.Deep.RegionHeld3
namespace Go.Proofs.Ytpnpgjjbincigaa
open Go.RowKit
set_option linter.unusedVariables false

theorem Sma.ok3 : Po.okU (⟨#[106]⟩, [⟨⟨#[98]⟩, ⟨#[49]⟩⟩, ⟨⟨#[97]⟩, ⟨#[49]⟩⟩]) :=
  ⟨(by show 1 ≤ 1000; decide), fun x hx => by
    simp only [List.mem_cons, List.not_mem_nil, or_false] at hx
    rcases hx with rfl | rfl <;> exact ⟨(by show 1 ≤ 2000; decide), (by show 1 ≤ 2000; decide)⟩, (by show 2 ≤ 1000; decide)⟩
theorem Sma.ok5 : Po.okU (⟨#[106]⟩, (Po.tgt 1).2 ++ [⟨⟨#[122]⟩, ⟨#[49]⟩⟩]) :=
  ⟨(by show 1 ≤ 1000; decide), fun x hx => by
    rcases List.mem_append.1 hx with hx | hx
    · exact (Po.tgt_ok 1).2.1 x hx
    · rw [List.mem_singleton] at hx
      subst hx
      exact ⟨(by show 1 ≤ 2000; decide), (by show 1 ≤ 2000; decide)⟩, (by decide)⟩
theorem Sma.t0 (B : Nat) (j : ByteArray) (w : World) (hj : j.size ≤ 1000) : Sma.T B ⟨j, none, 0, 0, []⟩ w := ⟨⟨rfl, OwnLabels.nil _ _⟩, ⟨hj, fun x hx => (nomatch hx), (by show 0 ≤ 1000; decide)⟩⟩
def Sma.A : Array Value := #[.int .i64 (-9223372036854775808), .int .i64 (-1), .int .i64 0, .int .i64 1, .int .i64 2, .int .i64 1099511627776, .int .i64 1099511627777, .int .i64 9223372036854775807]
def Sma.B : Array Value := #[.int .i64 (-9223372036854775808), .int .i64 (-1), .int .i64 0, .int .i64 1, .int .i64 2, .int .i64 3, .int .i64 1099511627776, .int .i64 1099511627777, .int .i64 9223372036854775807]
theorem Sma.intA (k : Nat) (h : k < 8) : ∃ a : Int, Sma.A[k]? = some (.int .i64 a) := by
  have : ∀ k : Fin 8, ∃ v, Sma.A[k.1]? = some v ∧ ∃ a : Int, v = .int .i64 a := fun k => by
    match k with
    | 0 => exact ⟨_, rfl, _, rfl⟩
    | 1 => exact ⟨_, rfl, _, rfl⟩
    | 2 => exact ⟨_, rfl, _, rfl⟩
    | 3 => exact ⟨_, rfl, _, rfl⟩
    | 4 => exact ⟨_, rfl, _, rfl⟩
    | 5 => exact ⟨_, rfl, _, rfl⟩
    | 6 => exact ⟨_, rfl, _, rfl⟩
    | 7 => exact ⟨_, rfl, _, rfl⟩
  obtain ⟨v, h1, a, rfl⟩ := this ⟨k, h⟩
  exact ⟨a, h1⟩
theorem Sma.intB (k : Nat) (h : k < 9) : ∃ a : Int, Sma.B[k]? = some (.int .i64 a) := by
  have : ∀ k : Fin 9, ∃ v, Sma.B[k.1]? = some v ∧ ∃ a : Int, v = .int .i64 a := fun k => by
    match k with
    | 0 => exact ⟨_, rfl, _, rfl⟩
    | 1 => exact ⟨_, rfl, _, rfl⟩
    | 2 => exact ⟨_, rfl, _, rfl⟩
    | 3 => exact ⟨_, rfl, _, rfl⟩
    | 4 => exact ⟨_, rfl, _, rfl⟩
    | 5 => exact ⟨_, rfl, _, rfl⟩
    | 6 => exact ⟨_, rfl, _, rfl⟩
    | 7 => exact ⟨_, rfl, _, rfl⟩
    | 8 => exact ⟨_, rfl, _, rfl⟩
  obtain ⟨v, h1, a, rfl⟩ := this ⟨k, h⟩
  exact ⟨a, h1⟩

set_option maxHeartbeats 12800000 in
set_option maxRecDepth 100000 in
theorem small_is (w : World) : Calls Try.prog 5 #[] w fun e w' => e = .returned (.bool true) ∧ Below w.heap.size w w' := by
  have HAW := Lib.hid (fun w => awake_is w)
  have HMN := Lib.hid (fun w => many_is w)
  have HTZ := Lib.hid (fun n z h hn w => Sma.target n z h hn w)
  have hbR : Below w.heap.size w w := Below.refl _ _
  have HBR := Lib.hid hbR
  clear hbR
  go_enter Try.func5, Try.ntmps5
  go_wp2_with fail
  go_loopw [13] (fun i wr => ∃ y : Nat, y ≤ 1024 ∧ i = .int .i64 (y : Int) ∧ Hid (Below w.heap.size w wr)) (fun i _ => 1024 - (intOf i).toNat)
  case atStart => exact ⟨0, Nat.zero_le _, rfl, HBR.out⟩
  case round =>
    obtain ⟨wj, rfl⟩ : ∃ wo : World, wo = wr := ⟨_, rfl⟩
    obtain ⟨y, hy, rfl, HB⟩ := hrel
    have hsz := HB.out.size
    by_cases hlt : y < 1024
    · have n2 : (y : Int) < 1024 := by omega
      have r16 : Int.tdiv (y : Int) 16 = ((y / 16 : Nat) : Int) := by rw [Int.tdiv_eq_ediv_of_nonneg (by omega)]; omega
      obtain ⟨q0, hq0⟩ : ∃ q, y / 16 = q := ⟨_, rfl⟩
      have hq100 : q0 ≤ 100 := by omega
      have r17 : IntKind.i64.wrap ((q0 : Nat) : Int) = (q0 : Int) := by rw [IntKind.wrap_i64]; omega
      have r18 : IntKind.i64.wrap ((y : Nat) : Int) = (y : Int) := by rw [IntKind.wrap_i64]; omega
      rw [hq0] at r16
      clear hq0
      go_wp2_with fail
      go_loopw [2, 3, 4, 5] (fun vl vt i k wr => ∃ (n q : Nat) (ss : List Sl) (ts : List Can.T), n ≤ 3 ∧ q ≤ 100 ∧ i = .int .i64 (n : Int) ∧ k = .int .i64 (q : Int) ∧ Hid (Sma.S w.heap.size vl ss wr) ∧ Hid (Sma.G w.heap.size vt ts wr) ∧ Hid (ss.length ≤ n ∧ ts.length ≤ n) ∧ Hid (Below w.heap.size w wr)) (fun _ _ i _ _ => 3 - (intOf i).toNat)
      case atStart => exact ⟨0, q0, [], [], by omega, hq100, rfl, rfl, Sma.S.nil _ _, Sma.G.nil _ _, ⟨Nat.le_refl _, Nat.le_refl _⟩, HB.out⟩
      case round =>
        obtain ⟨wi, rfl⟩ : ∃ wo : World, wo = wr := ⟨_, rfl⟩
        obtain ⟨n, q, ss, ts, hn, hq, rfl, rfl, HS, HG, HL, HBI⟩ := hrel
        have hszi := HBI.out.size
        obtain ⟨pq, cq, hvq, hqn⟩ := HG.out.form
        subst hvq
        have HQN := Lib.hid hqn
        clear hqn
        by_cases hn3 : n < 3
        · have m2 : (n : Int) < 3 := by omega
          have s1 := HL.out.1
          have s2 := HL.out.2
          have r4 : Int.tmod (q : Int) 4 = ((q % 4 : Nat) : Int) := by rw [Int.tmod_eq_emod_of_nonneg (by omega)]; omega
          have rq : Int.tdiv (q : Int) 4 = ((q / 4 : Nat) : Int) := by rw [Int.tdiv_eq_ediv_of_nonneg (by omega)]; omega
          obtain ⟨q1, hq1⟩ : ∃ q1, q / 4 = q1 := ⟨_, rfl⟩
          have hq1l : q1 ≤ 100 := by omega
          rw [hq1] at rq
          obtain ⟨d, hd⟩ : ∃ d, q % 4 = d := ⟨_, rfl⟩
          have hd4 : d < 4 := by omega
          rw [hd] at r4
          have r5 : IntKind.i64.wrap ((d : Nat) : Int) = (d : Int) := by rw [IntKind.wrap_i64]; omega
          have r6 : IntKind.i64.wrap ((q1 : Nat) : Int) = (q1 : Int) := by rw [IntKind.wrap_i64]; omega
          have r7 : IntKind.i64.wrap ((n : Int) + 1) = (n : Int) + 1 := by rw [IntKind.wrap_i64]; omega
          have r8 : Int.tmod (d : Int) 2 = ((d % 2 : Nat) : Int) := by rw [Int.tmod_eq_emod_of_nonneg (by omega)]; omega
          obtain ⟨d2, hd2⟩ : ∃ d2, d % 2 = d2 := ⟨_, rfl⟩
          have hd22 : d2 < 2 := by omega
          rw [hd2] at r8
          have r9 : IntKind.i64.wrap ((d2 : Nat) : Int) = (d2 : Int) := by rw [IntKind.wrap_i64]; omega
          have r10 : IntKind.i64.wrap (4 + (d2 : Int)) = 4 + (d2 : Int) := by rw [IntKind.wrap_i64]; omega
          obtain ⟨en, hen⟩ : ∃ en, ((d : Int) == 3) = en := ⟨_, rfl⟩
          clear hq1 hd hd2
          have HT1 := Lib.hid (HTZ.out n n rfl (by omega))
          by_cases hd0 : 0 < d
          · have qd : decide ((d : Int) > 0) = true := decide_eq_true (by omega)
            go_wp2_with (go_at_call 15; refine (HT1.out _).mono ?_)
            first | rintro e wt t rfl hT _ hbt | rintro e wt ⟨⟨t, rfl, hT, _⟩, hbt⟩
            obtain ⟨tj, tp, tn, tc, tl⟩ := t
            have HBT : Hid (Below w.heap.size w wt) := below_next HBI.out hbt
            have HST : Hid (Sma.S w.heap.size _ ss wt) := HS.out.below hbt (Nat.le_refl _)
            have HGT : Hid (Sma.G w.heap.size _ ts wt) := HG.out.below hbt (Nat.le_refl _)
            have HTT : Hid (Sma.T w.heap.size _ wt) := hT.lift hszi
            have hst := HBT.out.size
            have hlen : ss.length + 1 ≤ 1000000000 := by omega
            clear hT hbt
            go_wp2_with (at_builtin; refine wpList_pushRec slOk 22 Try.underlying22 rfl _ _ rfl w.heap.size _ ss wt rfl (by exact HST.out.1) ⟨⟨tj, tp, tn, tc, tl⟩, 10, _, _⟩ _ _ rfl _ rfl (by first | rfl | simp) hlen hst ?_)
            intro v8 w8 hro hg
            have hbU : ∀ o, Below wt.heap.size wt (wt.alloc o) := fun o => (Below.refl _ _).alloc (Nat.le_refl _) _
            have HS8 := Lib.hid ((HST.out.below (hbU _) (Nat.le_refl _)).push _ (HTT.out.below (hbU _) (Nat.le_refl _)) hro hg)
            have HG8 := Lib.hid ((HGT.out.below (hbU _) (Nat.le_refl _)).keep (HST.out.below (hbU _) (Nat.le_refl _)).1 hg)
            have HB8 : Hid (Below w.heap.size w w8) := ((HBT.out.trans ((hbU _).mono hst))).grown hg (by simp; omega) (fun j hj => (World.ownsRow.lt HST.out.1 j hj).1)
            have hs8 := HB8.out.size
            obtain ⟨s8, hl8, HS8⟩ : ∃ s8 : List Sl, s8.length ≤ n + 1 ∧ Hid (Sma.S w.heap.size _ s8 w8) := ⟨_, by rw [List.length_append, List.length_singleton]; omega, HS8⟩
            clear hro hg hbU
            go_wp2_with fail
            · go_wp2_with (go_at_call 15; refine (HT1.out _).mono ?_)
              first | rintro e wu t rfl hT _ hbt | rintro e wu ⟨⟨t, rfl, hT, _⟩, hbt⟩
              obtain ⟨uj, up, un, uc, ul⟩ := t
              have hbU : Below wu.heap.size wu (wu.alloc (.cells #[.string uj, .slice up un uc] 29)) := (Below.refl _ _).alloc (Nat.le_refl _) _
              have HBV := Lib.hid (below_next hbt hbU)
              have HTV : Hid (Sma.T w8.heap.size ⟨uj, up, un, uc, ul⟩ (wu.alloc (.cells #[.string uj, .slice up un uc] 29))) := hT.below hbU (Nat.le_refl _)
              have HOW : Hid (OwnR tgR wu.heap.size (.slice (some ⟨wu.heap.size, 0, none⟩) 1 1) [(⟨uj, up, un, uc, ul⟩ : Can.T)] (wu.alloc (.cells #[.string uj, .slice up un uc] 29))) := OwnR.made tgOk (Nat.le_refl _) (by rfl) rfl (by decide) (alloc_new wu (.cells #[.string uj, .slice up un uc] 29))
              have HGV := Lib.hid (HG8.out.below HBV.out (Nat.le_refl _))
              have hle : w8.heap.size ≤ wu.heap.size := hbt.size
              clear hT hbU
              go_wp2_with (at_builtin; go_loud (refine wpList_appTE rfl _ _ rfl wu.heap.size _ [(⟨uj, up, un, uc, ul⟩ : Can.T)] (wu.alloc (.cells #[.string uj, .slice up un uc] 29)) rfl (by exact HOW.out) (pq, ts.length, cq, ts) rfl rfl (by exact HQN.out) (by exact HGV.out.at) ?_ ?_ ?_))
              · show 1 + ts.length ≤ 1000000; omega
              · simp
              intro v9 w9 ho hg
              have hb9 : Below w8.heap.size w8 w9 := HBV.out.grown hg (by simp; omega) (fun j hj => by have h := (World.ownsRow.lt HOW.out j hj).1; omega)
              have HS9 := Lib.hid (HS8.out.below hb9 (Nat.le_refl _))
              have HB9 : Hid (Below w.heap.size w w9) := below_next HB8.out hb9
              have HG9 : Hid (Sma.G w.heap.size v9 (⟨uj, up, un, uc, ul⟩ :: ts) w9) := ⟨ho.lift (Nat.le_trans hs8 hle), fun t ht => by
                rcases List.mem_cons.1 ht with rfl | ht
                · exact (Sma.push (by decide) HOW.out (HTV.out.lift hs8) hg)
                · exact ((HG8.out.2 t ht).below hb9 (Nat.le_refl _))⟩
              clear ho hg hb9 hbt
              go_wp2_with fail
              go_roundw
              case rel => exact ⟨n + 1, q1, s8, (⟨uj, up, un, uc, ul⟩ : Can.T) :: ts, by omega, hq1l, by go_num, rfl, HS9.out, HG9.out, ⟨by omega, by rw [List.length_cons]; omega⟩, HB9.out⟩
              case measure => simp [intOf]; omega
            · go_roundw
              case rel => exact ⟨n + 1, q1, s8, ts, by omega, hq1l, by go_num, rfl, HS8.out, HG8.out, ⟨by omega, by omega⟩, HB8.out⟩
              case measure => simp [intOf]; omega
          · have qd : decide ((d : Int) > 0) = false := decide_eq_false (by omega)
            go_wp2_with fail
            · go_wp2_with (go_at_call 15; refine (HT1.out _).mono ?_)
              first | rintro e wu t rfl hT _ hbt | rintro e wu ⟨⟨t, rfl, hT, _⟩, hbt⟩
              obtain ⟨uj, up, un, uc, ul⟩ := t
              have hbU : Below wu.heap.size wu (wu.alloc (.cells #[.string uj, .slice up un uc] 29)) := (Below.refl _ _).alloc (Nat.le_refl _) _
              have HBV := Lib.hid (below_next hbt hbU)
              have HTV : Hid (Sma.T wi.heap.size ⟨uj, up, un, uc, ul⟩ (wu.alloc (.cells #[.string uj, .slice up un uc] 29))) := hT.below hbU (Nat.le_refl _)
              have HOW : Hid (OwnR tgR wu.heap.size (.slice (some ⟨wu.heap.size, 0, none⟩) 1 1) [(⟨uj, up, un, uc, ul⟩ : Can.T)] (wu.alloc (.cells #[.string uj, .slice up un uc] 29))) := OwnR.made tgOk (Nat.le_refl _) (by rfl) rfl (by decide) (alloc_new wu (.cells #[.string uj, .slice up un uc] 29))
              have HGV := Lib.hid (HG.out.below HBV.out (Nat.le_refl _))
              have hle : wi.heap.size ≤ wu.heap.size := hbt.size
              clear hT hbU
              go_wp2_with (at_builtin; go_loud (refine wpList_appTE rfl _ _ rfl wu.heap.size _ [(⟨uj, up, un, uc, ul⟩ : Can.T)] (wu.alloc (.cells #[.string uj, .slice up un uc] 29)) rfl (by exact HOW.out) (pq, ts.length, cq, ts) rfl rfl (by exact HQN.out) (by exact HGV.out.at) ?_ ?_ ?_))
              · show 1 + ts.length ≤ 1000000; omega
              · simp
              intro v9 w9 ho hg
              have hb9 : Below wi.heap.size wi w9 := HBV.out.grown hg (by simp; omega) (fun j hj => by have h := (World.ownsRow.lt HOW.out j hj).1; omega)
              have HS9 := Lib.hid (HS.out.below hb9 (Nat.le_refl _))
              have HB9 : Hid (Below w.heap.size w w9) := below_next HBI.out hb9
              have HG9 : Hid (Sma.G w.heap.size v9 (⟨uj, up, un, uc, ul⟩ :: ts) w9) := ⟨ho.lift (Nat.le_trans hszi hle), fun t ht => by
                rcases List.mem_cons.1 ht with rfl | ht
                · exact (Sma.push (by decide) HOW.out (HTV.out.lift hszi) hg)
                · exact ((HG.out.2 t ht).below hb9 (Nat.le_refl _))⟩
              clear ho hg hb9 hbt
              go_wp2_with fail
              go_roundw
              case rel => exact ⟨n + 1, q1, ss, (⟨uj, up, un, uc, ul⟩ : Can.T) :: ts, by omega, hq1l, by go_num, rfl, HS9.out, HG9.out, ⟨by omega, by rw [List.length_cons]; omega⟩, HB9.out⟩
              case measure => simp [intOf]; omega
            · go_roundw
              case rel => exact ⟨n + 1, q1, ss, ts, by omega, hq1l, by go_num, rfl, HS.out, HG.out, ⟨by omega, by omega⟩, HBI.out⟩
              case measure => simp [intOf]; omega
        · obtain rfl : n = 3 := by omega
          have m2 : ¬ ((3 : Nat) : Int) < 3 := by omega
          have s1 := HL.out.1
          have s2 := HL.out.2
          have ry : Int.tmod (y : Int) 4 = ((y % 4 : Nat) : Int) := by rw [Int.tmod_eq_emod_of_nonneg (by omega)]; omega
          obtain ⟨u, hu⟩ : ∃ u, y % 4 = u := ⟨_, rfl⟩
          have hu4 : u < 4 := by omega
          rw [hu] at ry
          have ru : IntKind.i64.wrap ((u : Nat) : Int) = (u : Int) := by rw [IntKind.wrap_i64]; omega
          have r20 : IntKind.i64.wrap ((y : Int) + 1) = (y : Int) + 1 := by rw [IntKind.wrap_i64]; omega
          clear hu
          have HT1 := Lib.hid (HTZ.out u u rfl (by omega))
          have HTL := Lib.hid (fun ev ti => Sma.tells HS.out HG.out ev ti)
          go_wp2_with (go_at_call 12; refine (HTL.out _ _).mono ?_)
          first | rintro e w1 rfl hb1 | rintro e w1 ⟨rfl, hb1⟩
          have HB1 : Hid (Below w.heap.size w w1) := below_next HBI.out hb1
          have HS1 := Lib.hid (HS.out.below hb1 (Nat.le_refl _))
          clear hb1 HTL
          go_wp2_with (go_at_call 15; refine (HT1.out _).mono ?_)
          first | rintro e w2 t rfl hT _ hb2 | rintro e w2 ⟨⟨t, rfl, hT, _⟩, hb2⟩
          have HB2 : Hid (Below w.heap.size w w2) := below_next HB1.out hb2
          have HEN := Lib.hid (Sma.ends (HS1.out.below hb2 (Nat.le_refl _)) hT)
          clear hb2 hT
          go_wp2_with (go_at_call 14; refine HEN.out.mono ?_)
          first | rintro e w3 rfl hb3 | rintro e w3 ⟨rfl, hb3⟩
          have HB3 : Hid (Below w.heap.size w w3) := below_next HB2.out hb3
          clear hb3 HEN
          go_wp2_with fail
          go_roundw
          case rel => exact ⟨y + 1, by omega, by go_num, HB3.out⟩
          case measure => simp [intOf]; omega
    · obtain rfl : y = 1024 := by omega
      have n2 : ¬ ((1024 : Nat) : Int) < 1024 := by omega
      obtain ⟨V, hV⟩ : ∃ V, V = wj.alloc (.cells #[.int .i64 (-9223372036854775808), .int .i64 (-1), .int .i64 0, .int .i64 1, .int .i64 2, .int .i64 1099511627776, .int .i64 1099511627777, .int .i64 9223372036854775807] 3) := ⟨_, rfl⟩
      have hbV : Below wj.heap.size wj V := by rw [hV]; exact (Below.refl _ _).alloc (Nat.le_refl _) _
      have KV : Hid (V.heap[wj.heap.size]? = some (.cells Sma.A 3)) := by show _ = _; rw [hV]; exact alloc_new _ _
      have HBV : Hid (Below w.heap.size w V) := below_next HB.out hbV
      obtain ⟨ga, hga⟩ : ∃ ga, ga = wj.heap.size := ⟨_, rfl⟩
      rw [← hga] at KV
      have HVV := Lib.hid hV
      have HGA := Lib.hid hga
      clear hbV hV hga
      go_wp2_with fail
      rw [← HVV.out, ← HGA.out]
      clear HVV HGA HB hsz n2
      go_loopw [69] (fun i wr => ∃ k : Nat, k ≤ 8 ∧ i = .int .i64 (k : Int) ∧ Hid (Below w.heap.size w wr) ∧ Hid (wr.heap[ga]? = some (.cells Sma.A 3))) (fun i _ => 8 - (intOf i).toNat)
      case atStart => exact ⟨0, Nat.zero_le _, rfl, HBV.out, KV.out⟩
      case round =>
        obtain ⟨wk, rfl⟩ : ∃ wo : World, wo = wr := ⟨_, rfl⟩
        obtain ⟨k, hk, rfl, HB, KA⟩ := hrel
        have hsz := HB.out.size
        by_cases hlt : k < 8
        · obtain ⟨a, ha⟩ := Sma.intA k hlt
          have x0 : wk.cell? ⟨ga, k, none⟩ = some (.int .i64 a) := by rw [Lib.cell_of_heap KA.out]; exact ha
          have xl : ga < wk.heap.size := lt_of_heap KA.out
          have m1 : (0 : Int) ≤ (k : Int) := by omega
          have m2 : (k : Int) < 8 := by omega
          have r20 : IntKind.i64.wrap ((k : Int) + 1) = (k : Int) + 1 := by rw [IntKind.wrap_i64]; omega
          obtain ⟨V2, hV⟩ : ∃ V, V = wk.alloc (.cells #[.int .i64 (-9223372036854775808), .int .i64 (-1), .int .i64 0, .int .i64 1, .int .i64 2, .int .i64 3, .int .i64 1099511627776, .int .i64 1099511627777, .int .i64 9223372036854775807] 3) := ⟨_, rfl⟩
          have hbV : Below wk.heap.size wk V2 := by rw [hV]; exact (Below.refl _ _).alloc (Nat.le_refl _) _
          have KB2 : Hid (V2.heap[wk.heap.size]? = some (.cells Sma.B 3)) := by show _ = _; rw [hV]; exact alloc_new _ _
          have KA2 : Hid (V2.heap[ga]? = some (.cells Sma.A 3)) := below_kept hbV KA.out xl
          have HB2 : Hid (Below w.heap.size w V2) := below_next HB.out hbV
          obtain ⟨gb, hgb⟩ : ∃ gb, gb = wk.heap.size := ⟨_, rfl⟩
          rw [← hgb] at KB2
          have HVV := Lib.hid hV
          have HGB := Lib.hid hgb
          clear hbV hV hgb ha
          go_wp2_with fail
          rw [← HVV.out, ← HGB.out]
          clear HVV HGB HB hsz KA x0 xl m1 m2
          go_loopw [75] (fun i wr => ∃ j : Nat, j ≤ 9 ∧ i = .int .i64 (j : Int) ∧ Hid (Below w.heap.size w wr) ∧ Hid (wr.heap[ga]? = some (.cells Sma.A 3)) ∧ Hid (wr.heap[gb]? = some (.cells Sma.B 3))) (fun i _ => 9 - (intOf i).toNat)
          case atStart => exact ⟨0, Nat.zero_le _, rfl, HB2.out, KA2.out, KB2.out⟩
          case round =>
            obtain ⟨wl, rfl⟩ : ∃ wo : World, wo = wr := ⟨_, rfl⟩
            obtain ⟨j, hj, rfl, HB, KA, KB⟩ := hrel
            have hsz := HB.out.size
            by_cases hj9 : j < 9
            · obtain ⟨b, hb⟩ := Sma.intB j hj9
              have x0 : wl.cell? ⟨gb, j, none⟩ = some (.int .i64 b) := by rw [Lib.cell_of_heap KB.out]; exact hb
              have xl : gb < wl.heap.size := lt_of_heap KB.out
              have xla : ga < wl.heap.size := lt_of_heap KA.out
              have m1 : (0 : Int) ≤ (j : Int) := by omega
              have m2 : (j : Int) < 9 := by omega
              have r21 : IntKind.i64.wrap ((j : Int) + 1) = (j : Int) + 1 := by rw [IntKind.wrap_i64]; omega
              clear hb
              have HT0 := Lib.hid (HTZ.out 0 0 rfl (by omega))
              have HT1 := Lib.hid (HTZ.out 1 1 rfl (by omega))
              have HT2 := Lib.hid (HTZ.out 2 2 rfl (by omega))
              have HX0 : Hid (Below wl.heap.size wl wl) := Below.refl _ _
              go_wp2_with (go_at_call 15; refine (HT1.out _).mono ?_)
              first | rintro e w1a t rfl hT _ hbt | rintro e w1a ⟨⟨t, rfl, hT, _⟩, hbt⟩
              obtain ⟨t1aj, t1ap, t1an, t1ac, t1al⟩ := t
              have HXw1a : Hid (Below wl.heap.size wl w1a) := below_next HX0.out hbt
              have HTt1a : Hid (Sma.T wl.heap.size ⟨t1aj, t1ap, t1an, t1ac, t1al⟩ w1a) := hT.lift HX0.out.size
              clear hT hbt
              have hbo : Below w1a.heap.size w1a (w1a.alloc (.cells #[.string t1aj, .slice t1ap t1an t1ac, .int .i64 a, .int .i64 b, .bool false] 33)) := (Below.refl _ _).alloc (Nat.le_refl _) _
              have HXw1b : Hid (Below wl.heap.size wl (w1a.alloc (.cells #[.string t1aj, .slice t1ap t1an t1ac, .int .i64 a, .int .i64 b, .bool false] 33))) := below_next HXw1a.out hbo
              have HSw1b : Hid (Sma.S wl.heap.size (.slice (some ⟨w1a.heap.size, 0, none⟩) 1 1) [(⟨⟨t1aj, t1ap, t1an, t1ac, t1al⟩, a, b, false⟩ : Sl)] (w1a.alloc (.cells #[.string t1aj, .slice t1ap t1an t1ac, .int .i64 a, .int .i64 b, .bool false] 33))) := Sma.madeS HXw1a.out.size (by rfl) rfl (by decide) (alloc_new w1a (.cells #[.string t1aj, .slice t1ap t1an t1ac, .int .i64 a, .int .i64 b, .bool false] 33)) (fun s hs => by rw [List.mem_singleton] at hs; subst hs; exact HTt1a.out.below hbo (Nat.le_refl _))
              clear hbo
              go_wp2_with (go_at_call 15; refine (HT1.out _).mono ?_)
              first | rintro e w1c t rfl hT _ hbt | rintro e w1c ⟨⟨t, rfl, hT, _⟩, hbt⟩
              obtain ⟨t1bj, t1bp, t1bn, t1bc, t1bl⟩ := t
              have HXw1c : Hid (Below wl.heap.size wl w1c) := below_next HXw1b.out hbt
              have HTt1b : Hid (Sma.T wl.heap.size ⟨t1bj, t1bp, t1bn, t1bc, t1bl⟩ w1c) := hT.lift HXw1b.out.size
              have HSw1c := Lib.hid (HSw1b.out.below hbt (Nat.le_refl _))
              clear hT hbt
              go_wp2_with (go_at_call 15; refine (HT2.out _).mono ?_)
              first | rintro e w1d t rfl hT _ hbt | rintro e w1d ⟨⟨t, rfl, hT, _⟩, hbt⟩
              obtain ⟨t1cj, t1cp, t1cn, t1cc, t1cl⟩ := t
              have HXw1d : Hid (Below wl.heap.size wl w1d) := below_next HXw1c.out hbt
              have HTt1c : Hid (Sma.T wl.heap.size ⟨t1cj, t1cp, t1cn, t1cc, t1cl⟩ w1d) := hT.lift HXw1c.out.size
              have HSw1d := Lib.hid (HSw1c.out.below hbt (Nat.le_refl _))
              have HTt1b2 := Lib.hid (HTt1b.out.below hbt (Nat.le_refl _))
              clear hT hbt
              clear HTt1b
              have HTt1b := HTt1b2
              clear HTt1b2
              have hbo : Below w1d.heap.size w1d (w1d.alloc (.cells #[.string t1bj, .slice t1bp t1bn t1bc, .string t1cj, .slice t1cp t1cn t1cc] 29)) := (Below.refl _ _).alloc (Nat.le_refl _) _
              have HSw1e := Lib.hid (HSw1d.out.below hbo (Nat.le_refl _))
              have HXw1e : Hid (Below wl.heap.size wl (w1d.alloc (.cells #[.string t1bj, .slice t1bp t1bn t1bc, .string t1cj, .slice t1cp t1cn t1cc] 29))) := below_next HXw1d.out hbo
              have HGw1e : Hid (Sma.G wl.heap.size (.slice (some ⟨w1d.heap.size, 0, none⟩) 2 2) [(⟨t1bj, t1bp, t1bn, t1bc, t1bl⟩ : Can.T), ⟨t1cj, t1cp, t1cn, t1cc, t1cl⟩] (w1d.alloc (.cells #[.string t1bj, .slice t1bp t1bn t1bc, .string t1cj, .slice t1cp t1cn t1cc] 29))) := Sma.made HXw1d.out.size (by rfl) rfl (by decide) (alloc_new w1d (.cells #[.string t1bj, .slice t1bp t1bn t1bc, .string t1cj, .slice t1cp t1cn t1cc] 29)) (fun s hs => by simp only [List.mem_cons, List.not_mem_nil, or_false] at hs; rcases hs with rfl | rfl <;> first | exact HTt1b.out.below hbo (Nat.le_refl _) | exact HTt1c.out.below hbo (Nat.le_refl _))
              clear hbo
              have HTL := Lib.hid (Sma.tells HSw1e.out HGw1e.out 3 2)
              go_wp2_with (go_at_call 12; refine HTL.out.mono ?_)
              first | rintro e w1f rfl hbt | rintro e w1f ⟨rfl, hbt⟩
              have HXw1f : Hid (Below wl.heap.size wl w1f) := below_next HXw1e.out hbt
              clear hbt HTL
              go_wp2_with (go_at_call 15; refine (HT1.out _).mono ?_)
              first | rintro e w2a t rfl hT _ hbt | rintro e w2a ⟨⟨t, rfl, hT, _⟩, hbt⟩
              obtain ⟨t2aj, t2ap, t2an, t2ac, t2al⟩ := t
              have HXw2a : Hid (Below wl.heap.size wl w2a) := below_next HXw1f.out hbt
              have HTt2a : Hid (Sma.T wl.heap.size ⟨t2aj, t2ap, t2an, t2ac, t2al⟩ w2a) := hT.lift HXw1f.out.size
              clear hT hbt
              have hbo : Below w2a.heap.size w2a (w2a.alloc (.cells #[.string t2aj, .slice t2ap t2an t2ac, .int .i64 3, .int .i64 2, .bool false] 33)) := (Below.refl _ _).alloc (Nat.le_refl _) _
              have HXw2b : Hid (Below wl.heap.size wl (w2a.alloc (.cells #[.string t2aj, .slice t2ap t2an t2ac, .int .i64 3, .int .i64 2, .bool false] 33))) := below_next HXw2a.out hbo
              have HSw2b : Hid (Sma.S wl.heap.size (.slice (some ⟨w2a.heap.size, 0, none⟩) 1 1) [(⟨⟨t2aj, t2ap, t2an, t2ac, t2al⟩, 3, 2, false⟩ : Sl)] (w2a.alloc (.cells #[.string t2aj, .slice t2ap t2an t2ac, .int .i64 3, .int .i64 2, .bool false] 33))) := Sma.madeS HXw2a.out.size (by rfl) rfl (by decide) (alloc_new w2a (.cells #[.string t2aj, .slice t2ap t2an t2ac, .int .i64 3, .int .i64 2, .bool false] 33)) (fun s hs => by rw [List.mem_singleton] at hs; subst hs; exact HTt2a.out.below hbo (Nat.le_refl _))
              clear hbo
              go_wp2_with (go_at_call 15; refine (HT1.out _).mono ?_)
              first | rintro e w2c t rfl hT _ hbt | rintro e w2c ⟨⟨t, rfl, hT, _⟩, hbt⟩
              obtain ⟨t2bj, t2bp, t2bn, t2bc, t2bl⟩ := t
              have HXw2c : Hid (Below wl.heap.size wl w2c) := below_next HXw2b.out hbt
              have HTt2b : Hid (Sma.T wl.heap.size ⟨t2bj, t2bp, t2bn, t2bc, t2bl⟩ w2c) := hT.lift HXw2b.out.size
              have HSw2c := Lib.hid (HSw2b.out.below hbt (Nat.le_refl _))
              clear hT hbt
              go_wp2_with (go_at_call 15; refine (HT0.out _).mono ?_)
              first | rintro e w2d t rfl hT _ hbt | rintro e w2d ⟨⟨t, rfl, hT, _⟩, hbt⟩
              obtain ⟨t2cj, t2cp, t2cn, t2cc, t2cl⟩ := t
              have HXw2d : Hid (Below wl.heap.size wl w2d) := below_next HXw2c.out hbt
              have HTt2c : Hid (Sma.T wl.heap.size ⟨t2cj, t2cp, t2cn, t2cc, t2cl⟩ w2d) := hT.lift HXw2c.out.size
              have HSw2d := Lib.hid (HSw2c.out.below hbt (Nat.le_refl _))
              have HTt2b2 := Lib.hid (HTt2b.out.below hbt (Nat.le_refl _))
              clear hT hbt
              clear HTt2b
              have HTt2b := HTt2b2
              clear HTt2b2
              have hbo : Below w2d.heap.size w2d (w2d.alloc (.cells #[.string t2bj, .slice t2bp t2bn t2bc, .string t2cj, .slice t2cp t2cn t2cc] 29)) := (Below.refl _ _).alloc (Nat.le_refl _) _
              have HSw2e := Lib.hid (HSw2d.out.below hbo (Nat.le_refl _))
              have HXw2e : Hid (Below wl.heap.size wl (w2d.alloc (.cells #[.string t2bj, .slice t2bp t2bn t2bc, .string t2cj, .slice t2cp t2cn t2cc] 29))) := below_next HXw2d.out hbo
              have HGw2e : Hid (Sma.G wl.heap.size (.slice (some ⟨w2d.heap.size, 0, none⟩) 2 2) [(⟨t2bj, t2bp, t2bn, t2bc, t2bl⟩ : Can.T), ⟨t2cj, t2cp, t2cn, t2cc, t2cl⟩] (w2d.alloc (.cells #[.string t2bj, .slice t2bp t2bn t2bc, .string t2cj, .slice t2cp t2cn t2cc] 29))) := Sma.made HXw2d.out.size (by rfl) rfl (by decide) (alloc_new w2d (.cells #[.string t2bj, .slice t2bp t2bn t2bc, .string t2cj, .slice t2cp t2cn t2cc] 29)) (fun s hs => by simp only [List.mem_cons, List.not_mem_nil, or_false] at hs; rcases hs with rfl | rfl <;> first | exact HTt2b.out.below hbo (Nat.le_refl _) | exact HTt2c.out.below hbo (Nat.le_refl _))
              clear hbo
              have HTL := Lib.hid (Sma.tells HSw2e.out HGw2e.out a b)
              go_wp2_with (go_at_call 12; refine HTL.out.mono ?_)
              first | rintro e w2f rfl hbt | rintro e w2f ⟨rfl, hbt⟩
              have HXw2f : Hid (Below wl.heap.size wl w2f) := below_next HXw2e.out hbt
              clear hbt HTL
              have HBE : Hid (Below w.heap.size w w2f) := below_next HB.out HXw2f.out
              have KAE : Hid (w2f.heap[ga]? = some (.cells Sma.A 3)) := below_kept HXw2f.out KA.out xla
              have KBE : Hid (w2f.heap[gb]? = some (.cells Sma.B 3)) := below_kept HXw2f.out KB.out xl
              go_wp2_with fail
              go_roundw
              case rel => exact ⟨j + 1, by omega, by go_num, HBE.out, KAE.out, KBE.out⟩
              case measure => simp [intOf]; omega
            · have m2 : ¬ (j : Int) < 9 := by omega
              go_wp2_with fail
              go_roundw
              case rel => exact ⟨k + 1, by omega, by go_num, HB.out, KA.out⟩
              case measure => simp [intOf]; omega
        · have m2 : ¬ (k : Int) < 8 := by omega
          have HBK := HB
          have hszk := HB.out.size
          have HT0 := Lib.hid (HTZ.out 0 0 rfl (by omega))
          have HT1 := Lib.hid (HTZ.out 1 1 rfl (by omega))
          have HX0 : Hid (Below wk.heap.size wk wk) := Below.refl _ _
          clear KA HB hsz
          go_wp2_with (go_at_call 15; refine (HT0.out _).mono ?_)
          first | rintro e v1 t rfl hT _ hbt | rintro e v1 ⟨⟨t, rfl, hT, _⟩, hbt⟩
          obtain ⟨taj, tap, tan, tac, tal⟩ := t
          have HXv1 : Hid (Below wk.heap.size wk v1) := below_next HX0.out hbt
          have HTta : Hid (Sma.T wk.heap.size ⟨taj, tap, tan, tac, tal⟩ v1) := hT.lift HX0.out.size
          clear hT hbt
          go_wp2_with (go_at_call 15; refine (HT1.out _).mono ?_)
          first | rintro e v2 t rfl hT _ hbt | rintro e v2 ⟨⟨t, rfl, hT, _⟩, hbt⟩
          obtain ⟨tbj, tbp, tbn, tbc, tbl⟩ := t
          have HXv2 : Hid (Below wk.heap.size wk v2) := below_next HXv1.out hbt
          have HTtb : Hid (Sma.T wk.heap.size ⟨tbj, tbp, tbn, tbc, tbl⟩ v2) := hT.lift HXv1.out.size
          have HTa2 := Lib.hid (HTta.out.below hbt (Nat.le_refl _))
          clear hT hbt
          have hbo : Below v2.heap.size v2 ((v2.alloc (.cells #[.string taj, .slice tap tan tac, .int .i64 5, .int .i64 5, .bool false, .string tbj, .slice tbp tbn tbc, .int .i64 5, .int .i64 5, .bool true] 33)).alloc (.cells #[.string ⟨#[98]⟩, .string ⟨#[49]⟩, .string ⟨#[97]⟩, .string ⟨#[49]⟩] 37)) := ((Below.refl _ _).alloc (Nat.le_refl _) _).alloc (by simp) _
          have HXv4 : Hid (Below wk.heap.size wk ((v2.alloc (.cells #[.string taj, .slice tap tan tac, .int .i64 5, .int .i64 5, .bool false, .string tbj, .slice tbp tbn tbc, .int .i64 5, .int .i64 5, .bool true] 33)).alloc (.cells #[.string ⟨#[98]⟩, .string ⟨#[49]⟩, .string ⟨#[97]⟩, .string ⟨#[49]⟩] 37))) := below_next HXv2.out hbo
          have hs2 := HXv2.out.size
          have HGD4 : Hid (Sma.S wk.heap.size (.slice (some ⟨v2.heap.size, 0, none⟩) 2 2) [(⟨⟨taj, tap, tan, tac, tal⟩, 5, 5, false⟩ : Sl), ⟨⟨tbj, tbp, tbn, tbc, tbl⟩, 5, 5, true⟩] ((v2.alloc (.cells #[.string taj, .slice tap tan tac, .int .i64 5, .int .i64 5, .bool false, .string tbj, .slice tbp tbn tbc, .int .i64 5, .int .i64 5, .bool true] 33)).alloc (.cells #[.string ⟨#[98]⟩, .string ⟨#[49]⟩, .string ⟨#[97]⟩, .string ⟨#[49]⟩] 37))) := Sma.madeS hs2 (by rfl) rfl (by decide) (alloc_kept (alloc_new v2 (.cells #[.string taj, .slice tap tan tac, .int .i64 5, .int .i64 5, .bool false, .string tbj, .slice tbp tbn tbc, .int .i64 5, .int .i64 5, .bool true] 33))) (fun s hs => by simp only [List.mem_cons, List.not_mem_nil, or_false] at hs; rcases hs with rfl | rfl <;> first | exact HTa2.out.below hbo (Nat.le_refl _) | exact HTtb.out.below hbo (Nat.le_refl _))
          have hk4 : ((v2.alloc (.cells #[.string taj, .slice tap tan tac, .int .i64 5, .int .i64 5, .bool false, .string tbj, .slice tbp tbn tbc, .int .i64 5, .int .i64 5, .bool true] 33)).alloc (.cells #[.string ⟨#[98]⟩, .string ⟨#[49]⟩, .string ⟨#[97]⟩, .string ⟨#[49]⟩] 37)).heap[v2.heap.size + 1]? = some (.cells #[.string ⟨#[98]⟩, .string ⟨#[49]⟩, .string ⟨#[97]⟩, .string ⟨#[49]⟩] 37) := by simpa using alloc_new (v2.alloc (.cells #[.string taj, .slice tap tan tac, .int .i64 5, .int .i64 5, .bool false, .string tbj, .slice tbp tbn tbc, .int .i64 5, .int .i64 5, .bool true] 33)) (.cells #[.string ⟨#[98]⟩, .string ⟨#[49]⟩, .string ⟨#[97]⟩, .string ⟨#[49]⟩] 37)
          have HT34 : Hid (Sma.T wk.heap.size (⟨⟨#[106]⟩, some ⟨v2.heap.size + 1, 0, none⟩, 2, 2, [⟨⟨#[98]⟩, ⟨#[49]⟩⟩, ⟨⟨#[97]⟩, ⟨#[49]⟩⟩]⟩ : Can.T) ((v2.alloc (.cells #[.string taj, .slice tap tan tac, .int .i64 5, .int .i64 5, .bool false, .string tbj, .slice tbp tbn tbc, .int .i64 5, .int .i64 5, .bool true] 33)).alloc (.cells #[.string ⟨#[98]⟩, .string ⟨#[49]⟩, .string ⟨#[97]⟩, .string ⟨#[49]⟩] 37))) := ⟨⟨rfl, ⟨by rfl, .inr ⟨_, 2, _, rfl, by omega, hk4, Nat.le_refl _, by decide, rfl, rfl⟩⟩⟩, Sma.ok3⟩
          clear hbo hk4 HTta HTa2 HTtb
          go_wp2_with (go_at_call 15; refine (HT1.out _).mono ?_)
          first | rintro e v5 t rfl hT _ hbt | rintro e v5 ⟨⟨t, rfl, hT, _⟩, hbt⟩
          obtain ⟨tcj, tcp, tcn, tcc, tcl⟩ := t
          have HXv5 : Hid (Below wk.heap.size wk v5) := below_next HXv4.out hbt
          have HTtc : Hid (Sma.T wk.heap.size ⟨tcj, tcp, tcn, tcc, tcl⟩ v5) := hT.lift HXv4.out.size
          have HGD5 := Lib.hid (HGD4.out.below hbt (Nat.le_refl _))
          have HT35 := Lib.hid (HT34.out.below hbt (Nat.le_refl _))
          have hftc : ∀ W : World, (Instr.field 29 (.agg #[.string tcj, .slice tcp tcn tcc]) 1).run Try.prog W = .ok (.slice tcp tcn tcc) W := fun W => by kernel_rfl
          clear hT hbt
          go_wp2_with (go_at_call 15; refine (HT1.out _).mono ?_)
          first | rintro e v6 t rfl hT ht1 hbt | rintro e v6 ⟨⟨t, rfl, hT, ht1⟩, hbt⟩
          obtain ⟨tdj, tdp, tdn, tdc, tdl⟩ := t
          have HXv6 : Hid (Below wk.heap.size wk v6) := below_next HXv5.out hbt
          have HTtd : Hid (Sma.T wk.heap.size ⟨tdj, tdp, tdn, tdc, tdl⟩ v6) := hT.lift HXv5.out.size
          have HX56 := Lib.hid hbt
          have HTD := Lib.hid hT
          have HTDV := Lib.hid ht1
          have hftd : ∀ W : World, (Instr.field 29 (.agg #[.string tdj, .slice tdp tdn tdc]) 1).run Try.prog W = .ok (.slice tdp tdn tdc) W := fun W => by kernel_rfl
          clear hT hbt
          have hs5 := HXv5.out.size
          have hs56 := HX56.out.size
          have hdl : tdl.length + 1 ≤ 4294967296 := by have h1 : tdl = (Po.tgt 1).2 := congrArg Prod.snd HTDV.out; rw [h1]; decide
          go_wp2_with (at_builtin; go_loud (refine wpList_pushL 27 Try.underlying27 rfl _ _ rfl v5.heap.size _ tdl v6 rfl (by exact HTD.out.1.2) ⟨⟨#[122]⟩, ⟨#[49]⟩⟩ _ _ rfl _ rfl rfl hdl hs56 ?_))
          intro v7 w7 hro hg
          obtain ⟨zp, zc, rfl, _⟩ := hro.open
          obtain ⟨zn, hzn⟩ : ∃ zn, (tdl ++ [(⟨⟨#[122]⟩, ⟨#[49]⟩⟩ : Lab.L)]).length = zn := ⟨_, rfl⟩
          rw [hzn] at hro ⊢
          have hb57 : Below v5.heap.size v5 w7 := (HX56.out.alloc hs56 _).grown hg (by simp; omega) (fun j hj => (World.ownsRow.lt HTD.out.1.2 j hj).1)
          have HX7 : Hid (Below wk.heap.size wk w7) := below_next HXv5.out hb57
          have HGD7 := Lib.hid (HGD5.out.below hb57 (Nat.le_refl _))
          have HT37 := Lib.hid (HT35.out.below hb57 (Nat.le_refl _))
          have htc7 := HTtc.out.below hb57 (Nat.le_refl _)
          have HT47 : Hid (Sma.T wk.heap.size ⟨⟨#[105]⟩, tcp, tcn, tcc, tcl⟩ w7) := ⟨⟨htc7.1.1, htc7.1.2⟩, ⟨(by show 1 ≤ 1000; decide), htc7.2.2.1, htc7.2.2.2⟩⟩
          have HT57 : Hid (Sma.T wk.heap.size ⟨⟨#[106]⟩, zp, zn, zc, tdl ++ [(⟨⟨#[122]⟩, ⟨#[49]⟩⟩ : Lab.L)]⟩ w7) := ⟨⟨hzn, row_lift hro hs5⟩, by
            have h1 : tdl = (Po.tgt 1).2 := congrArg Prod.snd HTDV.out
            show Po.okU (⟨#[106]⟩, tdl ++ [_])
            rw [h1]
            exact Sma.ok5⟩
          have hs7 := HX7.out.size
          clear hro hg hb57 htc7 HTD HTDV HTtc HTtd HT35 HGD5 HT34 HGD4 hdl HX56 hzn
          obtain ⟨V8, hV⟩ : ∃ V, V = w7.alloc (.cells #[.string ⟨#[]⟩, .slice none 0 0, .string ⟨#[106]⟩, .slice none 0 0, .string ⟨#[255]⟩, .slice none 0 0, .string ⟨#[106]⟩, .slice (some ⟨v2.heap.size + 1, 0, none⟩) 2 2, .string ⟨#[105]⟩, .slice tcp tcn tcc, .string ⟨#[106]⟩, .slice zp zn zc] 29) := ⟨_, rfl⟩
          obtain ⟨g6, hg6⟩ : ∃ g6, g6 = w7.heap.size := ⟨_, rfl⟩
          have hb8 : Below w7.heap.size w7 V8 := by rw [hV]; exact (Below.refl _ _).alloc (Nat.le_refl _) _
          have HG8 : Hid (Sma.G wk.heap.size (.slice (some ⟨g6, 0, none⟩) 6 6) [(⟨⟨#[]⟩, none, 0, 0, []⟩ : Can.T), ⟨⟨#[106]⟩, none, 0, 0, []⟩, ⟨⟨#[255]⟩, none, 0, 0, []⟩, ⟨⟨#[106]⟩, some ⟨v2.heap.size + 1, 0, none⟩, 2, 2, [⟨⟨#[98]⟩, ⟨#[49]⟩⟩, ⟨⟨#[97]⟩, ⟨#[49]⟩⟩]⟩, ⟨⟨#[105]⟩, tcp, tcn, tcc, tcl⟩, ⟨⟨#[106]⟩, zp, zn, zc, tdl ++ [(⟨⟨#[122]⟩, ⟨#[49]⟩⟩ : Lab.L)]⟩] V8) := Sma.made (by rw [hg6]; exact hs7) (by rfl) rfl (by decide) (by rw [hV, hg6]; exact alloc_new w7 (.cells #[.string ⟨#[]⟩, .slice none 0 0, .string ⟨#[106]⟩, .slice none 0 0, .string ⟨#[255]⟩, .slice none 0 0, .string ⟨#[106]⟩, .slice (some ⟨v2.heap.size + 1, 0, none⟩) 2 2, .string ⟨#[105]⟩, .slice tcp tcn tcc, .string ⟨#[106]⟩, .slice zp zn zc] 29)) (fun s hs => by
            simp only [List.mem_cons, List.not_mem_nil, or_false] at hs
            rcases hs with rfl | rfl | rfl | rfl | rfl | rfl
            · exact Sma.t0 _ _ _ (by decide)
            · exact Sma.t0 _ _ _ (by decide)
            · exact Sma.t0 _ _ _ (by decide)
            · exact HT37.out.below hb8 (Nat.le_refl _)
            · exact HT47.out.below hb8 (Nat.le_refl _)
            · exact HT57.out.below hb8 (Nat.le_refl _))
          have HGD8 := Lib.hid (HGD7.out.below hb8 (Nat.le_refl _))
          have HX8 : Hid (Below wk.heap.size wk V8) := below_next HX7.out hb8
          have HV8 := Lib.hid hV
          have HG6 := Lib.hid hg6
          have hgd : v2.heap.size < V8.heap.size := by have h1 := hb8.size; have h2 := World.ownsRow.lt HGD8.out.1 _ rfl; exact h2.2
          have hg6l : g6 < V8.heap.size := by have h2 := World.ownsRow.lt HG8.out.1 _ rfl; exact h2.2
          clear hV hg6 hb8 HGD7 HT37 HT47 HT57 HXv5 HXv4 HX7
          go_wp2_with fail
          rw [← HV8.out, ← HG6.out]
          clear HV8 HG6
          go_loopw [126] (fun i wr => ∃ k : Nat, k ≤ 6 ∧ i = .int .i64 (k : Int) ∧ Hid (Below V8.heap.size V8 wr)) (fun i _ => 6 - (intOf i).toNat)
          case atStart => exact ⟨0, Nat.zero_le _, rfl, Below.refl _ _⟩
          case round =>
            obtain ⟨wm, rfl⟩ : ∃ wo : World, wo = wr := ⟨_, rfl⟩
            obtain ⟨i, hi, rfl, HM⟩ := hrel
            have hszm := HM.out.size
            by_cases hi6 : i < 6
            · have q1 : (i : Int) < 6 := by omega
              have q0 : (0 : Int) ≤ (i : Int) := by omega
              have r22 : IntKind.i64.wrap ((i : Int) + 1) = (i : Int) + 1 := by rw [IntKind.wrap_i64]; omega
              have HGm := Lib.hid (HG8.out.below HM.out (Nat.le_refl _))
              obtain ⟨x0, x1⟩ := HGm.out.cells i hi6
              have HTX := Lib.hid (HGm.out.2 _ (List.getElem_mem (l := [(⟨⟨#[]⟩, none, 0, 0, []⟩ : Can.T), ⟨⟨#[106]⟩, none, 0, 0, []⟩, ⟨⟨#[255]⟩, none, 0, 0, []⟩, ⟨⟨#[106]⟩, some ⟨v2.heap.size + 1, 0, none⟩, 2, 2, [⟨⟨#[98]⟩, ⟨#[49]⟩⟩, ⟨⟨#[97]⟩, ⟨#[49]⟩⟩]⟩, ⟨⟨#[105]⟩, tcp, tcn, tcc, tcl⟩, ⟨⟨#[106]⟩, zp, zn, zc, tdl ++ [(⟨⟨#[122]⟩, ⟨#[49]⟩⟩ : Lab.L)]⟩]) hi6))
              obtain ⟨T, hT⟩ : ∃ T, [(⟨⟨#[]⟩, none, 0, 0, []⟩ : Can.T), ⟨⟨#[106]⟩, none, 0, 0, []⟩, ⟨⟨#[255]⟩, none, 0, 0, []⟩, ⟨⟨#[106]⟩, some ⟨v2.heap.size + 1, 0, none⟩, 2, 2, [⟨⟨#[98]⟩, ⟨#[49]⟩⟩, ⟨⟨#[97]⟩, ⟨#[49]⟩⟩]⟩, ⟨⟨#[105]⟩, tcp, tcn, tcc, tcl⟩, ⟨⟨#[106]⟩, zp, zn, zc, tdl ++ [(⟨⟨#[122]⟩, ⟨#[49]⟩⟩ : Lab.L)]⟩][i]'hi6 = T := ⟨_, rfl⟩
              rw [hT] at x0 x1 HTX
              obtain ⟨xj, xp, xn, xc, xl⟩ := T
              replace x0 : wm.cell? ⟨g6, i * 2, none⟩ = some (.string xj) := x0
              replace x1 : wm.cell? ⟨g6, i * 2 + 1, none⟩ = some (.slice xp xn xc) := x1
              have xlm : g6 < wm.heap.size := by omega
              clear hT HGm
              obtain ⟨U, hU⟩ : ∃ U, U = wm.alloc (.cells #[.string xj, .slice xp xn xc] 29) := ⟨_, rfl⟩
              obtain ⟨bx, hbx⟩ : ∃ bx, bx = wm.heap.size := ⟨_, rfl⟩
              have hbU : Below wm.heap.size wm U := by rw [hU]; exact (Below.refl _ _).alloc (Nat.le_refl _) _
              have kU : U.heap[bx]? = some (.cells #[.string xj, .slice xp xn xc] 29) := by rw [hU, hbx]; exact alloc_new _ _
              have lU : bx < U.heap.size := lt_of_heap kU
              have u0 : U.cell? ⟨bx, 0, none⟩ = some (.string xj) := by rw [Lib.cell_of_heap kU]; rfl
              have u1 : U.cell? ⟨bx, 1, none⟩ = some (.slice xp xn xc) := by rw [Lib.cell_of_heap kU]; rfl
              have HBU : Hid (Below V8.heap.size V8 U) := below_next HM.out hbU
              have HGU := Lib.hid (HGD8.out.below HBU.out (Nat.le_refl _))
              have HTU := Lib.hid (HTX.out.below hbU (Nat.le_refl _))
              have HCU : Hid (∀ w', Below U.heap.size U w' → Below U.heap.size U w' ∧ w'.cell? ⟨bx, 0, none⟩ = some (.string xj) ∧ w'.cell? ⟨bx, 1, none⟩ = some (.slice xp xn xc)) := fun w' hb => ⟨hb, (hb.cell (p := ⟨bx, 0, none⟩) lU).trans u0, (hb.cell (p := ⟨bx, 1, none⟩) lU).trans u1⟩
              have HUU := Lib.hid hU
              have HBX := Lib.hid hbx
              clear hU hbx hbU kU HTX
              go_wp2_with fail
              rw [← HUU.out, ← HBX.out]
              clear HUU HBX x0 x1
              refine wp_region_held_drew (S := (fun w' => Below U.heap.size U w' ∧ w'.cell? ⟨bx, 0, none⟩ = some (.string xj) ∧ w'.cell? ⟨bx, 1, none⟩ = some (.slice xp xn xc))) (by kernel_rfl) (HCU.out _ ((Below.refl _ U).drew)) (fun hHeld => ?_)
              refine Rnd.take (i := 0) (v := ?_) rfl (by kernel_rfl) (by kernel_rfl) (by kernel_rfl) (fun _ _ _ h => h) (.inl ⟨by rfl, ?_⟩) (by assumption) ?_
              rotate_left
              · (intro w9 hS9; (try dsimp only at hS9); go_simp; try with_reducible rfl)
              try simp only [Act.put, List.setIfInBounds_toArray, List.set_cons_zero, List.set_cons_succ]
              refine Rnd.take (i := 2) (v := ?_) rfl (by kernel_rfl) (by kernel_rfl) (by kernel_rfl) (fun _ _ _ h => h) (.inl ⟨by rfl, ?_⟩) (by assumption) ?_
              rotate_left
              · (intro w9 hS9; (try dsimp only at hS9); go_simp; try with_reducible rfl)
              try simp only [Act.put, List.setIfInBounds_toArray, List.set_cons_zero, List.set_cons_succ]
              refine wpAnyH_ready (rs := [1]) (by kernel_rfl) (by simp) ?_
              refine AllReadyH.cons rfl (fun K hK => ?_) AllReadyH.nil
              go_simp
              have hd0 : Below U.heap.size U U.drew := (Below.refl _ U).drew
              refine (HT0.out _).mono ?_
              rintro e wA ⟨⟨t, rfl, hTA, _⟩, hbA⟩
              obtain ⟨aj, ap, an, ac, al⟩ := t
              have hd1 : Below U.heap.size U wA := below_next hd0 hbA
              refine hK.out _ _ (HCU.out _ hd1) (fun hHeld => ?_)
              clear hK K
              skip
              refine wpAnyH_ready (rs := [3]) (by kernel_rfl) (by simp) ?_
              refine AllReadyH.cons rfl (fun K hK => ?_) AllReadyH.nil
              go_simp
              have hd2 : Below U.heap.size U (wA.alloc (.cells #[.string aj, .slice ap an ac, .string xj, .slice xp xn xc] 29)) := hd1.alloc hd1.size _
              refine hK.out _ _ (HCU.out _ hd2) (fun hHeld => ?_)
              clear hK K
              try simp only [Act.put, List.setIfInBounds_toArray, List.set_cons_zero, List.set_cons_succ]
              refine wpAnyH_ready (rs := [4]) (by kernel_rfl) (by simp) ?_
              refine AllReadyH.cons rfl (fun K hK => ?_) AllReadyH.nil
              go_simp
              have hG2 : Sma.G 0 (.slice (some ⟨wA.heap.size, 0, none⟩) 2 2) [(⟨aj, ap, an, ac, al⟩ : Can.T), ⟨xj, xp, xn, xc, xl⟩] (wA.alloc (.cells #[.string aj, .slice ap an ac, .string xj, .slice xp xn xc] 29)) := Sma.made (Nat.zero_le _) (by rfl) rfl (by decide) (alloc_new wA (.cells #[.string aj, .slice ap an ac, .string xj, .slice xp xn xc] 29)) (fun s hs => by
                simp only [List.mem_cons, List.not_mem_nil, or_false] at hs
                rcases hs with rfl | rfl
                · exact (hTA.below ((Below.refl _ _).alloc (Nat.le_refl _) _) (Nat.le_refl _)).lift (Nat.zero_le _)
                · exact (HTU.out.below hd2 (Nat.le_refl _)).lift (Nat.zero_le _))
              refine (Sma.tells (HGU.out.below hd2 (Nat.le_refl _)) hG2 5 5).mono ?_
              rintro e wB ⟨rfl, hbB⟩
              have hd3 : Below U.heap.size U wB := below_next hd2 hbB
              refine hK.out _ _ (HCU.out _ hd3) (fun hHeld => ?_)
              clear hK K
              try simp only [Act.put, List.setIfInBounds_toArray, List.set_cons_zero, List.set_cons_succ]
              refine Rnd.take (i := 5) (v := ?_) rfl (by kernel_rfl) (by kernel_rfl) (by kernel_rfl) (fun _ _ _ h => h) (.inl ⟨by rfl, ?_⟩) (by assumption) ?_
              rotate_left
              · (intro w9 hS9; (try dsimp only at hS9); go_simp; try with_reducible rfl)
              try simp only [Act.put, List.setIfInBounds_toArray, List.set_cons_zero, List.set_cons_succ]
              refine Rnd.take (i := 6) (v := ?_) rfl (by kernel_rfl) (by kernel_rfl) (by kernel_rfl) (fun _ _ _ h => h) (.inl ⟨by rfl, ?_⟩) (by assumption) ?_
              rotate_left
              · (intro w9 hS9; (try dsimp only at hS9); go_simp; try with_reducible rfl)
              try simp only [Act.put, List.setIfInBounds_toArray, List.set_cons_zero, List.set_cons_succ]
              refine Rnd.take (i := 7) (v := ?_) rfl (by kernel_rfl) (by kernel_rfl) (by kernel_rfl) (fun _ _ _ h => h) (.inl ⟨by rfl, ?_⟩) (by assumption) ?_
              rotate_left
              · (intro w9 hS9; (try dsimp only at hS9); go_simp; try with_reducible rfl)
              try simp only [Act.put, List.setIfInBounds_toArray, List.set_cons_zero, List.set_cons_succ]
              refine Rnd.take (i := 8) (v := ?_) rfl (by kernel_rfl) (by kernel_rfl) (by kernel_rfl) (fun _ _ _ h => h) (.inl ⟨by rfl, ?_⟩) (by assumption) ?_
              rotate_left
              · (intro w9 hS9; (try dsimp only at hS9); go_simp; try with_reducible rfl)
              try simp only [Act.put, List.setIfInBounds_toArray, List.set_cons_zero, List.set_cons_succ]
              refine wpAnyH_ready (rs := [9]) (by kernel_rfl) (by simp) ?_
              refine AllReadyH.cons rfl (fun K hK => ?_) AllReadyH.nil
              go_simp
              refine (Sma.ends (HGU.out.below hd3 (Nat.le_refl _)) (HTU.out.below hd3 (Nat.le_refl _))).mono ?_
              rintro e wC ⟨rfl, hbC⟩
              have hd4 : Below U.heap.size U wC := below_next hd3 hbC
              refine hK.out _ _ (HCU.out _ hd4) (fun hHeld => ?_)
              clear hK K
              try simp only [Act.put, List.setIfInBounds_toArray, List.set_cons_zero, List.set_cons_succ]
              refine Rnd.take (i := 10) (v := ?_) rfl (by kernel_rfl) (by kernel_rfl) (by kernel_rfl) (fun _ _ _ h => h) (.inl ⟨by rfl, ?_⟩) (by assumption) ?_
              rotate_left
              · (intro w9 hS9; (try dsimp only at hS9); go_simp; try with_reducible rfl)
              try simp only [Act.put, List.setIfInBounds_toArray, List.set_cons_zero, List.set_cons_succ]
              refine Rnd.take (i := 11) (v := ?_) rfl (by kernel_rfl) (by kernel_rfl) (by kernel_rfl) (fun _ _ _ h => h) (.inl ⟨by rfl, ?_⟩) (by assumption) ?_
              rotate_left
              · (intro w9 hS9; (try dsimp only at hS9); go_simp; try with_reducible rfl)
              try simp only [Act.put, List.setIfInBounds_toArray, List.set_cons_zero, List.set_cons_succ]
              refine Rnd.take (i := 12) (v := ?_) rfl (by kernel_rfl) (by kernel_rfl) (by kernel_rfl) (fun _ _ _ h => h) (.inl ⟨by rfl, ?_⟩) (by assumption) ?_
              rotate_left
              · (intro w9 hS9; (try dsimp only at hS9); go_simp; try with_reducible rfl)
              try simp only [Act.put, List.setIfInBounds_toArray, List.set_cons_zero, List.set_cons_succ]
              refine Rnd.take (i := 13) (v := ?_) rfl (by kernel_rfl) (by kernel_rfl) (by kernel_rfl) (fun _ _ _ h => h) (.inl ⟨by rfl, ?_⟩) (by assumption) ?_
              rotate_left
              · (intro w9 hS9; (try dsimp only at hS9); go_simp; try with_reducible rfl)
              try simp only [Act.put, List.setIfInBounds_toArray, List.set_cons_zero, List.set_cons_succ]
              refine Rnd.take (i := 14) (v := ?_) rfl (by kernel_rfl) (by kernel_rfl) (by kernel_rfl) (fun _ _ _ h => h) (.inl ⟨by rfl, ?_⟩) (by assumption) ?_
              rotate_left
              · (intro w9 hS9; (try dsimp only at hS9); go_simp; try with_reducible rfl)
              try simp only [Act.put, List.setIfInBounds_toArray, List.set_cons_zero, List.set_cons_succ]
              refine Rnd.take (i := 15) (v := ?_) rfl (by kernel_rfl) (by kernel_rfl) (by kernel_rfl) (fun _ _ _ h => h) (.inl ⟨by rfl, ?_⟩) (by assumption) ?_
              rotate_left
              · (intro w9 hS9; (try dsimp only at hS9); go_simp; try with_reducible rfl)
              try simp only [Act.put, List.setIfInBounds_toArray, List.set_cons_zero, List.set_cons_succ]
              refine Rnd.take (i := 16) (v := ?_) rfl (by kernel_rfl) (by kernel_rfl) (by kernel_rfl) (fun _ _ _ h => h) (.inl ⟨by rfl, ?_⟩) (by assumption) ?_
              rotate_left
              · (intro w9 hS9; (try dsimp only at hS9); go_simp; try with_reducible rfl)
              try simp only [Act.put, List.setIfInBounds_toArray, List.set_cons_zero, List.set_cons_succ]
              refine wpAnyH_ready (rs := [17]) (by kernel_rfl) (by simp) ?_
              refine AllReadyH.cons rfl (fun K hK => ?_) AllReadyH.nil
              go_simp
              have hd5 : Below U.heap.size U (wC.alloc (.cells #[.string xj, .slice xp xn xc, .int .i64 5, .int .i64 1, .bool false] 33)) := hd4.alloc hd4.size _
              refine hK.out _ _ (HCU.out _ hd5) (fun hHeld => ?_)
              clear hK K
              try simp only [Act.put, List.setIfInBounds_toArray, List.set_cons_zero, List.set_cons_succ]
              refine wpAnyH_ready (rs := [18]) (by kernel_rfl) (by simp) ?_
              refine AllReadyH.cons rfl (fun K hK => ?_) AllReadyH.nil
              refine step_growRec slOk 22 Try.underlying22 (by kernel_rfl) _ _ (by rfl) [(⟨⟨taj, tap, tan, tac, tal⟩, 5, 5, false⟩ : Sl)] 1 ⟨v2.heap.size, 0, none⟩ (by rfl) rfl (by have h9 := (HGU.out.below hd5 (Nat.le_refl _)).news 0 1 (by show 0 + 1 ≤ 2; decide); exact h9) ⟨⟨xj, xp, xn, xc, xl⟩, 5, 1, false⟩ _ (by rfl) wC.heap.size 1 (by rfl) (alloc_new wC (.cells #[.string xj, .slice xp xn xc, .int .i64 5, .int .i64 1, .bool false] 33)) (by decide) ?_
              intro g7 c7 wD hro7 hg7
              have hd6 : Below U.heap.size U wD := hd5.grown hg7 hd5.size (fun j hj => nomatch hj)
              have hS7 : Sma.S 0 _ _ wD := Sma.S.app hro7 (fun s hs => by rw [List.mem_singleton] at hs; subst hs; exact (HGU.out.2 _ (List.mem_cons_self ..)).below hd6 (Nat.le_refl _)) (HTU.out.below hd6 (Nat.le_refl _))
              clear hro7 hg7
              refine hK.out _ _ (HCU.out _ hd6) (fun hHeld => ?_)
              clear hK K
              simp only [List.getElem_toArray, List.getElem_cons_succ, List.getElem_cons_zero]
              try simp only [Act.put, List.setIfInBounds_toArray, List.set_cons_zero, List.set_cons_succ]
              refine wpAnyH_ready (rs := [19]) (by kernel_rfl) (by simp) ?_
              refine AllReadyH.cons rfl (fun K hK => ?_) AllReadyH.nil
              go_simp
              refine (Sma.tells hS7 (Sma.G.nil 0 _) 5 5).mono ?_
              rintro e wE ⟨rfl, hbE⟩
              have hd7 : Below U.heap.size U wE := below_next hd6 hbE
              refine hK.out _ _ (HCU.out _ hd7) (fun hHeld => ?_)
              clear hK K
              try simp only [Act.put, List.setIfInBounds_toArray, List.set_cons_zero, List.set_cons_succ]
              refine Rnd.take (i := 20) (v := ?_) rfl (by kernel_rfl) (by kernel_rfl) (by kernel_rfl) (fun _ _ _ h => h) (.inl ⟨by rfl, ?_⟩) (by assumption) ?_
              rotate_left
              · (intro w9 hS9; (try dsimp only at hS9); go_simp; try with_reducible rfl)
              try simp only [Act.put, List.setIfInBounds_toArray, List.set_cons_zero, List.set_cons_succ]
              refine Rnd.take (i := 21) (v := ?_) rfl (by kernel_rfl) (by kernel_rfl) (by kernel_rfl) (fun _ _ _ h => h) (.inl ⟨by rfl, ?_⟩) (by assumption) ?_
              rotate_left
              · (intro w9 hS9; (try dsimp only at hS9); go_simp; try with_reducible rfl)
              try simp only [Act.put, List.setIfInBounds_toArray, List.set_cons_zero, List.set_cons_succ]
              refine Rnd.take (i := 22) (v := ?_) rfl (by kernel_rfl) (by kernel_rfl) (by kernel_rfl) (fun _ _ _ h => h) (.inl ⟨by rfl, ?_⟩) (by assumption) ?_
              rotate_left
              · (intro w9 hS9; (try dsimp only at hS9); go_simp; try with_reducible rfl)
              try simp only [Act.put, List.setIfInBounds_toArray, List.set_cons_zero, List.set_cons_succ]
              refine Rnd.take (i := 23) (v := ?_) rfl (by kernel_rfl) (by kernel_rfl) (by kernel_rfl) (fun _ _ _ h => h) (.inl ⟨by rfl, ?_⟩) (by assumption) ?_
              rotate_left
              · (intro w9 hS9; (try dsimp only at hS9); go_simp; try with_reducible rfl)
              try simp only [Act.put, List.setIfInBounds_toArray, List.set_cons_zero, List.set_cons_succ]
              refine Rnd.take (i := 24) (v := ?_) rfl (by kernel_rfl) (by kernel_rfl) (by kernel_rfl) (fun _ _ _ h => h) (.inl ⟨by rfl, ?_⟩) (by assumption) ?_
              rotate_left
              · (intro w9 hS9; (try dsimp only at hS9); go_simp; try with_reducible rfl)
              try simp only [Act.put, List.setIfInBounds_toArray, List.set_cons_zero, List.set_cons_succ]
              refine Rnd.take (i := 25) (v := ?_) rfl (by kernel_rfl) (by kernel_rfl) (by kernel_rfl) (fun _ _ _ h => h) (.inl ⟨by rfl, ?_⟩) (by assumption) ?_
              rotate_left
              · (intro w9 hS9; (try dsimp only at hS9); go_simp; try with_reducible rfl)
              try simp only [Act.put, List.setIfInBounds_toArray, List.set_cons_zero, List.set_cons_succ]
              refine Rnd.take (i := 26) (v := ?_) rfl (by kernel_rfl) (by kernel_rfl) (by kernel_rfl) (fun _ _ _ h => h) (.inl ⟨by rfl, ?_⟩) (by assumption) ?_
              rotate_left
              · (intro w9 hS9; (try dsimp only at hS9); go_simp; try with_reducible rfl)
              try simp only [Act.put, List.setIfInBounds_toArray, List.set_cons_zero, List.set_cons_succ]
              refine Rnd.take (i := 29) (v := ?_) rfl (by kernel_rfl) (by kernel_rfl) (by kernel_rfl) (fun _ _ _ h => h) (.inl ⟨by rfl, ?_⟩) (by assumption) ?_
              rotate_left
              · (intro w9 hS9; (try dsimp only at hS9); go_simp; try with_reducible rfl)
              try simp only [Act.put, List.setIfInBounds_toArray, List.set_cons_zero, List.set_cons_succ]
              refine wpAnyH_ready (rs := [27]) (by kernel_rfl) (by simp) ?_
              refine AllReadyH.cons rfl (fun K hK => ?_) AllReadyH.nil
              go_simp
              have hd8 : Below U.heap.size U (wE.alloc (.cells #[.string xj, .slice xp xn xc, .int .i64 5, .int .i64 1, .bool true] 33)) := hd7.alloc hd7.size _
              refine hK.out _ _ (HCU.out _ hd8) (fun hHeld => ?_)
              clear hK K
              try simp only [Act.put, List.setIfInBounds_toArray, List.set_cons_zero, List.set_cons_succ]
              refine wpAnyH_ready (rs := [28]) (by kernel_rfl) (by simp) ?_
              refine AllReadyH.cons rfl (fun K hK => ?_) AllReadyH.nil
              refine step_growRec slOk 22 Try.underlying22 (by kernel_rfl) _ _ (by rfl) [(⟨⟨taj, tap, tan, tac, tal⟩, 5, 5, false⟩ : Sl)] 1 ⟨v2.heap.size, 0, none⟩ (by rfl) rfl (by have h9 := (HGU.out.below hd8 (Nat.le_refl _)).news 0 1 (by show 0 + 1 ≤ 2; decide); exact h9) ⟨⟨xj, xp, xn, xc, xl⟩, 5, 1, true⟩ _ (by rfl) wE.heap.size 1 (by rfl) (alloc_new wE (.cells #[.string xj, .slice xp xn xc, .int .i64 5, .int .i64 1, .bool true] 33)) (by decide) ?_
              intro g8 c8 wF hro8 hg8
              have hd9 : Below U.heap.size U wF := hd8.grown hg8 hd8.size (fun j hj => nomatch hj)
              have hS8 : Sma.S 0 _ _ wF := Sma.S.app hro8 (fun s hs => by rw [List.mem_singleton] at hs; subst hs; exact (HGU.out.2 _ (List.mem_cons_self ..)).below hd9 (Nat.le_refl _)) (HTU.out.below hd9 (Nat.le_refl _))
              clear hro8 hg8
              refine hK.out _ _ (HCU.out _ hd9) (fun hHeld => ?_)
              clear hK K
              simp only [List.getElem_toArray, List.getElem_cons_succ, List.getElem_cons_zero]
              try simp only [Act.put, List.setIfInBounds_toArray, List.set_cons_zero, List.set_cons_succ]
              refine wpAnyH_ready (rs := [30]) (by kernel_rfl) (by simp) ?_
              refine AllReadyH.cons rfl (fun K hK => ?_) AllReadyH.nil
              go_simp
              refine (Sma.ends hS8 (HTU.out.below hd9 (Nat.le_refl _))).mono ?_
              rintro e wG ⟨rfl, hbG⟩
              have hdA : Below U.heap.size U wG := below_next hd9 hbG
              refine hK.out _ _ (HCU.out _ hdA) (fun hHeld => ?_)
              clear hK K
              try simp only [Act.put, List.setIfInBounds_toArray, List.set_cons_zero, List.set_cons_succ]
              refine Rnd.take (i := 31) (v := ?_) rfl (by kernel_rfl) (by kernel_rfl) (by kernel_rfl) (fun _ _ _ h => h) (.inl ⟨by rfl, ?_⟩) (by assumption) ?_
              rotate_left
              · (intro w9 hS9; (try dsimp only at hS9); go_simp; try with_reducible rfl)
              try simp only [Act.put, List.setIfInBounds_toArray, List.set_cons_zero, List.set_cons_succ]
              refine Rnd.take (i := 32) (v := ?_) rfl (by kernel_rfl) (by kernel_rfl) (by kernel_rfl) (fun _ _ _ h => h) (.inl ⟨by rfl, ?_⟩) (by assumption) ?_
              rotate_left
              · (intro w9 hS9; (try dsimp only at hS9); go_simp; try with_reducible rfl)
              try simp only [Act.put, List.setIfInBounds_toArray, List.set_cons_zero, List.set_cons_succ]
              refine wpAnyH_done (by kernel_rfl) ?_ _
              have HBE : Hid (Below V8.heap.size V8 wG) := below_next HBU.out hdA
              clear hd0 hd1 hd2 hd3 hd4 hd5 hd6 hd7 hd8 hd9 hdA hS7 hS8 hG2 hTA hbA hbB hbC hbE hbG
              go_wp2_with fail
              go_roundw
              case rel => exact ⟨i + 1, by omega, by go_num, HBE.out⟩
              case measure => simp [intOf]; omega
            · obtain rfl : i = 6 := by omega
              have q1 : ¬ ((6 : Nat) : Int) < 6 := by omega
              have HGU := Lib.hid (HGD8.out.below HM.out (Nat.le_refl _))
              have lU : v2.heap.size < wm.heap.size := by omega
              rcases HGU.out.1.lies slOk with h0 | ⟨b, o, e, hc⟩
              · cases h0
              simp only [Option.some.injEq, Addr.mk.injEq, and_true] at e
              obtain ⟨rfl, rfl⟩ := e
              have u0 : wm.cell? ⟨v2.heap.size, 0, none⟩ = some (.string taj) := hc 0 (by show 0 < 2; decide) 0 (by decide)
              have u1 : wm.cell? ⟨v2.heap.size, 1, none⟩ = some (.slice tap tan tac) := hc 0 (by show 0 < 2; decide) 1 (by decide)
              have u2 : wm.cell? ⟨v2.heap.size, 2, none⟩ = some (.int .i64 5) := hc 0 (by show 0 < 2; decide) 2 (by decide)
              have u3 : wm.cell? ⟨v2.heap.size, 3, none⟩ = some (.int .i64 5) := hc 0 (by show 0 < 2; decide) 3 (by decide)
              have u4 : wm.cell? ⟨v2.heap.size, 4, none⟩ = some (.bool false) := hc 0 (by show 0 < 2; decide) 4 (by decide)
              have u5 : wm.cell? ⟨v2.heap.size, 5, none⟩ = some (.string tbj) := hc 1 (by show 1 < 2; decide) 0 (by decide)
              have u6 : wm.cell? ⟨v2.heap.size, 6, none⟩ = some (.slice tbp tbn tbc) := hc 1 (by show 1 < 2; decide) 1 (by decide)
              have u7 : wm.cell? ⟨v2.heap.size, 7, none⟩ = some (.int .i64 5) := hc 1 (by show 1 < 2; decide) 2 (by decide)
              have u8 : wm.cell? ⟨v2.heap.size, 8, none⟩ = some (.int .i64 5) := hc 1 (by show 1 < 2; decide) 3 (by decide)
              have u9 : wm.cell? ⟨v2.heap.size, 9, none⟩ = some (.bool true) := hc 1 (by show 1 < 2; decide) 4 (by decide)
              have HCU : Hid (∀ w', Below wm.heap.size wm w' → Below wm.heap.size wm w' ∧ w'.cell? ⟨v2.heap.size, 0, none⟩ = some (.string taj) ∧ w'.cell? ⟨v2.heap.size, 1, none⟩ = some (.slice tap tan tac) ∧ w'.cell? ⟨v2.heap.size, 2, none⟩ = some (.int .i64 5) ∧ w'.cell? ⟨v2.heap.size, 3, none⟩ = some (.int .i64 5) ∧ w'.cell? ⟨v2.heap.size, 4, none⟩ = some (.bool false) ∧ w'.cell? ⟨v2.heap.size, 5, none⟩ = some (.string tbj) ∧ w'.cell? ⟨v2.heap.size, 6, none⟩ = some (.slice tbp tbn tbc) ∧ w'.cell? ⟨v2.heap.size, 7, none⟩ = some (.int .i64 5) ∧ w'.cell? ⟨v2.heap.size, 8, none⟩ = some (.int .i64 5) ∧ w'.cell? ⟨v2.heap.size, 9, none⟩ = some (.bool true)) := fun w' hb => ⟨hb, (hb.cell (p := ⟨v2.heap.size, 0, none⟩) lU).trans u0, (hb.cell (p := ⟨v2.heap.size, 1, none⟩) lU).trans u1, (hb.cell (p := ⟨v2.heap.size, 2, none⟩) lU).trans u2, (hb.cell (p := ⟨v2.heap.size, 3, none⟩) lU).trans u3, (hb.cell (p := ⟨v2.heap.size, 4, none⟩) lU).trans u4, (hb.cell (p := ⟨v2.heap.size, 5, none⟩) lU).trans u5, (hb.cell (p := ⟨v2.heap.size, 6, none⟩) lU).trans u6, (hb.cell (p := ⟨v2.heap.size, 7, none⟩) lU).trans u7, (hb.cell (p := ⟨v2.heap.size, 8, none⟩) lU).trans u8, (hb.cell (p := ⟨v2.heap.size, 9, none⟩) lU).trans u9⟩
              clear hc
              go_wp2_with fail
              refine wp_region_held_drew (S := (fun w' => Below wm.heap.size wm w' ∧ w'.cell? ⟨v2.heap.size, 0, none⟩ = some (.string taj) ∧ w'.cell? ⟨v2.heap.size, 1, none⟩ = some (.slice tap tan tac) ∧ w'.cell? ⟨v2.heap.size, 2, none⟩ = some (.int .i64 5) ∧ w'.cell? ⟨v2.heap.size, 3, none⟩ = some (.int .i64 5) ∧ w'.cell? ⟨v2.heap.size, 4, none⟩ = some (.bool false) ∧ w'.cell? ⟨v2.heap.size, 5, none⟩ = some (.string tbj) ∧ w'.cell? ⟨v2.heap.size, 6, none⟩ = some (.slice tbp tbn tbc) ∧ w'.cell? ⟨v2.heap.size, 7, none⟩ = some (.int .i64 5) ∧ w'.cell? ⟨v2.heap.size, 8, none⟩ = some (.int .i64 5) ∧ w'.cell? ⟨v2.heap.size, 9, none⟩ = some (.bool true))) (by kernel_rfl) (HCU.out _ ((Below.refl _ wm).drew)) (fun hHeld => ?_)
              refine Rnd.take (i := 0) (v := ?_) rfl (by kernel_rfl) (by kernel_rfl) (by kernel_rfl) (fun _ _ _ h => h) (.inl ⟨by rfl, ?_⟩) (by assumption) ?_
              rotate_left
              · (intro w9 hS9; (try dsimp only at hS9); go_simp; try with_reducible rfl)
              try simp only [Act.put, List.setIfInBounds_toArray, List.set_cons_zero, List.set_cons_succ]
              refine Rnd.take (i := 1) (v := ?_) rfl (by kernel_rfl) (by kernel_rfl) (by kernel_rfl) (fun _ _ _ h => h) (.inl ⟨by rfl, ?_⟩) (by assumption) ?_
              rotate_left
              · (intro w9 hS9; (try dsimp only at hS9); go_simp; try with_reducible rfl)
              try simp only [Act.put, List.setIfInBounds_toArray, List.set_cons_zero, List.set_cons_succ]
              refine Rnd.take (i := 2) (v := ?_) rfl (by kernel_rfl) (by kernel_rfl) (by kernel_rfl) (fun _ _ _ h => h) (.inl ⟨by rfl, ?_⟩) (by assumption) ?_
              rotate_left
              · (intro w9 hS9; (try dsimp only at hS9); go_simp; try with_reducible rfl)
              try simp only [Act.put, List.setIfInBounds_toArray, List.set_cons_zero, List.set_cons_succ]
              refine Rnd.take (i := 3) (v := ?_) rfl (by kernel_rfl) (by kernel_rfl) (by kernel_rfl) (fun _ _ _ h => h) (.inl ⟨by rfl, ?_⟩) (by assumption) ?_
              rotate_left
              · (intro w9 hS9; (try dsimp only at hS9); go_simp; try with_reducible rfl)
              try simp only [Act.put, List.setIfInBounds_toArray, List.set_cons_zero, List.set_cons_succ]
              refine Rnd.take (i := 4) (v := ?_) rfl (by kernel_rfl) (by kernel_rfl) (by kernel_rfl) (fun _ _ _ h => h) (.inl ⟨by rfl, ?_⟩) (by assumption) ?_
              rotate_left
              · (intro w9 hS9; (try dsimp only at hS9); go_simp; try with_reducible rfl)
              try simp only [Act.put, List.setIfInBounds_toArray, List.set_cons_zero, List.set_cons_succ]
              refine wpAnyH_ready (rs := [5]) (by kernel_rfl) (by simp) ?_
              refine AllReadyH.cons rfl (fun K hK => ?_) AllReadyH.nil
              go_simp
              have hd0 : Below wm.heap.size wm wm.drew := (Below.refl _ wm).drew
              have hd1 : Below wm.heap.size wm (wm.drew.alloc (.cells #[.string taj, .slice tap tan tac, .int .i64 5, .int .i64 5, .bool false] 33)) := hd0.alloc hd0.size _
              refine hK.out _ _ (HCU.out _ hd1) (fun hHeld => ?_)
              clear hK K
              try simp only [Act.put, List.setIfInBounds_toArray, List.set_cons_zero, List.set_cons_succ]
              refine wpAnyH_ready (rs := [6]) (by kernel_rfl) (by simp) ?_
              refine AllReadyH.cons rfl (fun K hK => ?_) AllReadyH.nil
              refine step_growRec slOk 22 Try.underlying22 (by kernel_rfl) _ _ (by rfl) [(⟨⟨tbj, tbp, tbn, tbc, tbl⟩, 5, 5, true⟩ : Sl)] 1 ⟨v2.heap.size, 5, none⟩ (by rfl) rfl (by have h9 := (HGU.out.below hd1 (Nat.le_refl _)).news 1 1 (by show 1 + 1 ≤ 2; decide); exact h9) (⟨⟨taj, tap, tan, tac, tal⟩, 5, 5, false⟩ : Sl) _ (by rfl) wm.drew.heap.size 1 (by rfl) (alloc_new wm.drew (.cells #[.string taj, .slice tap tan tac, .int .i64 5, .int .i64 5, .bool false] 33)) (by decide) ?_
              intro g1 c1 wA hro1 hg1
              have hd2 : Below wm.heap.size wm wA := hd1.grown hg1 hd1.size (fun j hj => nomatch hj)
              have hS1 : Sma.S 0 _ _ wA := Sma.S.app hro1 (fun s hs => by rw [List.mem_singleton] at hs; subst hs; exact (HGU.out.2 _ (by simp)).below hd2 (Nat.le_refl _)) ((HGU.out.2 (⟨⟨taj, tap, tan, tac, tal⟩, 5, 5, false⟩ : Sl) (by simp)).below hd2 (Nat.le_refl _))
              clear hro1 hg1
              refine hK.out _ _ (HCU.out _ hd2) (fun hHeld => ?_)
              clear hK K
              simp only [List.getElem_toArray, List.getElem_cons_succ, List.getElem_cons_zero]
              try simp only [Act.put, List.setIfInBounds_toArray, List.set_cons_zero, List.set_cons_succ]
              refine wpAnyH_ready (rs := [7]) (by kernel_rfl) (by simp) ?_
              refine AllReadyH.cons rfl (fun K hK => ?_) AllReadyH.nil
              go_simp
              refine (Sma.tells hS1 (Sma.G.nil 0 _) 5 5).mono ?_
              rintro e wB ⟨rfl, hbB⟩
              have hd3 : Below wm.heap.size wm wB := below_next hd2 hbB
              refine hK.out _ _ (HCU.out _ hd3) (fun hHeld => ?_)
              clear hK K
              try simp only [Act.put, List.setIfInBounds_toArray, List.set_cons_zero, List.set_cons_succ]
              refine Rnd.take (i := 8) (v := ?_) rfl (by kernel_rfl) (by kernel_rfl) (by kernel_rfl) (fun _ _ _ h => h) (.inl ⟨by rfl, ?_⟩) (by assumption) ?_
              rotate_left
              · (intro w9 hS9; (try dsimp only at hS9); go_simp; try with_reducible rfl)
              try simp only [Act.put, List.setIfInBounds_toArray, List.set_cons_zero, List.set_cons_succ]
              refine Rnd.take (i := 9) (v := ?_) rfl (by kernel_rfl) (by kernel_rfl) (by kernel_rfl) (fun _ _ _ h => h) (.inl ⟨by rfl, ?_⟩) (by assumption) ?_
              rotate_left
              · (intro w9 hS9; (try dsimp only at hS9); go_simp; try with_reducible rfl)
              try simp only [Act.put, List.setIfInBounds_toArray, List.set_cons_zero, List.set_cons_succ]
              refine Rnd.take (i := 10) (v := ?_) rfl (by kernel_rfl) (by kernel_rfl) (by kernel_rfl) (fun _ _ _ h => h) (.inl ⟨by rfl, ?_⟩) (by assumption) ?_
              rotate_left
              · (intro w9 hS9; (try dsimp only at hS9); go_simp; try with_reducible rfl)
              try simp only [Act.put, List.setIfInBounds_toArray, List.set_cons_zero, List.set_cons_succ]
              refine Rnd.take (i := 11) (v := ?_) rfl (by kernel_rfl) (by kernel_rfl) (by kernel_rfl) (fun _ _ _ h => h) (.inl ⟨by rfl, ?_⟩) (by assumption) ?_
              rotate_left
              · (intro w9 hS9; (try dsimp only at hS9); go_simp; try with_reducible rfl)
              try simp only [Act.put, List.setIfInBounds_toArray, List.set_cons_zero, List.set_cons_succ]
              refine Rnd.take (i := 12) (v := ?_) rfl (by kernel_rfl) (by kernel_rfl) (by kernel_rfl) (fun _ _ _ h => h) (.inl ⟨by rfl, ?_⟩) (by assumption) ?_
              rotate_left
              · (intro w9 hS9; (try dsimp only at hS9); go_simp; try with_reducible rfl)
              try simp only [Act.put, List.setIfInBounds_toArray, List.set_cons_zero, List.set_cons_succ]
              refine Rnd.take (i := 13) (v := ?_) rfl (by kernel_rfl) (by kernel_rfl) (by kernel_rfl) (fun _ _ _ h => h) (.inl ⟨by rfl, ?_⟩) (by assumption) ?_
              rotate_left
              · (intro w9 hS9; (try dsimp only at hS9); go_simp; try with_reducible rfl)
              try simp only [Act.put, List.setIfInBounds_toArray, List.set_cons_zero, List.set_cons_succ]
              refine wpAnyH_ready (rs := [14]) (by kernel_rfl) (by simp) ?_
              refine AllReadyH.cons rfl (fun K hK => ?_) AllReadyH.nil
              go_simp
              have hd4 : Below wm.heap.size wm (wB.alloc (.cells #[.string taj, .slice tap tan tac, .int .i64 5, .int .i64 5, .bool false] 33)) := hd3.alloc hd3.size _
              refine hK.out _ _ (HCU.out _ hd4) (fun hHeld => ?_)
              clear hK K
              try simp only [Act.put, List.setIfInBounds_toArray, List.set_cons_zero, List.set_cons_succ]
              refine wpAnyH_ready (rs := [15]) (by kernel_rfl) (by simp) ?_
              refine AllReadyH.cons rfl (fun K hK => ?_) AllReadyH.nil
              refine step_growRec slOk 22 Try.underlying22 (by kernel_rfl) _ _ (by rfl) [(⟨⟨tbj, tbp, tbn, tbc, tbl⟩, 5, 5, true⟩ : Sl)] 1 ⟨v2.heap.size, 5, none⟩ (by rfl) rfl (by have h9 := (HGU.out.below hd4 (Nat.le_refl _)).news 1 1 (by show 1 + 1 ≤ 2; decide); exact h9) (⟨⟨taj, tap, tan, tac, tal⟩, 5, 5, false⟩ : Sl) _ (by rfl) wB.heap.size 1 (by rfl) (alloc_new wB (.cells #[.string taj, .slice tap tan tac, .int .i64 5, .int .i64 5, .bool false] 33)) (by decide) ?_
              intro g2 c2 wC hro2 hg2
              have hd5 : Below wm.heap.size wm wC := hd4.grown hg2 hd4.size (fun j hj => nomatch hj)
              have hS2 : Sma.S 0 _ _ wC := Sma.S.app hro2 (fun s hs => by rw [List.mem_singleton] at hs; subst hs; exact (HGU.out.2 _ (by simp)).below hd5 (Nat.le_refl _)) ((HGU.out.2 (⟨⟨taj, tap, tan, tac, tal⟩, 5, 5, false⟩ : Sl) (by simp)).below hd5 (Nat.le_refl _))
              clear hro2 hg2
              refine hK.out _ _ (HCU.out _ hd5) (fun hHeld => ?_)
              clear hK K
              simp only [List.getElem_toArray, List.getElem_cons_succ, List.getElem_cons_zero]
              try simp only [Act.put, List.setIfInBounds_toArray, List.set_cons_zero, List.set_cons_succ]
              refine wpAnyH_ready (rs := [16]) (by kernel_rfl) (by simp) ?_
              refine AllReadyH.cons rfl (fun K hK => ?_) AllReadyH.nil
              go_simp
              refine (HT1.out _).mono ?_
              rintro e wD ⟨⟨t, rfl, hTA, _⟩, hbA⟩
              obtain ⟨aj, ap, an, ac, al⟩ := t
              have hd6 : Below wm.heap.size wm wD := below_next hd5 hbA
              have hS2b := hS2.below hbA (Nat.le_refl _)
              refine hK.out _ _ (HCU.out _ hd6) (fun hHeld => ?_)
              clear hK K
              skip
              refine wpAnyH_ready (rs := [17]) (by kernel_rfl) (by simp) ?_
              refine AllReadyH.cons rfl (fun K hK => ?_) AllReadyH.nil
              go_simp
              refine (Sma.ends hS2b hTA).mono ?_
              rintro e wE ⟨rfl, hbE⟩
              have hd7 : Below wm.heap.size wm wE := below_next hd6 hbE
              refine hK.out _ _ (HCU.out _ hd7) (fun hHeld => ?_)
              clear hK K
              try simp only [Act.put, List.setIfInBounds_toArray, List.set_cons_zero, List.set_cons_succ]
              refine Rnd.take (i := 18) (v := ?_) rfl (by kernel_rfl) (by kernel_rfl) (by kernel_rfl) (fun _ _ _ h => h) (.inl ⟨by rfl, ?_⟩) (by assumption) ?_
              rotate_left
              · (intro w9 hS9; (try dsimp only at hS9); go_simp; try with_reducible rfl)
              try simp only [Act.put, List.setIfInBounds_toArray, List.set_cons_zero, List.set_cons_succ]
              refine Rnd.take (i := 19) (v := ?_) rfl (by kernel_rfl) (by kernel_rfl) (by kernel_rfl) (fun _ _ _ h => h) (.inl ⟨by rfl, ?_⟩) (by assumption) ?_
              rotate_left
              · (intro w9 hS9; (try dsimp only at hS9); go_simp; try with_reducible rfl)
              try simp only [Act.put, List.setIfInBounds_toArray, List.set_cons_zero, List.set_cons_succ]
              refine Rnd.take (i := 20) (v := ?_) rfl (by kernel_rfl) (by kernel_rfl) (by kernel_rfl) (fun _ _ _ h => h) (.inl ⟨by rfl, ?_⟩) (by assumption) ?_
              rotate_left
              · (intro w9 hS9; (try dsimp only at hS9); go_simp; try with_reducible rfl)
              try simp only [Act.put, List.setIfInBounds_toArray, List.set_cons_zero, List.set_cons_succ]
              refine Rnd.take (i := 21) (v := ?_) rfl (by kernel_rfl) (by kernel_rfl) (by kernel_rfl) (fun _ _ _ h => h) (.inl ⟨by rfl, ?_⟩) (by assumption) ?_
              rotate_left
              · (intro w9 hS9; (try dsimp only at hS9); go_simp; try with_reducible rfl)
              try simp only [Act.put, List.setIfInBounds_toArray, List.set_cons_zero, List.set_cons_succ]
              refine Rnd.take (i := 22) (v := ?_) rfl (by kernel_rfl) (by kernel_rfl) (by kernel_rfl) (fun _ _ _ h => h) (.inl ⟨by rfl, ?_⟩) (by assumption) ?_
              rotate_left
              · (intro w9 hS9; (try dsimp only at hS9); go_simp; try with_reducible rfl)
              try simp only [Act.put, List.setIfInBounds_toArray, List.set_cons_zero, List.set_cons_succ]
              refine Rnd.take (i := 23) (v := ?_) rfl (by kernel_rfl) (by kernel_rfl) (by kernel_rfl) (fun _ _ _ h => h) (.inl ⟨by rfl, ?_⟩) (by assumption) ?_
              rotate_left
              · (intro w9 hS9; (try dsimp only at hS9); go_simp; try with_reducible rfl)
              try simp only [Act.put, List.setIfInBounds_toArray, List.set_cons_zero, List.set_cons_succ]
              refine wpAnyH_ready (rs := [24]) (by kernel_rfl) (by simp) ?_
              refine AllReadyH.cons rfl (fun K hK => ?_) AllReadyH.nil
              go_simp
              have hd8 : Below wm.heap.size wm (wE.alloc (.cells #[.string tbj, .slice tbp tbn tbc, .int .i64 5, .int .i64 5, .bool true] 33)) := hd7.alloc hd7.size _
              refine hK.out _ _ (HCU.out _ hd8) (fun hHeld => ?_)
              clear hK K
              try simp only [Act.put, List.setIfInBounds_toArray, List.set_cons_zero, List.set_cons_succ]
              refine wpAnyH_ready (rs := [25]) (by kernel_rfl) (by simp) ?_
              refine AllReadyH.cons rfl (fun K hK => ?_) AllReadyH.nil
              refine step_growRec slOk 22 Try.underlying22 (by kernel_rfl) _ _ (by rfl) [(⟨⟨taj, tap, tan, tac, tal⟩, 5, 5, false⟩ : Sl), ⟨⟨tbj, tbp, tbn, tbc, tbl⟩, 5, 5, true⟩] 2 ⟨v2.heap.size, 0, none⟩ (by rfl) rfl (by have h9 := (HGU.out.below hd8 (Nat.le_refl _)).news 0 2 (by show 0 + 2 ≤ 2; decide); exact h9) (⟨⟨tbj, tbp, tbn, tbc, tbl⟩, 5, 5, true⟩ : Sl) _ (by rfl) wE.heap.size 1 (by rfl) (alloc_new wE (.cells #[.string tbj, .slice tbp tbn tbc, .int .i64 5, .int .i64 5, .bool true] 33)) (by decide) ?_
              intro g3 c3 wF hro3 hg3
              have hd9 : Below wm.heap.size wm wF := hd8.grown hg3 hd8.size (fun j hj => nomatch hj)
              have hS3 : Sma.S 0 _ _ wF := Sma.S.app hro3 (fun s hs => by exact (HGU.out.2 s hs).below hd9 (Nat.le_refl _)) ((HGU.out.2 (⟨⟨tbj, tbp, tbn, tbc, tbl⟩, 5, 5, true⟩ : Sl) (by simp)).below hd9 (Nat.le_refl _))
              clear hro3 hg3
              refine hK.out _ _ (HCU.out _ hd9) (fun hHeld => ?_)
              clear hK K
              simp only [List.getElem_toArray, List.getElem_cons_succ, List.getElem_cons_zero]
              try simp only [Act.put, List.setIfInBounds_toArray, List.set_cons_zero, List.set_cons_succ]
              refine wpAnyH_ready (rs := [26]) (by kernel_rfl) (by simp) ?_
              refine AllReadyH.cons rfl (fun K hK => ?_) AllReadyH.nil
              go_simp
              refine (Sma.tells hS3 (Sma.G.nil 0 _) 5 5).mono ?_
              rintro e wG ⟨rfl, hbG⟩
              have hdA : Below wm.heap.size wm wG := below_next hd9 hbG
              refine hK.out _ _ (HCU.out _ hdA) (fun hHeld => ?_)
              clear hK K
              try simp only [Act.put, List.setIfInBounds_toArray, List.set_cons_zero, List.set_cons_succ]
              refine Rnd.take (i := 27) (v := ?_) rfl (by kernel_rfl) (by kernel_rfl) (by kernel_rfl) (fun _ _ _ h => h) (.inl ⟨by rfl, ?_⟩) (by assumption) ?_
              rotate_left
              · (intro w9 hS9; (try dsimp only at hS9); go_simp; try with_reducible rfl)
              try simp only [Act.put, List.setIfInBounds_toArray, List.set_cons_zero, List.set_cons_succ]
              refine Rnd.take (i := 28) (v := ?_) rfl (by kernel_rfl) (by kernel_rfl) (by kernel_rfl) (fun _ _ _ h => h) (.inl ⟨by rfl, ?_⟩) (by assumption) ?_
              rotate_left
              · (intro w9 hS9; (try dsimp only at hS9); go_simp; try with_reducible rfl)
              try simp only [Act.put, List.setIfInBounds_toArray, List.set_cons_zero, List.set_cons_succ]
              refine wpAnyH_ready (rs := [29]) (by kernel_rfl) (by simp) ?_
              refine AllReadyH.cons rfl (fun K hK => ?_) AllReadyH.nil
              go_simp
              refine (HMN.out _).mono ?_
              rintro e wH ⟨rfl, hbH⟩
              have hdB : Below wm.heap.size wm wH := below_next hdA hbH
              refine hK.out _ _ (HCU.out _ hdB) (fun hHeld => ?_)
              clear hK K
              try simp only [Act.put, List.setIfInBounds_toArray, List.set_cons_zero, List.set_cons_succ]
              refine Rnd.take (i := 30) (v := ?_) rfl (by kernel_rfl) (by kernel_rfl) (by kernel_rfl) (fun _ _ _ h => h) (.inl ⟨by rfl, ?_⟩) (by assumption) ?_
              rotate_left
              · (intro w9 hS9; (try dsimp only at hS9); go_simp; try with_reducible rfl)
              try simp only [Act.put, List.setIfInBounds_toArray, List.set_cons_zero, List.set_cons_succ]
              refine Rnd.take (i := 31) (v := ?_) rfl (by kernel_rfl) (by kernel_rfl) (by kernel_rfl) (fun _ _ _ h => h) (.inl ⟨by rfl, ?_⟩) (by assumption) ?_
              rotate_left
              · (intro w9 hS9; (try dsimp only at hS9); go_simp; try with_reducible rfl)
              try simp only [Act.put, List.setIfInBounds_toArray, List.set_cons_zero, List.set_cons_succ]
              refine wpAnyH_ready (rs := [32]) (by kernel_rfl) (by simp) ?_
              refine AllReadyH.cons rfl (fun K hK => ?_) AllReadyH.nil
              go_simp
              refine (HAW.out _).mono ?_
              rintro e wI ⟨rfl, hbI⟩
              have hdC : Below wm.heap.size wm wI := below_next hdB hbI
              refine hK.out _ _ (HCU.out _ hdC) (fun hHeld => ?_)
              clear hK K
              try simp only [Act.put, List.setIfInBounds_toArray, List.set_cons_zero, List.set_cons_succ]
              refine Rnd.take (i := 33) (v := ?_) rfl (by kernel_rfl) (by kernel_rfl) (by kernel_rfl) (fun _ _ _ h => h) (.inl ⟨by rfl, ?_⟩) (by assumption) ?_
              rotate_left
              · (intro w9 hS9; (try dsimp only at hS9); go_simp; try with_reducible rfl)
              try simp only [Act.put, List.setIfInBounds_toArray, List.set_cons_zero, List.set_cons_succ]
              refine Rnd.take (i := 34) (v := ?_) rfl (by kernel_rfl) (by kernel_rfl) (by kernel_rfl) (fun _ _ _ h => h) (.inl ⟨by rfl, ?_⟩) (by assumption) ?_
              rotate_left
              · (intro w9 hS9; (try dsimp only at hS9); go_simp; try with_reducible rfl)
              try simp only [Act.put, List.setIfInBounds_toArray, List.set_cons_zero]
              refine wpAnyH_done (by kernel_rfl) ?_ _
              have HBZ : Hid (Below w.heap.size w wI) := below_next (below_next (below_next HBK.out HX8.out) HM.out) hdC
              go_wp2_with fail
              go_ret
              exact ⟨rfl, HBZ.out⟩
end Go.Proofs.Ytpnpgjjbincigaa
