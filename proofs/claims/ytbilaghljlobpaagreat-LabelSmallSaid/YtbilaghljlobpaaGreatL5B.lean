/- Contracts of the reference's labels: find, Get, put, bound. (Printed by gen_5b.py.) -/
import Derived.Test.YtbilaghljlobpaaGreatL5P
import Derived.Test.YtbilaghljlobpaaGreatRefF
import Derived.BigQuiet
namespace Go.Proofs.YtbilaghljlobpaaGreat
open Go.RowKit

set_option maxHeartbeats 1600000 in
set_option maxRecDepth 100000 in
theorem rfind_is (p : Option Addr) (ls : List Lab.L) (n c : Nat) (name : ByteArray) (r : Int) (h : Lab.find name 0 ls = r) (w : World) (hn : ls.length = n) (hA : Lab.At p ls w) (hl : n ≤ 100000) :
    Calls Tryz.prog 59 #[.slice p n c, .string name] w fun e w' => e = .returned (.int .i64 r) ∧ w = w' := by
  have HN := Lib.hid hn
  have HD := Lib.hid (Lab.find_drop name ls)
  have H0 : Hid (Lab.find name 0 (ls.drop 0) = r) := h
  have HA := Lib.hid hA
  clear hn h hA
  go_enter Tryz.func59, Tryz.ntmps59
  go_wp2_with fail
  go_loop [5] (fun i => ∃ k : Nat, k ≤ n ∧ i = .int .i64 (k : Int) ∧ Hid (Lab.find name k (ls.drop k) = r)) (fun i => n - (intOf i).toNat)
  case atStart => exact ⟨0, Nat.zero_le _, rfl, H0⟩
  case round =>
    obtain ⟨k, hk, rfl, HK⟩ := hrel
    by_cases hlt : k < n
    · have hkl : k < ls.length := by rw [HN.out]; exact hlt
      obtain ⟨b, o, rfl, hc⟩ := HA.out.open k hkl
      have hst := HK.out
      rw [HD.out k hkl] at hst
      have c0 := (hc k hkl).1
      obtain ⟨x, hx⟩ : ∃ x, ls[k] = x := ⟨_, rfl⟩
      rw [hx] at c0 hst
      obtain ⟨bq, hbq⟩ : ∃ bq, decide (Lab.bs x.n = Lab.bs name) = bq := ⟨_, rfl⟩
      have q1 : (x.n.toList == name.toList) = bq := by rw [← hbq]; exact Lab.bytes_beq _ _
      have n1 : (0 : Int) ≤ (k : Int) := by omega
      have n2 : (k : Int) < (n : Int) := by omega
      clear hx hc HK
      cases bq
      · rw [if_neg (of_decide_eq_false hbq)] at hst
        have HG := Lib.hid hst
        clear hst hbq
        go_wp2_with fail
        go_round
        case rel => exact ⟨k + 1, by omega, by go_num, HG⟩
        case measure => simp [intOf]; omega
      · rw [if_pos (of_decide_eq_true hbq)] at hst
        subst hst
        clear hbq
        go_wp2_with fail
        go_ret
        exact ⟨rfl, rfl⟩
    · have hst := HK.out
      rw [List.drop_eq_nil_iff.2 (by rw [HN.out]; omega)] at hst
      have n2 : (n : Int) ≤ (k : Int) := by omega
      subst hst
      clear HK H0
      go_wp2_with fail
      go_ret
      exact ⟨rfl, rfl⟩
set_option maxHeartbeats 1600000 in
set_option maxRecDepth 100000 in
theorem rget_is (p : Option Addr) (ls : List Lab.L) (n c : Nat) (name r : ByteArray) (h : Lab.get ls name = r) (w : World) (hn : ls.length = n) (hA : Lab.At p ls w) (hl : n ≤ 100000) :
    Calls Tryz.prog 23 #[.slice p n c, .string name] w fun e w' => e = .returned (.string r) ∧ w = w' := by
  have hf := Lab.found ls name
  obtain ⟨i, hi⟩ : ∃ i, Lab.find name 0 ls = i := ⟨_, rfl⟩
  have HF := Lib.hid (rfind_is p ls n c name i hi w hn hA hl)
  rw [hi] at hf
  clear hi
  rcases hf with ⟨rfl, hg, _⟩ | ⟨j, hj, rfl, hg, _, _⟩
  · rw [hg] at h
    subst h
    clear hg hA hn
    go_enter Tryz.func23, Tryz.ntmps23
    go_wp2_with (go_at_call 59; refine HF.out.mono ?_)
    try rintro _ _ ⟨rfl, rfl⟩
    go_wp2_with fail
    go_ret
    exact ⟨rfl, rfl⟩
  · obtain ⟨b, o, rfl, hc⟩ := hA.open j hj
    have c1 := (hc j hj).2
    rw [hg] at h
    rw [h] at c1
    have n1 : (0 : Int) ≤ (j : Int) := by omega
    have n2 : (j : Int) < (n : Int) := by omega
    clear hg hA hn h hc
    go_enter Tryz.func23, Tryz.ntmps23
    go_wp2_with (go_at_call 59; refine HF.out.mono ?_)
    try rintro _ _ ⟨rfl, rfl⟩
    go_wp2_with fail
    go_ret
    exact ⟨rfl, rfl⟩
set_option maxHeartbeats 800000 in
theorem rbound_is (p : Option Addr) (n c : Nat) (w : World) (hl : n ≤ 100000) :
    Calls Tryz.prog 61 #[.slice p n c] w fun e w' => e = .returned (if 64 < n then .tuple #[.slice none 0 0, .int .i64 5] else .tuple #[.slice p n c, .int .i64 0]) ∧ w = w' := by
  by_cases h : 64 < n
  · have n1 : (64 : Int) < (n : Int) := by omega
    rw [if_pos h]
    go_enter Tryz.func61, Tryz.ntmps61
    go_wp2_with fail
    go_ret2
    exact ⟨rfl, rfl⟩
  · have n1 : (n : Int) ≤ 64 := by omega
    rw [if_neg h]
    go_enter Tryz.func61, Tryz.ntmps61
    go_wp2_with fail
    go_ret2
    exact ⟨rfl, rfl⟩
set_option maxHeartbeats 6400000 in
set_option maxRecDepth 100000 in
theorem rput_is (p : Option Addr) (ls : List Lab.L) (n c : Nat) (x : Lab.L) (r : List Lab.L) (h : Lab.rput1 ls x = r) (w : World) (hn : ls.length = n) (hA : Lab.At p ls w) (hF : Lab.Fit maxLen ls) (_hx : x.n.size ≤ maxLen) (hl : n ≤ 10000) :
    Calls Tryz.prog 60 #[.slice p n c, .agg #[.string x.n, .string x.v]] w fun e w' => (∃ v, e = .returned v ∧ OwnLabels w.heap.size v r w') ∧ Below w.heap.size w w' := by
  obtain ⟨b0, hb0⟩ : ∃ b, (Lab.bs x.v).isEmpty = b := ⟨_, rfl⟩
  have q0 : x.v.toList.isEmpty = b0 := by rw [Lab.isEmpty_iff, hb0]
  have q0' : decide (x.v.toList = []) = b0 := by rw [← q0]; cases x.v.toList <;> rfl
  unfold Lab.rput1 at h
  rw [hb0] at h
  have HN := Lib.hid hn
  have HA := Lib.hid hA
  have HFT := Lib.hid hF
  have HR : Hid ([] ++ Lab.rput x b0 (ls.drop 0) = r) := h
  clear h hb0 hn hA hF
  go_enter Tryz.func60, Tryz.ntmps60
  go_wp2_with fail
  obtain ⟨W0, hW0⟩ : ∃ W, W = w.alloc (.cells #[.string x.n, .string x.v] 31) := ⟨_, rfl⟩
  have hbw : Below w.heap.size w W0 := by rw [hW0]; exact (Below.refl _ _).alloc (Nat.le_refl _) _
  have HX : Hid (W0.heap[w.heap.size]? = some (.cells #[.string x.n, .string x.v] 31)) := by
    show W0.heap[w.heap.size]? = _
    rw [hW0]
    exact alloc_new _ _
  rw [← hW0]
  clear hW0
  have KX : Hid (∀ w', Below W0.heap.size W0 w' → w'.cell? ⟨w.heap.size, 0, none⟩ = some (.string x.n) ∧ w'.cell? ⟨w.heap.size, 1, none⟩ = some (.string x.v) ∧ Lab.At p ls w') := fun w' h => by
    have h1 := below_kept h HX.out (lt_of_heap HX.out)
    exact ⟨by rw [Lib.cell_of_heap h1]; rfl, by rw [Lib.cell_of_heap h1]; rfl, HA.out.below (hbw.trans (h.mono hbw.size)) (Nat.le_refl _)⟩
  clear HX HA
  go_loopw [7, 5, 6] (fun i v t wr => ∃ (k : Nat) (out : List Lab.L) (th : Bool), k ≤ n ∧ i = .int .i64 (k : Int) ∧ Hid (OwnLabels W0.heap.size v out wr) ∧ t = .bool th ∧ Hid (out ++ Lab.rput x th (ls.drop k) = r) ∧ out.length ≤ 2 * k ∧ Below W0.heap.size W0 wr) (fun i _ _ _ => n - (intOf i).toNat)
  case atStart => exact ⟨0, [], b0, Nat.zero_le _, rfl, OwnLabels.nil _ _, rfl, HR, Nat.le_refl _, Below.refl _ _⟩
  case round =>
    obtain ⟨k, out, th, hk, rfl, HO, rfl, HK, hol, hb⟩ := hrel
    clear HR
    by_cases hlt : k < n
    · have hkl : k < ls.length := by rw [HN.out]; exact hlt
      obtain ⟨b, o, rfl, hc⟩ := (KX.out W0 (Below.refl _ _)).2.2.open k hkl
      have hc0 := (hc k hkl).1
      have hc1 := (hc k hkl).2
      have hst := HK.out
      rw [List.drop_eq_getElem_cons hkl] at hst
      have hfy := HFT.out ls[k] (List.getElem_mem _)
      obtain ⟨y, hy⟩ : ∃ y, ls[k] = y := ⟨_, rfl⟩
      rw [hy] at hc0 hc1 hst hfy
      have KY : Hid (∀ w', Below W0.heap.size W0 w' → w'.cell? ⟨b, o + k * 2, none⟩ = some (.string y.n) ∧ w'.cell? ⟨b, o + k * 2 + 1, none⟩ = some (.string y.v)) := fun w' h => ⟨cell_later h hc0 (Nat.le_refl _), cell_later h hc1 (Nat.le_refl _)⟩
      obtain ⟨lt, hlt2⟩ : ∃ lt, decide (Lab.bs y.n < Lab.bs x.n) = lt := ⟨_, rfl⟩
      obtain ⟨eq, heq⟩ : ∃ eq, decide (Lab.bs y.n = Lab.bs x.n) = eq := ⟨_, rfl⟩
      have q1 : (y.n.toList == x.n.toList) = eq := by rw [← heq]; exact Lab.bytes_beq _ _
      have q2 : (y.n.toList != x.n.toList) = !eq := by rw [bne, q1]
      have HL := Lib.hid (fun w => less_is y.n x.n lt hlt2 w hfy.1)
      have n1 : (0 : Int) ≤ (k : Int) := by omega
      have n2 : (k : Int) < (n : Int) := by omega
      unfold Lab.rput at hst
      have HST := Lib.hid hst
      have HLT := Lib.hid hlt2
      have HEQ := Lib.hid heq
      clear hc hy hst hfy hlt2 heq HK hc0 hc1
      cases th
      · cases lt
        · have hnl : ¬ Lab.bs y.n < Lab.bs x.n := of_decide_eq_false HLT.out
          have y0 := (KY.out wr hb).1
          have y1 := (KY.out wr hb).2
          have x0 := (KX.out wr hb).1
          have x1 := (KX.out wr hb).2.1
          go_wp2_with fail
          go_quiet ((go_at_call 52; exact Calls.quiet_of (HL.out _)))
          have hbq1 : Below W0.heap.size W0 (wr.drewN nq) := below_drewN hb nq
          have hoq1 : OwnLabels W0.heap.size _ _ (wr.drewN nq) := HO.out
          generalize wr.drewN nq = wq1 at hbq1 hoq1 ⊢
          have HOQ1 := Lib.hid hoq1
          clear hoq1
          clear y0 y1 x0 x1
          clear HL
          have y0 := (KY.out wq1 hbq1).1
          have y1 := (KY.out wq1 hbq1).2
          have x0 := (KX.out wq1 hbq1).1
          have x1 := (KX.out wq1 hbq1).2.1
          have hop2 := HOQ1.out
          go_wp2_with (at_builtin; refine wpList_pushL 24 Tryz.underlying24 rfl _ _ rfl _ _ _ _ rfl hop2 x _ _ rfl _ rfl (by simp) ?c1 ?c2 ?_)
          case c1 => omega
          case c2 => exact hbq1.size
          intro vp2 wp2 hown2 hg
          have hbp2 := below_push _ hbq1 hop2 hg
          have HOP2 := Lib.hid hown2
          clear hg hop2 hown2
          clear y0 y1 x0 x1
          cases eq
          · have q3 : (y.n.toList != x.n.toList) = true := by rw [q2]; rfl
            have hne : ¬ Lab.bs y.n = Lab.bs x.n := of_decide_eq_false HEQ.out
            have HK2 : Hid (out ++ [x, y] ++ Lab.rput x true (ls.drop (k + 1)) = r) := by
              show _ = _
              have h2 := HST.out
              rw [if_pos (by simp [hnl])] at h2
              rw [if_neg hne] at h2
              simpa using h2
            clear q2 HST HLT HEQ hne
            have y0 := (KY.out wp2 hbp2).1
            have y1 := (KY.out wp2 hbp2).2
            have x0 := (KX.out wp2 hbp2).1
            have x1 := (KX.out wp2 hbp2).2.1
            go_wp2_with fail
            go_quiet (fail)
            have hbq3 : Below W0.heap.size W0 (wp2.drewN nq) := below_drewN hbp2 nq
            have hoq3 : OwnLabels W0.heap.size _ _ (wp2.drewN nq) := HOP2.out
            generalize wp2.drewN nq = wq3 at hbq3 hoq3 ⊢
            have HOQ3 := Lib.hid hoq3
            clear hoq3
            clear y0 y1 x0 x1
            have y0 := (KY.out wq3 hbq3).1
            have y1 := (KY.out wq3 hbq3).2
            have x0 := (KX.out wq3 hbq3).1
            have x1 := (KX.out wq3 hbq3).2.1
            have hop4 := HOQ3.out
            go_wp2_with (at_builtin; refine wpList_pushL 24 Tryz.underlying24 rfl _ _ rfl _ _ _ _ rfl hop4 y _ _ rfl _ rfl (by simp) ?c3 ?c4 ?_)
            case c3 => first | omega | (simp only [List.length_append, List.length_cons, List.length_nil]; omega)
            case c4 => exact hbq3.size
            intro vp4 wp4 hown4 hg
            have hbp4 := below_push _ hbq3 hop4 hg
            have HOP4 := Lib.hid hown4
            clear hg hop4 hown4
            clear y0 y1 x0 x1
            go_wp2_with fail
            go_roundw
            case rel => exact ⟨k + 1, out ++ [x, y], true, by omega, by go_num, HOP4, rfl, HK2, by first | omega | (simp only [List.length_append, List.length_cons, List.length_nil]; omega), hbp4⟩
            case measure => simp [intOf]; omega
          · have q3 : (y.n.toList != x.n.toList) = false := by rw [q2]; rfl
            have hne : Lab.bs y.n = Lab.bs x.n := of_decide_eq_true HEQ.out
            have HK2 : Hid (out ++ [x] ++ Lab.rput x true (ls.drop (k + 1)) = r) := by
              show _ = _
              have h2 := HST.out
              rw [if_pos (by simp [hnl])] at h2
              rw [if_pos hne] at h2
              simpa using h2
            clear q2 HST HLT HEQ hne
            have y0 := (KY.out wp2 hbp2).1
            have y1 := (KY.out wp2 hbp2).2
            have x0 := (KX.out wp2 hbp2).1
            have x1 := (KX.out wp2 hbp2).2.1
            go_wp2_with fail
            go_quiet (fail)
            have hbq5 : Below W0.heap.size W0 (wp2.drewN nq) := below_drewN hbp2 nq
            have hoq5 : OwnLabels W0.heap.size _ _ (wp2.drewN nq) := HOP2.out
            generalize wp2.drewN nq = wq5 at hbq5 hoq5 ⊢
            have HOQ5 := Lib.hid hoq5
            clear hoq5
            clear y0 y1 x0 x1
            go_wp2_with fail
            go_roundw
            case rel => exact ⟨k + 1, out ++ [x], true, by omega, by go_num, HOQ5, rfl, HK2, by first | omega | (simp only [List.length_append, List.length_cons, List.length_nil]; omega), hbq5⟩
            case measure => simp [intOf]; omega
        · have hnl : Lab.bs y.n < Lab.bs x.n := of_decide_eq_true HLT.out
          have y0 := (KY.out wr hb).1
          have y1 := (KY.out wr hb).2
          have x0 := (KX.out wr hb).1
          have x1 := (KX.out wr hb).2.1
          go_wp2_with fail
          go_quiet ((go_at_call 52; exact Calls.quiet_of (HL.out _)))
          have hbq6 : Below W0.heap.size W0 (wr.drewN nq) := below_drewN hb nq
          have hoq6 : OwnLabels W0.heap.size _ _ (wr.drewN nq) := HO.out
          generalize wr.drewN nq = wq6 at hbq6 hoq6 ⊢
          have HOQ6 := Lib.hid hoq6
          clear hoq6
          clear y0 y1 x0 x1
          clear HL
          cases eq
          · have q3 : (y.n.toList != x.n.toList) = true := by rw [q2]; rfl
            have hne : ¬ Lab.bs y.n = Lab.bs x.n := of_decide_eq_false HEQ.out
            have HK2 : Hid (out ++ [y] ++ Lab.rput x false (ls.drop (k + 1)) = r) := by
              show _ = _
              have h2 := HST.out
              rw [if_neg (by simp [hnl])] at h2
              rw [if_neg hne] at h2
              simpa using h2
            clear q2 HST HLT HEQ hne
            have y0 := (KY.out wq6 hbq6).1
            have y1 := (KY.out wq6 hbq6).2
            have x0 := (KX.out wq6 hbq6).1
            have x1 := (KX.out wq6 hbq6).2.1
            go_wp2_with fail
            go_quiet (fail)
            have hbq7 : Below W0.heap.size W0 (wq6.drewN nq) := below_drewN hbq6 nq
            have hoq7 : OwnLabels W0.heap.size _ _ (wq6.drewN nq) := HOQ6.out
            generalize wq6.drewN nq = wq7 at hbq7 hoq7 ⊢
            have HOQ7 := Lib.hid hoq7
            clear hoq7
            clear y0 y1 x0 x1
            have y0 := (KY.out wq7 hbq7).1
            have y1 := (KY.out wq7 hbq7).2
            have x0 := (KX.out wq7 hbq7).1
            have x1 := (KX.out wq7 hbq7).2.1
            have hop8 := HOQ7.out
            go_wp2_with (at_builtin; refine wpList_pushL 24 Tryz.underlying24 rfl _ _ rfl _ _ _ _ rfl hop8 y _ _ rfl _ rfl (by simp) ?c5 ?c6 ?_)
            case c5 => first | omega | (simp only [List.length_append, List.length_cons, List.length_nil]; omega)
            case c6 => exact hbq7.size
            intro vp8 wp8 hown8 hg
            have hbp8 := below_push _ hbq7 hop8 hg
            have HOP8 := Lib.hid hown8
            clear hg hop8 hown8
            clear y0 y1 x0 x1
            go_wp2_with fail
            go_roundw
            case rel => exact ⟨k + 1, out ++ [y], false, by omega, by go_num, HOP8, rfl, HK2, by first | omega | (simp only [List.length_append, List.length_cons, List.length_nil]; omega), hbp8⟩
            case measure => simp [intOf]; omega
          · have q3 : (y.n.toList != x.n.toList) = false := by rw [q2]; rfl
            have hne : Lab.bs y.n = Lab.bs x.n := of_decide_eq_true HEQ.out
            have HK2 : Hid (out ++ Lab.rput x false (ls.drop (k + 1)) = r) := by
              show _ = _
              have h2 := HST.out
              rw [if_neg (by simp [hnl])] at h2
              rw [if_pos hne] at h2
              simpa using h2
            clear q2 HST HLT HEQ hne
            have y0 := (KY.out wq6 hbq6).1
            have y1 := (KY.out wq6 hbq6).2
            have x0 := (KX.out wq6 hbq6).1
            have x1 := (KX.out wq6 hbq6).2.1
            go_wp2_with fail
            go_quiet (fail)
            have hbq9 : Below W0.heap.size W0 (wq6.drewN nq) := below_drewN hbq6 nq
            have hoq9 : OwnLabels W0.heap.size _ _ (wq6.drewN nq) := HOQ6.out
            generalize wq6.drewN nq = wq9 at hbq9 hoq9 ⊢
            have HOQ9 := Lib.hid hoq9
            clear hoq9
            clear y0 y1 x0 x1
            go_wp2_with fail
            go_roundw
            case rel => exact ⟨k + 1, out, false, by omega, by go_num, HOQ9, rfl, HK2, by first | omega | (simp only [List.length_append, List.length_cons, List.length_nil]; omega), hbq9⟩
            case measure => simp [intOf]; omega
      · clear HL
        have y0 := (KY.out wr hb).1
        have y1 := (KY.out wr hb).2
        have x0 := (KX.out wr hb).1
        have x1 := (KX.out wr hb).2.1
        go_wp2_with fail
        go_quiet (fail)
        have hbq10 : Below W0.heap.size W0 (wr.drewN nq) := below_drewN hb nq
        have hoq10 : OwnLabels W0.heap.size _ _ (wr.drewN nq) := HO.out
        generalize wr.drewN nq = wq10 at hbq10 hoq10 ⊢
        have HOQ10 := Lib.hid hoq10
        clear hoq10
        clear y0 y1 x0 x1
        cases eq
        · have q3 : (y.n.toList != x.n.toList) = true := by rw [q2]; rfl
          have hne : ¬ Lab.bs y.n = Lab.bs x.n := of_decide_eq_false HEQ.out
          have HK2 : Hid (out ++ [y] ++ Lab.rput x true (ls.drop (k + 1)) = r) := by
            show _ = _
            have h2 := HST.out
            rw [if_neg (by simp)] at h2
            rw [if_neg hne] at h2
            simpa using h2
          clear q2 HST HLT HEQ hne
          have y0 := (KY.out wq10 hbq10).1
          have y1 := (KY.out wq10 hbq10).2
          have x0 := (KX.out wq10 hbq10).1
          have x1 := (KX.out wq10 hbq10).2.1
          go_wp2_with fail
          go_quiet (fail)
          have hbq11 : Below W0.heap.size W0 (wq10.drewN nq) := below_drewN hbq10 nq
          have hoq11 : OwnLabels W0.heap.size _ _ (wq10.drewN nq) := HOQ10.out
          generalize wq10.drewN nq = wq11 at hbq11 hoq11 ⊢
          have HOQ11 := Lib.hid hoq11
          clear hoq11
          clear y0 y1 x0 x1
          have y0 := (KY.out wq11 hbq11).1
          have y1 := (KY.out wq11 hbq11).2
          have x0 := (KX.out wq11 hbq11).1
          have x1 := (KX.out wq11 hbq11).2.1
          have hop12 := HOQ11.out
          go_wp2_with (at_builtin; refine wpList_pushL 24 Tryz.underlying24 rfl _ _ rfl _ _ _ _ rfl hop12 y _ _ rfl _ rfl (by simp) ?c7 ?c8 ?_)
          case c7 => first | omega | (simp only [List.length_append, List.length_cons, List.length_nil]; omega)
          case c8 => exact hbq11.size
          intro vp12 wp12 hown12 hg
          have hbp12 := below_push _ hbq11 hop12 hg
          have HOP12 := Lib.hid hown12
          clear hg hop12 hown12
          clear y0 y1 x0 x1
          go_wp2_with fail
          go_roundw
          case rel => exact ⟨k + 1, out ++ [y], true, by omega, by go_num, HOP12, rfl, HK2, by first | omega | (simp only [List.length_append, List.length_cons, List.length_nil]; omega), hbp12⟩
          case measure => simp [intOf]; omega
        · have q3 : (y.n.toList != x.n.toList) = false := by rw [q2]; rfl
          have hne : Lab.bs y.n = Lab.bs x.n := of_decide_eq_true HEQ.out
          have HK2 : Hid (out ++ Lab.rput x true (ls.drop (k + 1)) = r) := by
            show _ = _
            have h2 := HST.out
            rw [if_neg (by simp)] at h2
            rw [if_pos hne] at h2
            simpa using h2
          clear q2 HST HLT HEQ hne
          have y0 := (KY.out wq10 hbq10).1
          have y1 := (KY.out wq10 hbq10).2
          have x0 := (KX.out wq10 hbq10).1
          have x1 := (KX.out wq10 hbq10).2.1
          go_wp2_with fail
          go_quiet (fail)
          have hbq13 : Below W0.heap.size W0 (wq10.drewN nq) := below_drewN hbq10 nq
          have hoq13 : OwnLabels W0.heap.size _ _ (wq10.drewN nq) := HOQ10.out
          generalize wq10.drewN nq = wq13 at hbq13 hoq13 ⊢
          have HOQ13 := Lib.hid hoq13
          clear hoq13
          clear y0 y1 x0 x1
          go_wp2_with fail
          go_roundw
          case rel => exact ⟨k + 1, out, true, by omega, by go_num, HOQ13, rfl, HK2, by first | omega | (simp only [List.length_append, List.length_cons, List.length_nil]; omega), hbq13⟩
          case measure => simp [intOf]; omega
    · have n2 : (n : Int) ≤ (k : Int) := by omega
      have hst := HK.out
      rw [List.drop_eq_nil_iff.2 (by rw [HN.out]; omega)] at hst
      have hbW : W0.heap.size ≥ w.heap.size := hbw.size
      cases th
      · have hst2 : out ++ [x] = r := hst
        have x0 := (KX.out wr hb).1
        have x1 := (KX.out wr hb).2.1
        have hop := HO.out
        clear hst HK
        go_wp2_with (at_builtin; refine wpList_pushL 24 Tryz.underlying24 rfl _ _ rfl _ _ _ _ rfl hop x _ _ rfl _ rfl (by simp) ?e1 ?e2 ?_)
        case e1 => omega
        case e2 => exact hb.size
        intro v9 w9 hown9 hg
        have hb9 := below_push _ hb hop hg
        have HO9 := Lib.hid (row_lift hown9 hbW)
        clear hg hop hown9 hst2 x0 x1
        go_wp2_with fail
        go_ret
        exact ⟨⟨_, rfl, HO9.out⟩, hbw.trans (hb9.mono hbW)⟩
      · have hst2 : out = r := by simpa [Lab.rput] using hst
        have hop := HO.out
        rw [hst2] at hop
        have HO9 := Lib.hid (row_lift hop hbW)
        clear hst HK hop hst2
        go_wp2_with fail
        go_ret
        exact ⟨⟨_, rfl, HO9.out⟩, hbw.trans (hb.mono hbW)⟩
end Go.Proofs.YtbilaghljlobpaaGreat
