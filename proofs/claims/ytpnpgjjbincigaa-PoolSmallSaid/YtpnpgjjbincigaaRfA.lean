/- Contracts of the reference's pool: numbers, Right, same, Find, Running. -/
import Derived.Test.YtpnpgjjbincigaaRws
import Derived.Test.YtpnpgjjbincigaaL5N
import Derived.Test.YtpnpgjjbincigaaPoI
import Derived.BigQuiet
namespace Go.Proofs.Ytpnpgjjbincigaa
open Go.RowKit
set_option linter.unusedVariables false

/-- keys are short -/
theorem Po.key_small (j : ByteArray) (ls : List Lab.L) : (Can.key (Lab.bs j) ls).1.length ≤ 1000000 := by
  unfold Can.key
  by_cases hj : Can.job (Lab.bs j) = true
  · rw [if_pos hj]
    by_cases hr : Lab.right ls = true
    · have hb : Can.bytes ls = (Can.raw ls, 0) := if_pos hr
      rw [hb, if_pos rfl]
      obtain ⟨h1, h2⟩ := Lab.right_fit ls hr
      have h3 := Can.raw_length ls 1100 h1
      have h4 := Can.job_size j hj
      have h5 : ls.length * (2 * 1100 + 2) ≤ 64 * 2202 := Nat.mul_le_mul_right _ h2
      simp only [List.length_append, List.length_singleton]
      have h6 : (Lab.bs j).length = j.size := by simp [Lab.bs]
      omega
    · have hb : Can.bytes ls = ([], 44) := if_neg hr
      rw [hb, if_neg (by decide)]
      simp
  · rw [if_neg hj]; simp
theorem Po.keyB_small (t : Can.T) : (Can.keyB t).size ≤ 1000000 := by
  have h1 := Po.key_small t.job t.ls
  have h2 : (Can.keyB t).size = (Can.key (Lab.bs t.job) t.ls).1.length := by simp [Can.keyB, ByteArray.size]
  omega

set_option maxHeartbeats 1600000 in
theorem rnum_is (ev ti : Int) (b : Bool) (h : Po.num ev ti = b) (w : World) :
    Calls Try.prog 71 #[.int .i64 ev, .int .i64 ti] w fun e w' => e = .returned (.bool b) ∧ ∃ m, w' = w.drewN m := by
  unfold Po.num at h
  by_cases h1 : 1 ≤ ev
  · rw [decide_eq_true h1, Bool.true_and] at h
    by_cases h2 : ev ≤ 1099511627776
    · rw [decide_eq_true h2, Bool.true_and] at h
      by_cases h3 : 1 ≤ ti
      · rw [decide_eq_true h3, Bool.true_and] at h
        subst h
        go_enter Try.func71, Try.ntmps71
        go_wp2_with fail
        go_ret
        exact ⟨rfl, 0, rfl⟩
      · rw [decide_eq_false h3, Bool.false_and] at h
        subst h
        have q3 : decide (ti ≥ 1) = false := decide_eq_false (by omega)
        go_enter Try.func71, Try.ntmps71
        go_wp2_with fail
        go_ret
        exact ⟨rfl, 0, rfl⟩
    · rw [decide_eq_false h2, Bool.false_and, Bool.false_and] at h
      subst h
      go_enter Try.func71, Try.ntmps71
      go_wp2_with fail
      go_ret
      exact ⟨rfl, 0, rfl⟩
  · rw [decide_eq_false h1, Bool.false_and, Bool.false_and, Bool.false_and] at h
    subst h
    go_enter Try.func71, Try.ntmps71
    go_wp2_with fail
    go_ret
    exact ⟨rfl, 0, rfl⟩

set_option maxHeartbeats 6400000 in
set_option maxRecDepth 100000 in
theorem rright35_is (p : Option Addr) (ss : List Sl) (n c : Nat) (b : Bool) (h : Po.okVs (ss.map Sl.view) = b) (w : World) (hn : ss.length = n) (hA : Po.At p ss w) (hF : ∀ s ∈ ss, Can.TAny s.t) (hl : n ≤ 1000000) :
    Calls Try.prog 42 #[.slice p n c] w fun e w' => e = .returned (.bool b) ∧ Below w.heap.size w w' := by
  have HN := Lib.hid hn
  have H0 : Hid (Po.rightFrom (Po.prev ss 0) (ss.drop 0) = b) := by show Po.right ss = b; rw [Po.okVs_is]; exact h
  have HF := Lib.hid hF
  have HA := Lib.hid hA
  clear h hn hF hA
  go_enter Try.func42, Try.ntmps42
  go_wp2_with fail
  go_loopw [3, 4] (fun v i wr => ∃ (k : Nat) (y0 : ByteArray), k ≤ n ∧ i = .int .i64 (k : Int) ∧ v = .string y0 ∧ Hid ((Po.prev ss k).getD ⟨#[]⟩ = y0) ∧ Hid (Po.rightFrom (Po.prev ss k) (ss.drop k) = b) ∧ Hid (Below w.heap.size w wr)) (fun _ i _ => n - (intOf i).toNat)
  case atStart => exact ⟨0, ⟨#[]⟩, Nat.zero_le _, rfl, rfl, rfl, H0, Below.refl _ _⟩
  case round =>
    obtain ⟨wj, rfl⟩ : ∃ wo : World, wo = wr := ⟨_, rfl⟩
    obtain ⟨k, y0, hk, rfl, rfl, HY, HD, HB⟩ := hrel
    have hsz := HB.out.size
    by_cases hlt : k < n
    · have hk1 : k < ss.length := by rw [HN.out]; exact hlt
      have m1 : (0 : Int) ≤ (k : Int) := by omega
      have m2 : (k : Int) < (n : Int) := by omega
      have hAt := HA.out.below HB.out (Nat.le_refl _)
      obtain ⟨b0, o0, rfl, hcells⟩ := hAt.cells (by omega)
      obtain ⟨d0, d1, d2, d3, d4⟩ := hcells k hk1
      have hgb : b0 < wj.heap.size := World.block_lt_of_cell? _ _ d0
      have hls := hAt.2 ss[k] (List.getElem_mem _)
      obtain ⟨f1, f2, f3, f4, f5⟩ := HF.out ss[k] (List.getElem_mem _)
      have hst := Po.right_step ss k hk1
      rw [HD.out] at hst
      have hps := Po.prev_succ ss k hk1
      have hy0 : k = 0 ∨ Po.prev ss k = some y0 := by
        cases k with
        | zero => exact .inl rfl
        | succ j =>
          refine .inr ?_
          have h1 := Po.prev_succ ss j (by omega)
          have h2 := HY.out
          rw [h1] at h2 ⊢
          rw [← h2]; rfl
      have hys : y0.size ≤ 1000000 := by
        have h2 := HY.out
        cases k with
        | zero => rw [← h2]; show 0 ≤ 1000000; decide
        | succ j =>
          rw [Po.prev_succ ss j (by omega)] at h2
          rw [← h2]
          exact Po.keyB_small _
      obtain ⟨s, hs⟩ : ∃ s, ss[k] = s := ⟨_, rfl⟩
      rw [hs] at d0 d1 d2 d3 d4 hls f1 f2 f3 f4 f5 hst hps
      obtain ⟨⟨kk, e0⟩, hq⟩ : ∃ x, Can.key (Lab.bs s.t.job) s.t.ls = x := ⟨_, rfl⟩
      have HC := Lib.hid (fun w hA => rkeyG_is s.t.job s.t.p s.t.ls s.t.n s.t.c kk e0 hq w f2 hA f3 f5 f1)
      have hkb : Sl.kb s = ⟨kk.toArray⟩ := by unfold Sl.kb Can.keyB; rw [hq]
      have hke : Can.keyE s.t = e0 := by unfold Can.keyE; rw [hq]
      obtain ⟨y, hy⟩ : ∃ y, ByteArray.mk kk.toArray = y := ⟨_, rfl⟩
      rw [hy] at HC hkb
      rw [hkb] at hps
      obtain ⟨nm, hnm⟩ : ∃ x, Po.num s.ev s.ti = x := ⟨_, rfl⟩
      have HPR := Lib.hid (fun w => rnum_is s.ev s.ti nm hnm w)
      have hok : Po.ok1 (Po.prev ss k) s = (decide (e0 = 0) && nm && Po.ltq (Po.prev ss k) y) := by
        unfold Po.ok1
        rw [hke, hnm, show Can.keyB s.t = y from hkb]
      rw [hok] at hst
      obtain ⟨⟨tj, tp, tn, tc, tl⟩, ev, ti, en⟩ := s
      dsimp only at d0 d1 d2 d3 d4 hls HC HPR
      have HST := Lib.hid hst
      have HPS := Lib.hid hps
      have HY0 := Lib.hid hy0
      have HYS := Lib.hid hys
      have HLS := Lib.hid hls
      have HD2 := Lib.hid (show _ ∧ _ from ⟨d2, d3⟩)
      clear hs hcells hq hkb hke hy hnm hok hst hps hy0 hys hls HD HY hAt f1 f2 f3 f4 f5 d2 d3 d4
      go_wp2_with (go_at_call 72; refine (HC.out _ HLS.out).mono ?_)
      first | rintro e w1 rfl hb1 | rintro e w1 ⟨rfl, hb1⟩
      have hb2 : Below w.heap.size w w1 := below_next HB.out hb1
      have c2 := (hb1.cell (p := ⟨b0, o0 + k * 5 + 2, none⟩) hgb).trans HD2.out.1
      have c3 := (hb1.cell (p := ⟨b0, o0 + k * 5 + 3, none⟩) hgb).trans HD2.out.2
      have hgb1 : b0 < w1.heap.size := Nat.lt_of_lt_of_le hgb hb1.size
      have HB2 := Lib.hid hb2
      clear hb1 hb2 d0 d1
      by_cases h00 : e0 = 0
      · subst h00
        cases nm
        · have HB0 : Hid (b = false) := HST.out
          obtain rfl := HB0.out
          go_wp2_with fail
          go_quiet ((go_at_call 71; exact Calls.quiet_of (HPR.out _)))
          go_wp2_with fail
          go_ret
          exact ⟨rfl, below_drewN HB2.out _⟩
        · by_cases hk0 : k = 0
          · subst hk0
            have HB0 : Hid (b = Po.rightFrom (Po.prev ss 1) (ss.drop 1)) := HST.out
            go_wp2_with fail
            go_quiet ((go_at_call 71; exact Calls.quiet_of (HPR.out _)))
            go_wp2_with fail
            go_roundw
            case rel => exact ⟨1, y, by omega, by go_num, rfl, (by show (Po.prev ss 1).getD _ = y; rw [HPS.out]; rfl), HB0.out.symm, below_drewN HB2.out _⟩
            case measure => simp [intOf]; omega
          · have hb0 : (0 : Int) < (k : Int) := by omega
            have qd : decide (0 < k) = true := decide_eq_true (by omega)
            obtain ⟨bl, hbl⟩ : ∃ bl, decide (Lab.bs y0 < Lab.bs y) = bl := ⟨_, rfl⟩
            have HL := Lib.hid (fun w => less_is y0 y bl hbl w (Nat.le_trans HYS.out (by decide)))
            have hp : Po.ltq (Po.prev ss k) y = bl := by
              rcases HY0.out with h1 | h1
              · exact absurd h1 hk0
              · rw [h1]; exact hbl
            have hst := HST.out
            rw [hp] at hst
            have HST2 := Lib.hid hst
            clear hst hp hbl
            cases bl
            · have HB0 : Hid (b = false) := HST2.out
              obtain rfl := HB0.out
              go_wp2_with fail
              go_quiet ((first | (go_at_call 71; exact Calls.quiet_of (HPR.out _)) | (go_at_call 75; exact Calls.quiet_of (HL.out _))))
              go_wp2_with fail
              go_ret
              exact ⟨rfl, below_drewN HB2.out _⟩
            · have HB0 : Hid (b = Po.rightFrom (Po.prev ss (k + 1)) (ss.drop (k + 1))) := HST2.out
              go_wp2_with fail
              go_quiet ((first | (go_at_call 71; exact Calls.quiet_of (HPR.out _)) | (go_at_call 75; exact Calls.quiet_of (HL.out _))))
              go_wp2_with fail
              go_roundw
              case rel => exact ⟨k + 1, y, by omega, by go_num, rfl, (by show (Po.prev ss (k + 1)).getD _ = y; rw [HPS.out]; rfl), HB0.out.symm, below_drewN HB2.out _⟩
              case measure => simp [intOf]; omega
      · have be : (e0 != 0) = true := by simpa using h00
        have HB0 : Hid (b = false) := by
          have h1 := HST.out
          rw [decide_eq_false h00] at h1
          exact h1
        obtain rfl := HB0.out
        clear h00
        go_wp2_with fail
        go_quiet (fail)
        go_wp2_with fail
        go_ret
        exact ⟨rfl, below_drewN HB2.out _⟩
    · have HE : Hid (b = true) := by
        show b = true
        rw [← HD.out, List.drop_eq_nil_of_le (by rw [HN.out]; omega)]; rfl
      have n2 : (n : Int) ≤ (k : Int) := by omega
      obtain rfl := HE.out
      go_wp2_with fail
      go_ret
      exact ⟨rfl, HB.out⟩

theorem Lab.cmpL_zero : ∀ a b : List Lab.L, Lab.cmpL a b = 0 ↔ a = b
  | [], [] => by simp [Lab.cmpL]
  | [], _ :: _ => by simp [Lab.cmpL]
  | _ :: _, [] => by simp [Lab.cmpL]
  | x :: a, y :: b => by
    show (if Lab.c1 x y = 0 then Lab.cmpL a b else Lab.c1 x y) = 0 ↔ _
    rw [List.cons.injEq]
    rcases Lab.c1_cases5 x y with ⟨g1, gc⟩ | ⟨g1, g2, gc⟩ | ⟨g1, g2, g3, gc⟩ | ⟨g1, g2, g3, g4, gc⟩ | ⟨g1, g3, g2, gc⟩
    · rw [gc, if_neg (by decide)]
      exact ⟨fun h => absurd h (by decide), fun h => absurd g1 (by rw [h.1]; exact List.lt_irrefl _)⟩
    · rw [gc, if_neg (by decide)]
      exact ⟨fun h => absurd h (by decide), fun h => absurd (by rw [h.1]) g2⟩
    · rw [gc, if_neg (by decide)]
      exact ⟨fun h => absurd h (by decide), fun h => absurd g3 (by rw [h.1]; exact List.lt_irrefl _)⟩
    · rw [gc, if_neg (by decide)]
      exact ⟨fun h => absurd h (by decide), fun h => absurd (by rw [h.1]) g4⟩
    · rw [gc, if_pos rfl, Lab.cmpL_zero a b]
      exact ⟨fun h => ⟨g2, h⟩, fun h => h.2⟩
set_option maxHeartbeats 1600000 in
set_option maxRecDepth 100000 in
theorem rsame_is (j i : ByteArray) (p1 p2 : Option Addr) (a b : List Lab.L) (n m c1 c2 : Nat) (r : Bool) (h : r = true ↔ (j = i ∧ a = b)) (w : World) (hn : a.length = n) (hm : b.length = m) (hA : Lab.At p1 a w) (hB : Lab.At p2 b w) (hF : Lab.Fit maxLen a) (hF2 : Lab.Fit maxLen b) (hl : n ≤ maxLen) (hl2 : m ≤ maxLen) :
    Calls Try.prog 79 #[.agg #[.string j, .slice p1 n c1], .agg #[.string i, .slice p2 m c2]] w fun e w' => e = .returned (.bool r) ∧ Below w.heap.size w w' := by
  have hb0 : Below w.heap.size w ((w.alloc (.cells #[.string j, .slice p1 n c1] 29)).alloc (.cells #[.string i, .slice p2 m c2] 29)) := ((Below.refl _ _).alloc (Nat.le_refl _) _).alloc (by simp) _
  have HB0 := Lib.hid hb0
  obtain ⟨q, hq⟩ : ∃ q, (j.toList == i.toList) = q := ⟨_, rfl⟩
  have hji : q = true ↔ j = i := by
    rw [← hq, ByteArray.toList_eq, ByteArray.toList_eq, beq_iff_eq]
    exact ⟨fun h => ByteArray.ext (Array.toList_inj.1 h), fun h => by rw [h]⟩
  cases q
  · obtain rfl : r = false := by
      cases r
      · rfl
      · exact absurd (hji.2 (h.1 rfl).1) (by simp)
    clear h hji hn hm hA hB
    go_enter Try.func79, Try.ntmps79
    go_wp2_with fail
    go_ret
    exact ⟨rfl, HB0.out⟩
  · have hj := hji.1 rfl
    obtain ⟨v, hv⟩ : ∃ v, Lab.cmpL a b = v := ⟨_, rfl⟩
    have hr : (v == 0) = r := by
      rw [← hv, Bool.eq_iff_iff, beq_iff_eq, Lab.cmpL_zero]
      exact ⟨fun h1 => h.2 ⟨hj, h1⟩, fun h1 => (h.1 h1).2⟩
    have HC := Lib.hid (rcompare4_is p1 p2 a b n c1 m c2 v hv _ hn hm (hA.below hb0 (Nat.le_refl _)) (hB.below hb0 (Nat.le_refl _)) hF hF2 hl hl2)
    clear h hji hj hv hn hm hA hB hb0
    go_enter Try.func79, Try.ntmps79
    go_wp2_with (go_at_call 92; refine HC.out.mono ?_)
    first | rintro e w1 rfl hb1 | rintro e w1 ⟨rfl, hb1⟩
    have hbz : Below w.heap.size w w1 := HB0.out.trans (hb1.mono (by simp; omega))
    clear hb1
    go_wp2_with fail
    go_ret
    exact ⟨rfl, hbz⟩

set_option maxHeartbeats 1600000 in
set_option maxRecDepth 100000 in
theorem rfind_is (p : Option Addr) (ss : List Sl) (t : Can.T) (n c : Nat) (i : Int) (q : Bool) (h : Po.find (ss.map Sl.view) (Po.tv t) = (i, q)) (w : World) (hn : ss.length = n) (hA : Po.At p ss w) (hB : Lab.At t.p t.ls w) (hF : ∀ s ∈ ss, Can.TAny s.t) (hG : Can.TAny t) (hl : n ≤ 1000000) :
    Calls Try.prog 46 #[.slice p n c, .agg #[.string t.job, .slice t.p t.n t.c]] w fun e w' => e = .returned (.tuple #[.int .i64 i, .bool q]) ∧ Below w.heap.size w w' := by
  obtain ⟨tj, tp, tn, tc, tl⟩ := t
  have hb0 : Below w.heap.size w (w.alloc (.cells #[.string tj, .slice tp tn tc] 29)) := (Below.refl _ _).alloc (Nat.le_refl _) _
  have kx := alloc_new w (.cells #[.string tj, .slice tp tn tc] 29)
  have HB0 := Lib.hid hb0
  have KX := Lib.hid kx
  have HN := Lib.hid hn
  have HA := Lib.hid hA
  have HB := Lib.hid hB
  have HF := Lib.hid hF
  have HG := Lib.hid hG
  have hfx : Hid ((Po.fx (ss.map Sl.view) (tj, tl) = none → i = 0 ∧ q = false) ∧ ∀ k, Po.fx (ss.map Sl.view) (tj, tl) = some k → i = (k : Int) ∧ q = true) := by
    have h1 : Po.find (ss.map Sl.view) (tj, tl) = (i, q) := h
    unfold Po.find at h1
    refine ⟨fun hx => ?_, fun k hx => ?_⟩
    · rw [hx] at h1; simp only [Prod.mk.injEq] at h1; exact ⟨h1.1.symm, h1.2.symm⟩
    · rw [hx] at h1; simp only [Prod.mk.injEq] at h1; exact ⟨h1.1.symm, h1.2.symm⟩
  clear h hn hA hB hF hG hb0 kx
  go_enter Try.func46, Try.ntmps46
  go_wp2_with fail
  go_loopw [6] (fun i wr => ∃ k : Nat, k ≤ n ∧ i = .int .i64 (k : Int) ∧ Hid (∀ j (hj : j < ss.length), j < k → Po.vu (Sl.view ss[j]) ≠ (tj, tl)) ∧ Hid (Below (w.heap.size + 1) (w.alloc (.cells #[.string tj, .slice tp tn tc] 29)) wr)) (fun i _ => n - (intOf i).toNat)
  case atStart => exact ⟨0, Nat.zero_le _, rfl, fun j _ hj => absurd hj (Nat.not_lt_zero _), Below.refl _ _⟩
  case round =>
    obtain ⟨wj, rfl⟩ : ∃ wo : World, wo = wr := ⟨_, rfl⟩
    obtain ⟨k, hk, rfl, HF0, HBJ⟩ := hrel
    have hsz : w.heap.size + 1 ≤ wj.heap.size := by have := HBJ.out.size; simpa using this
    have hbw : Below w.heap.size w wj := HB0.out.trans (HBJ.out.mono (Nat.le_succ _))
    have hkx := below_kept HBJ.out KX.out (Nat.lt_succ_self _)
    have x0 : wj.cell? ⟨w.heap.size, 0, none⟩ = some (.string tj) := by rw [Lib.cell_of_heap hkx]; rfl
    have x1 : wj.cell? ⟨w.heap.size, 1, none⟩ = some (.slice tp tn tc) := by rw [Lib.cell_of_heap hkx]; rfl
    have HBW := Lib.hid hbw
    clear hkx hbw
    by_cases hlt : k < n
    · have hk1 : k < ss.length := by rw [HN.out]; exact hlt
      have m1 : (0 : Int) ≤ (k : Int) := by omega
      have m2 : (k : Int) < (n : Int) := by omega
      have hAt := HA.out.below HBW.out (Nat.le_refl _)
      obtain ⟨b0, o0, rfl, hcells⟩ := hAt.cells (by omega)
      obtain ⟨d0, d1, d2, d3, d4⟩ := hcells k hk1
      have hls := hAt.2 ss[k] (List.getElem_mem _)
      obtain ⟨f1, f2, f3, f4, f5⟩ := HF.out ss[k] (List.getElem_mem _)
      obtain ⟨g1, g2, g3, g4, g5⟩ := HG.out
      have hgb : b0 < wj.heap.size := World.block_lt_of_cell? _ _ d0
      have hxl : Hid (ss[k]? = some ss[k]) := List.getElem?_eq_getElem hk1
      obtain ⟨s, hs⟩ : ∃ s, ss[k] = s := ⟨_, rfl⟩
      have HSK := Lib.hid hs
      rw [hs] at d0 d1 hls f1 f2 f3 f4 f5
      obtain ⟨⟨sj, sp, sn, sc, sl⟩, ev, ti, en⟩ := s
      dsimp only at d0 d1 hls f1 f2 f3 f4 f5 g1 g2 g3 g4 g5
      obtain ⟨r, hr⟩ : ∃ r, decide (sj = tj ∧ sl = tl) = r := ⟨_, rfl⟩
      have hr2 : r = true ↔ (sj = tj ∧ sl = tl) := by rw [← hr, decide_eq_true_eq]
      have HSM := Lib.hid (fun w h1 h2 => rsame_is sj tj sp tp sl tl sn tn sc tc r hr2 w f2 g2 h1 h2 f3 g3 f5 g5)
      have HLS := Lib.hid hls
      have HLT : Hid (Lab.At tp tl wj) := HB.out.below HBW.out (Nat.le_refl _)
      have HR2 := Lib.hid hr2
      clear hs hcells d2 d3 d4 hr hr2 hls hAt hxl f1 f2 f3 f4 f5 g1 g2 g3 g4 g5
      have HTW : Hid (∀ w', Below wj.heap.size wj w' → Below wj.heap.size wj w' ∧ w'.cell? ⟨b0, o0 + k * 5, none⟩ = some (.string sj) ∧ w'.cell? ⟨b0, o0 + k * 5 + 1, none⟩ = some (.slice sp sn sc) ∧ w'.cell? ⟨w.heap.size, 0, none⟩ = some (.string tj) ∧ w'.cell? ⟨w.heap.size, 1, none⟩ = some (.slice tp tn tc)) := fun w' hb => ⟨hb, (hb.cell (p := ⟨b0, o0 + k * 5, none⟩) hgb).trans d0, (hb.cell (p := ⟨b0, o0 + k * 5 + 1, none⟩) hgb).trans d1, (hb.cell (p := ⟨w.heap.size, 0, none⟩) (by show w.heap.size < _; omega)).trans x0, (hb.cell (p := ⟨w.heap.size, 1, none⟩) (by show w.heap.size < _; omega)).trans x1⟩
      obtain ⟨b9, c0, c1, y0, y1⟩ := HTW.out _ ((Below.refl _ wj).drew)
      clear d0 d1 x0 x1
      go_wp2_with fail
      go_region_held3 (fun w' => Below wj.heap.size wj w' ∧ w'.cell? ⟨b0, o0 + k * 5, none⟩ = some (.string sj) ∧ w'.cell? ⟨b0, o0 + k * 5 + 1, none⟩ = some (.slice sp sn sc) ∧ w'.cell? ⟨w.heap.size, 0, none⟩ = some (.string tj) ∧ w'.cell? ⟨w.heap.size, 1, none⟩ = some (.slice tp tn tc))
        (first | exact HTW.out _ (b9.trans (by assumption)) | exact HTW.out _ (by assumption) | go_keep)
        ((go_at_call 79; refine (HSM.out _ (by exact HLS.out) (by exact HLT.out)).mono ?_; rintro e w1 ⟨rfl, hb1⟩))
      have hB1 : Below wj.heap.size wj w1 := b9.trans hb1
      have HB1 := Lib.hid hB1
      clear hb1 hB1 b9 c0 c1 y0 y1 HTW HSM
      cases r
      · have HF1 : Hid (∀ j (hj : j < ss.length), j < k + 1 → Po.vu (Sl.view ss[j]) ≠ (tj, tl)) := fun j hj h2 e => by
          by_cases hjk : j = k
          · subst hjk
            rw [HSK.out] at e
            simp only [Po.vu, Sl.view, Prod.mk.injEq] at e
            exact absurd (HR2.out.2 e) (by simp)
          · exact HF0.out j hj (by omega) e
        go_wp2_with fail
        go_roundw
        case rel => exact ⟨k + 1, by omega, by go_num, HF1.out, HBJ.out.trans (HB1.out.mono hsz)⟩
        case measure => simp [intOf]; omega
      · have hfxk : Po.fx (ss.map Sl.view) (tj, tl) = some k := by
          have hvk : Po.vu (Sl.view ss[k]) = (tj, tl) := by
            rw [HSK.out]
            obtain ⟨h1, h2⟩ := HR2.out.1 rfl
            simp only [Po.vu, Sl.view, h1, h2]
          cases hx : Po.fx (ss.map Sl.view) (tj, tl) with
          | none => exact absurd hvk ((Po.fx_facts _ _).2 hx _ (List.mem_map_of_mem (List.getElem_mem _)))
          | some i0 =>
            obtain ⟨h1, h2, h3⟩ := (Po.fx_facts _ _).1 i0 hx
            rw [List.length_map] at h1
            rw [List.getElem_map] at h2
            rcases Nat.lt_trichotomy i0 k with h4 | h4 | h4
            · exact absurd h2 (HF0.out i0 h1 h4)
            · rw [h4]
            · have h5 := h3 k h4
              rw [List.getElem_map] at h5
              exact absurd hvk h5
        obtain ⟨rfl, rfl⟩ := hfx.out.2 k hfxk
        have hbz : Below w.heap.size w w1 := HBW.out.trans (HB1.out.mono HBW.out.size)
        clear hfxk
        go_wp2_with fail
        go_ret2
        exact ⟨rfl, hbz⟩
    · have n2 : (n : Int) ≤ (k : Int) := by omega
      have hfxn : Po.fx (ss.map Sl.view) (tj, tl) = none := by
        cases hx : Po.fx (ss.map Sl.view) (tj, tl) with
        | none => rfl
        | some i0 =>
          obtain ⟨h1, h2, _⟩ := (Po.fx_facts _ _).1 i0 hx
          rw [List.length_map] at h1
          rw [List.getElem_map] at h2
          exact absurd h2 (HF0.out i0 h1 (by have := HN.out; omega))
      obtain ⟨rfl, rfl⟩ := hfx.out.1 hfxn
      clear hfxn
      go_wp2_with fail
      go_ret2
      exact ⟨rfl, HBW.out⟩

set_option maxHeartbeats 1600000 in
set_option maxRecDepth 100000 in
theorem rrunning_is (p : Option Addr) (ss : List Sl) (n c : Nat) (w : World) (hn : ss.length = n) (hA : Po.At p ss w) (hl : n ≤ 1000000) :
    Calls Try.prog 47 #[.slice p n c] w fun e w' => (∃ v, e = .returned v ∧ OwnR tgR w.heap.size v ((ss.filter fun s => !s.en).map Sl.t) w') ∧ Below w.heap.size w w' := by
  have HN := Lib.hid hn
  have HA := Lib.hid hA
  clear hn hA
  go_enter Try.func47, Try.ntmps47
  go_wp2_with fail
  go_loopw [3, 4] (fun v i wr => ∃ k : Nat, k ≤ n ∧ i = .int .i64 (k : Int) ∧ Hid (OwnR tgR w.heap.size v (((ss.take k).filter fun s => !s.en).map Sl.t) wr) ∧ Hid (Below w.heap.size w wr)) (fun _ i _ => n - (intOf i).toNat)
  case atStart => exact ⟨0, Nat.zero_le _, rfl, OwnR.nil _ _ _, Below.refl _ _⟩
  case round =>
    obtain ⟨wj, rfl⟩ : ∃ wo : World, wo = wr := ⟨_, rfl⟩
    obtain ⟨k, hk, rfl, HO, HB⟩ := hrel
    have hsz := HB.out.size
    by_cases hlt : k < n
    · have hk1 : k < ss.length := by rw [HN.out]; exact hlt
      have m1 : (0 : Int) ≤ (k : Int) := by omega
      have m2 : (k : Int) < (n : Int) := by omega
      have hAt := HA.out.below HB.out (Nat.le_refl _)
      obtain ⟨b0, o0, rfl, hcells⟩ := hAt.cells (by omega)
      obtain ⟨d0, d1, d2, d3, d4⟩ := hcells k hk1
      have htk : ((ss.take (k + 1)).filter fun s => !s.en).map Sl.t = ((ss.take k).filter fun s => !s.en).map Sl.t ++ (if ss[k].en = true then [] else [ss[k].t]) := by
        rw [List.take_add_one, List.getElem?_eq_getElem hk1, List.filter_append, List.map_append]
        cases h : ss[k].en <;> simp [h]
      have hlen : (((ss.take k).filter fun s => !s.en).map Sl.t).length ≤ k := by
        rw [List.length_map]
        exact Nat.le_trans (List.length_filter_le _ _) (by rw [List.length_take]; omega)
      obtain ⟨l0, hl0⟩ : ∃ l0, ((ss.take k).filter fun s => !s.en).map Sl.t = l0 := ⟨_, rfl⟩
      rw [hl0] at HO htk hlen
      obtain ⟨s, hs⟩ : ∃ s, ss[k] = s := ⟨_, rfl⟩
      rw [hs] at d0 d1 d4 htk
      obtain ⟨⟨sj, sp, sn, sc, sl⟩, ev, ti, en⟩ := s
      dsimp only at d0 d1 d4 htk
      have HX := Lib.hid htk
      clear hs hcells hAt d2 d3 htk hl0
      cases en
      · go_wp2_with (at_builtin; refine wpList_pushRec tgOk 23 Try.underlying23 rfl _ _ rfl w.heap.size _ l0 wj rfl (by exact HO.out) ⟨sj, sp, sn, sc, sl⟩ _ _ rfl _ rfl rfl (by omega) hsz ?_)
        intro v8 w8 hro8 hg8
        have hb8 : Below w.heap.size w w8 := (HB.out.alloc hsz _).grown hg8 (by simp; omega) (fun j hj => (World.ownsRow.lt HO.out j hj).1)
        go_wp2_with fail
        go_roundw
        case rel => exact ⟨k + 1, by omega, by go_num, (by show OwnR _ _ _ _ _; rw [HX.out]; exact hro8), hb8⟩
        case measure => simp [intOf]; omega
      · have ho := HO.out
        rw [show l0 = ((ss.take (k + 1)).filter fun s => !s.en).map Sl.t from by rw [HX.out]; simp] at ho
        have HO2 := Lib.hid ho
        clear ho
        go_wp2_with fail
        go_roundw
        case rel => exact ⟨k + 1, by omega, by go_num, HO2.out, HB.out⟩
        case measure => simp [intOf]; omega
    · have n2 : (n : Int) ≤ (k : Int) := by omega
      have hv := HO.out
      rw [List.take_of_length_le (by rw [HN.out]; omega)] at hv
      have HV := Lib.hid hv
      clear hv
      go_wp2_with fail
      go_ret
      exact ⟨⟨_, rfl, HV.out⟩, HB.out⟩
end Go.Proofs.Ytpnpgjjbincigaa
