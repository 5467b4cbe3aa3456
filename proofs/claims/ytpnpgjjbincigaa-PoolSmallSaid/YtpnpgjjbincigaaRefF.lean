/- Contracts of the reference's labels: Value, wrong, Less. Contracts of the reference's labels: Check, Right. -/
import Derived.Test.YtpnpgjjbincigaaRefD
namespace Go.Proofs.Ytpnpgjjbincigaa
open Go.RowKit

set_option maxHeartbeats 800000 in
theorem rval_is (s : ByteArray) (b : Bool) (h : Lab.value s.data.toList = b) (w : World) (hs : s.size ≤ maxLen) :
    Calls Try.prog 126 #[.string s] w fun e w' => e = .returned (.bool b) ∧ Below w.heap.size w w' := by
  unfold maxLen at hs
  unfold Lab.value at h
  rw [Utf.len_is] at h
  by_cases h1 : s.size ≤ 1024
  · rw [decide_eq_true h1, Bool.true_and] at h
    have HC := Lib.hid (fun w => rcheck_any s b h w (by omega))
    clear h
    go_enter Try.func126, Try.ntmps126
    go_wp2_with (go_at_call 99; refine (HC.out _).mono ?_)
    first | rintro e w1 n er rfl ho hb1 | rintro e w1 ⟨⟨n, er, rfl, ho⟩, hb1⟩
    go_wp2_with fail
    go_ret
    exact ⟨by first | rfl | rw [ho], hb1⟩
  · have hb : b = false := by rw [← h, decide_eq_false h1]; rfl
    subst hb
    clear h
    have h2 : 1024 < s.size := by omega
    go_enter Try.func126, Try.ntmps126
    go_wp2_with fail
    go_ret
    exact ⟨rfl, Below.refl _ _⟩

theorem drewN_below (w : World) (n : Nat) : Below w.heap.size w (w.drewN n) := below_drewN (Below.refl _ _) n

set_option maxHeartbeats 800000 in
theorem wrong_is (x : Lab.L) (c : Int) (h : Lab.one x = c) (w : World) (hn : x.n.size ≤ maxLen) (hv : x.v.size ≤ maxLen) :
    Calls Try.prog 116 #[.agg #[.string x.n, .string x.v]] w fun e w' => e = .returned (.int .i64 c) ∧ Below w.heap.size w w' := by
  unfold Lab.one Lab.bs at h
  obtain ⟨bn, hbn⟩ : ∃ bn, Lab.named 95 x.n.data.toList = bn := ⟨_, rfl⟩
  obtain ⟨bv, hbv⟩ : ∃ bv, Lab.value x.v.data.toList = bv := ⟨_, rfl⟩
  rw [hbn, hbv] at h
  have HN := Lib.hid (fun w => rname_is x.n false 95 rfl bn hbn w hn)
  have HV := Lib.hid (fun w => rval_is x.v bv hbv w hv)
  clear hbn hbv
  cases bn
  · obtain rfl : c = 40 := by rw [← h]; rfl
    clear h
    go_enter Try.func116, Try.ntmps116
    go_wp2_with (go_at_call 125; refine (HN.out _).mono ?_)
    first | rintro e w1 rfl n rfl | rintro e w1 n rfl rfl | rintro e w1 ⟨rfl, n, rfl⟩
    go_wp2_with fail
    go_ret
    exact ⟨rfl, below_drewN ((Below.refl _ _).alloc (Nat.le_refl _) _) _⟩
  · cases bv
    · obtain rfl : c = 41 := by rw [← h]; rfl
      clear h
      go_enter Try.func116, Try.ntmps116
      go_wp2_with (go_at_call 125; refine (HN.out _).mono ?_)
      first | rintro e w1 rfl n rfl | rintro e w1 n rfl rfl | rintro e w1 ⟨rfl, n, rfl⟩
      go_wp2_with (go_at_call 126; refine (HV.out _).mono ?_)
      first | rintro e w1 rfl hb1 | rintro e w1 ⟨rfl, hb1⟩
      go_wp2_with fail
      go_ret
      exact ⟨rfl, (below_drewN ((Below.refl _ _).alloc (Nat.le_refl _) _) _).trans (hb1.mono (by simp))⟩
    · obtain rfl : c = 0 := by rw [← h]; rfl
      clear h
      go_enter Try.func116, Try.ntmps116
      go_wp2_with (go_at_call 125; refine (HN.out _).mono ?_)
      first | rintro e w1 rfl n rfl | rintro e w1 n rfl rfl | rintro e w1 ⟨rfl, n, rfl⟩
      go_wp2_with (go_at_call 126; refine (HV.out _).mono ?_)
      first | rintro e w1 rfl hb1 | rintro e w1 ⟨rfl, hb1⟩
      go_wp2_with fail
      go_ret
      exact ⟨rfl, (below_drewN ((Below.refl _ _).alloc (Nat.le_refl _) _) _).trans (hb1.mono (by simp))⟩

set_option maxHeartbeats 1600000 in
set_option maxRecDepth 100000 in
theorem less_is (a b : ByteArray) (p : Bool) (h : decide (Lab.bs a < Lab.bs b) = p) (w : World) (ha : a.size ≤ maxLen) :
    Calls Try.prog 75 #[.string a, .string b] w fun e w' => e = .returned (.bool p) ∧ ∃ n, w' = w.drewN n := by
  unfold maxLen at ha
  have H0 : Hid (decide (a.data.toList.drop 0 < b.data.toList.drop 0) = p) := by
    show decide (a.data.toList.drop 0 < b.data.toList.drop 0) = p
    rw [List.drop_zero, List.drop_zero]; exact h
  clear h
  go_enter Try.func75, Try.ntmps75
  go_wp2_with fail
  go_loopw [5] (fun i wr => ∃ k : Nat, k ≤ a.size ∧ k ≤ b.size ∧ i = .int .i64 k ∧ Hid (decide (a.data.toList.drop k < b.data.toList.drop k) = p) ∧ ∃ n, wr = w.drewN n) (fun i _ => a.size - (intOf i).toNat)
  case atStart => exact ⟨0, Nat.zero_le _, Nat.zero_le _, rfl, H0, 0, rfl⟩
  case round =>
    obtain ⟨k, hk, hk2, rfl, HK, nw, rfl⟩ := hrel
    by_cases hlt : k < a.size ∧ k < b.size
    · obtain ⟨l1, l2⟩ := hlt
      have HA := Lib.hid (Utf.drop_cons a k l1)
      have HB := Lib.hid (Utf.drop_cons b k l2)
      have hca : (a[k].toNat : Int) < 256 := by have := a[k].toNat_lt; omega
      have hcb : (b[k].toNat : Int) < 256 := by have := b[k].toNat_lt; omega
      by_cases he : a[k] = b[k]
      · have HG : Hid (decide (a.data.toList.drop (k + 1) < b.data.toList.drop (k + 1)) = p) := by
          show decide (a.data.toList.drop (k + 1) < b.data.toList.drop (k + 1)) = p
          have h2 := HK.out
          rw [HA.out, HB.out, he] at h2
          rw [← h2, Bool.eq_iff_iff, decide_eq_true_eq, decide_eq_true_eq, List.cons_lt_cons_iff]
          simp
        have q1 : ((a[k].toNat : Int) == (b[k].toNat : Int)) = true := by rw [he]; simp
        have q2 : ((a[k].toNat : Int) != (b[k].toNat : Int)) = false := by rw [he]; simp
        have HE := Lib.hid he
        clear he HK HA HB
        go_wp2_with fail
        go_quiet (fail)
        go_wp2_with fail
        go_roundw
        case rel => exact ⟨k + 1, by omega, by omega, by go_num, HG, _, rfl⟩
        case measure => simp [intOf]; omega
      · have hne : (a[k].toNat : Int) ≠ (b[k].toNat : Int) := by
          intro h; apply he; rw [← UInt8.toNat_inj]; omega
        have HG : Hid (decide (a[k].toNat < b[k].toNat) = p) := by
          show decide (a[k].toNat < b[k].toNat) = p
          have h2 := HK.out
          rw [HA.out, HB.out] at h2
          rw [← h2, Bool.eq_iff_iff, decide_eq_true_eq, decide_eq_true_eq, List.cons_lt_cons_iff, ← UInt8.lt_iff_toNat_lt]
          simp [he]
        have q1 : ((a[k].toNat : Int) == (b[k].toNat : Int)) = false := by simpa using hne
        have q2 : ((a[k].toNat : Int) != (b[k].toNat : Int)) = true := by simpa using hne
        clear he HK HA HB hne
        go_wp2_with fail
        go_quiet (fail)
        go_wp2_with fail
        go_quiet (fail)
        go_wp2_with fail
        go_ret
        exact ⟨by rw [← HG.out]; rfl, _, by rw [World.drewN_drewN, World.drewN_drewN]⟩
    · have HG : Hid (decide (a.size < b.size) = p) := by
        show decide (a.size < b.size) = p
        have h2 := HK.out
        rw [← h2, Bool.eq_iff_iff, decide_eq_true_eq, decide_eq_true_eq]
        by_cases g : k < a.size
        · have g2 : b.size ≤ k := by omega
          rw [List.drop_eq_nil_iff.2 (by rw [Utf.len_is]; omega : b.data.toList.length ≤ k)]
          have : ¬ (a.data.toList.drop k < []) := List.not_lt_nil _
          constructor
          · intro; omega
          · intro h; exact absurd h this
        · rw [List.drop_eq_nil_iff.2 (by rw [Utf.len_is]; omega : a.data.toList.length ≤ k)]
          by_cases g2 : k < b.size
          · rw [Utf.drop_cons b k g2]
            constructor
            · intro; exact List.nil_lt_cons _ _
            · intro; omega
          · rw [List.drop_eq_nil_iff.2 (by rw [Utf.len_is]; omega : b.data.toList.length ≤ k)]
            constructor
            · intro; omega
            · intro h; exact absurd h (List.not_lt_nil _)
      clear HK
      by_cases g : k < a.size
      · have g2 : b.size ≤ k := by omega
        clear hlt
        go_wp2_with fail
        go_ret
        exact ⟨by rw [← HG.out]; rfl, _, rfl⟩
      · have g2 : a.size ≤ k := by omega
        clear hlt g
        go_wp2_with fail
        go_ret
        exact ⟨by rw [← HG.out]; rfl, _, rfl⟩
end Go.Proofs.Ytpnpgjjbincigaa
namespace Go.Proofs.Ytpnpgjjbincigaa
open Go.RowKit

theorem Lab.not_le_lt (x y : Lab.L) : (!decide (Lab.bs y.n < Lab.bs x.n)) = decide (Lab.bs x.n ≤ Lab.bs y.n) := by
  rw [Bool.eq_iff_iff]
  simp only [Bool.not_eq_true', decide_eq_false_iff_not, decide_eq_true_eq]
  exact List.not_lt

set_option maxHeartbeats 1600000 in
set_option maxRecDepth 100000 in
theorem rlcheck_any (p : Option Addr) (ls : List Lab.L) (n c : Nat) (w : World) (hn : ls.length = n) (hA : Lab.At p ls w) (hF : Lab.Fit maxLen ls) (hl : n ≤ maxLen) :
    Calls Try.prog 108 #[.slice p n c] w fun e w' => e = .returned (.tuple #[.int .i64 (Lab.check ls).1, .int .i64 (Lab.check ls).2]) ∧ Below w.heap.size w w' := by
  obtain ⟨r, hr⟩ : ∃ r, Lab.check ls = r := ⟨_, rfl⟩
  rw [hr]
  unfold maxLen at hl
  by_cases h64 : 64 < n
  · have : r = (-1, 5) := by rw [← hr]; unfold Lab.check; rw [if_pos (by omega)]
    subst this
    clear hr
    go_enter Try.func108, Try.ntmps108
    go_wp2_with fail
    go_ret2
    exact ⟨rfl, Below.refl _ _⟩
  · have h64' : n ≤ 64 := by omega
    have HR : Hid (Lab.chk 0 (Lab.prev ls 0) (ls.drop 0) = r) := by
      show Lab.chk 0 none (ls.drop 0) = r
      rw [List.drop_zero, ← hr]; unfold Lab.check; rw [if_neg (by omega)]
    have HN := Lib.hid hn
    clear hr h64 hn
    go_enter Try.func108, Try.ntmps108
    go_wp2_with fail
    go_loopw [4] (fun i wr => ∃ k : Nat, k ≤ n ∧ i = .int .i64 k ∧ Hid (Lab.chk k (Lab.prev ls k) (ls.drop k) = r) ∧ Below w.heap.size w wr) (fun i _ => n - (intOf i).toNat)
    case atStart => exact ⟨0, Nat.zero_le _, rfl, HR, Below.refl _ _⟩
    case round =>
      obtain ⟨k, hk, rfl, HK, hb⟩ := hrel
      have hs1 := hb.size
      by_cases hlt : k < n
      · have hkl : k < ls.length := by rw [HN.out]; exact hlt
        have hA2 := hA.below hb (Nat.le_refl _)
        obtain ⟨b, o, rfl, hc⟩ := hA2.open k hkl
        obtain ⟨x, hx⟩ : ∃ x, ls[k] = x := ⟨_, rfl⟩
        have hfx := hF x (by rw [← hx]; exact List.getElem_mem _)
        have c0 := (hc k hkl).1
        have c1 := (hc k hkl).2
        rw [hx] at c0 c1
        have hbx : b < wr.heap.size := World.block_lt_of_cell? _ _ c0
        have HX := Lib.hid hx
        have HO := Lib.hid (fun m (h : m < k) => hc m (by omega))
        clear hx hc
        obtain ⟨e0, he⟩ : ∃ e0, Lab.one x = e0 := ⟨_, rfl⟩
        have hge := Lab.one_ge x
        rw [he] at hge
        by_cases h0 : e0 = 0
        · subst h0
          have HE := Lib.hid (fun w => wrong_is x 0 he w hfx.1 hfx.2)
          clear hge
          go_wp2_with (go_at_call 116; refine (HE.out _).mono ?_)
          first | rintro e w1 ⟨rfl, hb1⟩ | rintro e w1 rfl hb1
          have hb2 := below_next hb hb1
          have d0 := cell_later hb1 c0 (Nat.le_refl _)
          have d1 := cell_later hb1 c1 (Nat.le_refl _)
          obtain ⟨bv, hbv⟩ : ∃ bv, x.v.toList.isEmpty = bv := ⟨_, rfl⟩
          have hpv : decide (Lab.bs x.v = []) = bv := by rw [← hbv]; exact (Lab.empty_is _).symm
          have hs3 := hb2.size
          clear hb c0 c1
          cases bv
          · have hve : Lab.bs x.v ≠ [] := of_decide_eq_false hpv
            by_cases hk0 : k = 0
            · subst hk0
              have HS := Lib.hid (Lab.chk_ok ls 0 hkl (Lab.oneAt_first _ (by rw [HX.out]; exact he) (by rw [HX.out]; exact hve)))
              clear he hpv hve hb1
              go_wp2_with fail
              go_quiet (fail)
              go_wp2_with fail
              go_roundw
              case rel => exact ⟨1, by omega, by go_num, by show Lab.chk 1 (Lab.prev ls 1) (ls.drop 1) = r; rw [← HS.out]; exact HK.out, below_drewN hb2 _⟩
              case measure => simp [intOf]; omega
            · have hb0 : (0 : Int) < k := by omega
              obtain ⟨j, rfl⟩ : ∃ j, k = j + 1 := ⟨k - 1, by omega⟩
              obtain ⟨y, hy⟩ : ∃ y, ls[j] = y := ⟨_, rfl⟩
              have f0 := (HO.out j (by omega)).1
              rw [hy] at f0
              have f1 := cell_later hb1 f0 (Nat.le_refl _)
              have hfy := hF y (by rw [← hy]; exact List.getElem_mem _)
              have q0 : (0 : Int) ≤ (j : Int) := by omega
              have q1 : (j : Int) < (n : Int) := by omega
              have q2 : ((j : Int) + 1 - 1) = j := by omega
              have q3 : IntKind.i64.wrap (j : Int) = j := by rw [IntKind.wrap_i64]; omega
              have q4 : ((j : Int)).toNat = j := by omega
              obtain ⟨bl, hbl⟩ : ∃ bl, decide (Lab.bs y.n < Lab.bs x.n) = bl := ⟨_, rfl⟩
              have HL := Lib.hid (fun w => less_is y.n x.n bl hbl w hfy.1)
              have hpl : decide (Lab.bs x.n ≤ Lab.bs y.n) = !bl := by rw [← hbl, Lab.not_le_lt]
              have hp : Lab.prev ls (j + 1) = some y := by rw [← hy]; exact List.getElem?_eq_getElem (by omega)
              clear hb1 f0 hbl
              cases bl
              · have HS := Lib.hid (Lab.chk_bad ls (j + 1) hkl 42 (by rw [hp]; exact Lab.oneAt_le _ _ (by rw [HX.out]; exact he) (by rw [HX.out]; exact hve) (by rw [HX.out]; exact of_decide_eq_true hpl)) (by omega))
                clear he hpv hve hpl hp hy
                go_wp2_with fail
                go_quiet ((go_at_call 75; exact Calls.quiet_of (HL.out _)))
                go_wp2_with fail
                go_ret2
                exact ⟨by rw [← HK.out, HS.out]; rfl, below_drewN hb2 _⟩
              · have HS := Lib.hid (Lab.chk_ok ls (j + 1) hkl (by rw [hp]; exact Lab.oneAt_gt _ _ (by rw [HX.out]; exact he) (by rw [HX.out]; exact hve) (by rw [HX.out]; exact of_decide_eq_false hpl)))
                clear he hpv hve hpl hp hy
                go_wp2_with fail
                go_quiet ((go_at_call 75; exact Calls.quiet_of (HL.out _)))
                go_wp2_with fail
                go_roundw
                case rel => exact ⟨j + 2, by omega, by go_num, by show Lab.chk (j + 1 + 1) (Lab.prev ls (j + 1 + 1)) (ls.drop (j + 1 + 1)) = r; rw [← HS.out]; exact HK.out, below_drewN hb2 _⟩
                case measure => simp [intOf]; omega
          · have HS := Lib.hid (Lab.chk_bad ls k hkl 42 (Lab.oneAt_empty _ _ (by rw [HX.out]; exact he) (by rw [HX.out]; exact of_decide_eq_true hpv)) (by omega))
            clear he hpv hb1
            go_wp2_with fail
            go_quiet (fail)
            go_wp2_with fail
            go_ret2
            exact ⟨by rw [← HK.out, HS.out]; rfl, below_drewN hb2 _⟩
        · have HS := Lib.hid (Lab.chk_bad ls k hkl e0 (Lab.oneAt_bad _ _ _ (by rw [HX.out]; exact he) h0) h0)
          have HE := Lib.hid (fun w => wrong_is x e0 he w hfx.1 hfx.2)
          have be2 : (e0 != 0) = true := by simp; omega
          clear he
          go_wp2_with (go_at_call 116; refine (HE.out _).mono ?_)
          first | rintro e w1 ⟨rfl, hb1⟩ | rintro e w1 rfl hb1
          have hb2 := below_next hb hb1
          go_wp2_with fail
          go_ret2
          exact ⟨by rw [← HK.out, HS.out]; rfl, hb2⟩
      · have HE : Hid (r = (-1, 0)) := by
          show r = (-1, 0)
          rw [← HK.out]; exact Lab.chk_end _ _ _ (by rw [HN.out]; omega)
        go_wp2_with fail
        go_ret2
        exact ⟨by rw [HE.out]; rfl, hb⟩

set_option maxHeartbeats 1600000 in
theorem rright_is (p : Option Addr) (ls : List Lab.L) (n c : Nat) (b : Bool) (h : Lab.right ls = b) (w : World) (hn : ls.length = n) (hA : Lab.At p ls w) (hF : Lab.Fit maxLen ls) (hl : n ≤ maxLen) :
    Calls Try.prog 100 #[.slice p n c] w fun e w' => e = .returned (.bool b) ∧ Below w.heap.size w w' := by
  obtain ⟨r, hr⟩ : ∃ r, Lab.check ls = r := ⟨_, rfl⟩
  obtain ⟨a, e0⟩ := r
  have hc := rlcheck_any p ls n c w hn hA hF hl
  rw [hr] at hc
  dsimp only at hc
  have hb : (e0 == 0) = b := by rw [← h]; unfold Lab.right; rw [hr]
  have HC := Lib.hid hc
  clear hc h hr hA hF hn hl
  go_enter Try.func100, Try.ntmps100
  go_wp2_with (go_at_call 108; refine HC.out.mono ?_)
  first | rintro e w1 ⟨rfl, hb1⟩ | rintro e w1 rfl hb1
  go_wp2
  go_ret
  exact ⟨rfl, hb1⟩
end Go.Proofs.Ytpnpgjjbincigaa
