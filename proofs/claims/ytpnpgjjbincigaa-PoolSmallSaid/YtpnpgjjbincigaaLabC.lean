/- Contracts of label: Check, Right. -/
import Derived.Test.YtpnpgjjbincigaaLabM
import Derived.Sort.Walk0
import Derived.BigQuiet
namespace Go.Proofs.Ytpnpgjjbincigaa
open Go.RowKit

theorem Lab.empty_is (s : ByteArray) : s.toList.isEmpty = decide (Lab.bs s = []) := by
  rw [ByteArray.toList_eq]; unfold Lab.bs
  cases s.data.toList <;> simp
theorem Lab.leq_is (a b : ByteArray) : (Op.bytesLess a.toList b.toList || a.toList == b.toList) = decide (Lab.bs a ≤ Lab.bs b) := by
  rw [bytesLess_eq, ByteArray.toList_eq, ByteArray.toList_eq]
  unfold Lab.bs
  rw [Bool.eq_iff_iff]
  simp only [Bool.or_eq_true, decide_eq_true_eq, beq_iff_eq]
  exact List.le_iff_lt_or_eq.symm

set_option maxHeartbeats 1600000 in
set_option maxRecDepth 100000 in
theorem check_any (p : Option Addr) (ls : List Lab.L) (n c : Nat) (w : World) (hn : ls.length = n) (hA : Lab.At p ls w) (hF : Lab.Fit maxLen ls) (hl : n ≤ maxLen) :
    Calls Try.prog 102 #[.slice p n c] w fun e w' => e = .returned (.tuple #[.int .i64 (Lab.check ls).1, .int .i64 (Lab.check ls).2]) ∧ Below w.heap.size w w' := by
  obtain ⟨r, hr⟩ : ∃ r, Lab.check ls = r := ⟨_, rfl⟩
  rw [hr]
  unfold maxLen at hl
  by_cases h64 : 64 < n
  · have : r = (-1, 5) := by rw [← hr]; unfold Lab.check; rw [if_pos (by omega)]
    subst this
    clear hr
    go_enter Try.func102, Try.ntmps102
    go_wp2
    go_ret2
    exact ⟨rfl, Below.refl _ _⟩
  · have h64' : n ≤ 64 := by omega
    have HR : Hid (Lab.chk 0 (Lab.prev ls 0) (ls.drop 0) = r) := by
      show Lab.chk 0 none (ls.drop 0) = r
      rw [List.drop_zero, ← hr]; unfold Lab.check; rw [if_neg (by omega)]
    have HN := Lib.hid hn
    clear hr h64 hn
    go_enter Try.func102, Try.ntmps102
    go_wp2_with fail
    go_loopw [12] (fun i wr => ∃ k : Nat, k ≤ n ∧ i = .int .i64 k ∧ Hid (Lab.chk k (Lab.prev ls k) (ls.drop k) = r) ∧ Below w.heap.size w wr) (fun i _ => n - (intOf i).toNat)
    case atStart => exact ⟨0, Nat.zero_le _, rfl, HR, Below.refl _ _⟩
    case round =>
      obtain ⟨k, hk, rfl, HK, hb⟩ := hrel
      have hs1 := hb.size
      by_cases hlt : k < n
      · have hkl : k < ls.length := by rw [HN.out]; exact hlt
        have hA2 := hA.below hb (Nat.le_refl _)
        obtain ⟨b, o, rfl, hc⟩ := hA2.open k hkl
        obtain ⟨x, hx⟩ : ∃ x, ls[k] = x := ⟨_, rfl⟩
        have hfx := hF x (by rw [← hx]; exact List.getElem_mem _)
        have c0 := (hc k hkl).1
        have c1 := (hc k hkl).2
        rw [hx] at c0 c1
        have hbx : b < wr.heap.size := World.block_lt_of_cell? _ _ c0
        have HX := Lib.hid hx
        have HO := Lib.hid (fun m (h : m < k) => hc m (by omega))
        clear hx hc
        obtain ⟨e0, he⟩ : ∃ e0, Lab.one x = e0 := ⟨_, rfl⟩
        have hge := Lab.one_ge x
        rw [he] at hge
        by_cases h0 : e0 = 0
        · subst h0
          have HE := Lib.hid (fun w => one_is x 0 he w hfx.1 hfx.2)
          clear hge
          go_wp2_with (go_at_call 110; refine (HE.out _).mono ?_)
          first | rintro e w1 ⟨rfl, hb1⟩ | rintro e w1 rfl hb1
          have d0 : w1.cell? ⟨wr.heap.size, 0, none⟩ = some (.string x.n) := by rw [hb1.cell (by simp)]; simp
          have d1 : w1.cell? ⟨wr.heap.size, 1, none⟩ = some (.string x.v) := by rw [hb1.cell (by simp)]; simp
          have hs2 := hb1.size
          simp only [World.size_alloc] at hs2
          have hb2 : Below w.heap.size w w1 := (hb.alloc (by omega) _).trans (hb1.mono (by simp; omega))
          obtain ⟨bv, hbv⟩ : ∃ bv, x.v.toList.isEmpty = bv := ⟨_, rfl⟩
          have hpv : decide (Lab.bs x.v = []) = bv := by rw [← hbv]; exact (Lab.empty_is _).symm
          have hs3 := hb2.size
          have hb1' := hb1
          clear hb hb1
          cases bv
          · have hve : Lab.bs x.v ≠ [] := of_decide_eq_false hpv
            by_cases hk0 : k = 0
            · subst hk0
              have HS := Lib.hid (Lab.chk_ok ls 0 hkl (Lab.oneAt_first _ (by rw [HX.out]; exact he) (by rw [HX.out]; exact hve)))
              clear he hpv hve
              go_wp2_with fail
              go_quiet (fail)
              go_wp2
              go_round
              case rel => exact ⟨1, by omega, by go_num, by show Lab.chk 1 (Lab.prev ls 1) (ls.drop 1) = r; rw [← HS.out]; exact HK.out, below_drewN hb2 _⟩
              case measure => simp [intOf]; omega
            · have hb0 : (0 : Int) < k := by omega
              obtain ⟨j, rfl⟩ : ∃ j, k = j + 1 := ⟨k - 1, by omega⟩
              obtain ⟨y, hy⟩ : ∃ y, ls[j] = y := ⟨_, rfl⟩
              have f0 := (HO.out j (by omega)).1
              rw [hy] at f0
              have f1 : w1.cell? ⟨b, o + j * 2, none⟩ = some (.string y.n) := cell_later hb1' (by rw [World.cell?_alloc_lt _ _ _ (World.block_lt_of_cell? _ _ f0)]; exact f0) (by simp)
              have q0 : (0 : Int) ≤ (j : Int) := by omega
              have q1 : (j : Int) < (n : Int) := by omega
              have q2 : ((j : Int) + 1 - 1) = j := by omega
              have q3 : IntKind.i64.wrap (j : Int) = j := by rw [IntKind.wrap_i64]; omega
              have q4 : ((j : Int)).toNat = j := by omega
              obtain ⟨bl, hbl⟩ : ∃ bl, (Op.bytesLess x.n.toList y.n.toList || x.n.toList == y.n.toList) = bl := ⟨_, rfl⟩
              have hpl : decide (Lab.bs x.n ≤ Lab.bs y.n) = bl := by rw [← hbl]; exact (Lab.leq_is _ _).symm
              have hp : Lab.prev ls (j + 1) = some y := by rw [← hy]; exact List.getElem?_eq_getElem (by omega)
              clear hb1' f0
              cases bl
              · have HS := Lib.hid (Lab.chk_ok ls (j + 1) hkl (by rw [hp]; exact Lab.oneAt_gt _ _ (by rw [HX.out]; exact he) (by rw [HX.out]; exact hve) (by rw [HX.out]; exact of_decide_eq_false hpl)))
                clear he hpv hve hpl hp hy
                go_wp2_with fail
                go_quiet (fail)
                go_wp2
                go_round
                case rel => exact ⟨j + 2, by omega, by go_num, by show Lab.chk (j + 1 + 1) (Lab.prev ls (j + 1 + 1)) (ls.drop (j + 1 + 1)) = r; rw [← HS.out]; exact HK.out, below_drewN hb2 _⟩
                case measure => simp [intOf]; omega
              · have HS := Lib.hid (Lab.chk_bad ls (j + 1) hkl 42 (by rw [hp]; exact Lab.oneAt_le _ _ (by rw [HX.out]; exact he) (by rw [HX.out]; exact hve) (by rw [HX.out]; exact of_decide_eq_true hpl)) (by omega))
                clear he hpv hve hpl hp hy
                go_wp2_with fail
                go_quiet (fail)
                go_wp2
                go_ret2
                exact ⟨by rw [← HK.out, HS.out]; rfl, below_drewN hb2 _⟩
          · have HS := Lib.hid (Lab.chk_bad ls k hkl 42 (Lab.oneAt_empty _ _ (by rw [HX.out]; exact he) (by rw [HX.out]; exact of_decide_eq_true hpv)) (by omega))
            clear he hpv
            go_wp2_with fail
            go_quiet (fail)
            go_wp2
            go_ret2
            exact ⟨by rw [← HK.out, HS.out]; rfl, below_drewN hb2 _⟩
        · have HS := Lib.hid (Lab.chk_bad ls k hkl e0 (Lab.oneAt_bad _ _ _ (by rw [HX.out]; exact he) h0) h0)
          have HE := Lib.hid (fun w => one_is x e0 he w hfx.1 hfx.2)
          have be : (e0 == 0) = false := by simp; omega
          have be2 : (e0 != 0) = true := by simp; omega
          clear he
          go_wp2_with (go_at_call 110; refine (HE.out _).mono ?_)
          first | rintro e w1 ⟨rfl, hb1⟩ | rintro e w1 rfl hb1
          have d0 : w1.cell? ⟨wr.heap.size, 0, none⟩ = some (.string x.n) := by rw [hb1.cell (by simp)]; simp
          have d1 : w1.cell? ⟨wr.heap.size, 1, none⟩ = some (.string x.v) := by rw [hb1.cell (by simp)]; simp
          have hs2 := hb1.size
          simp only [World.size_alloc] at hs2
          have hb2 : Below w.heap.size w w1 := (hb.alloc (by omega) _).trans (hb1.mono (by simp; omega))
          clear hb hb1
          go_wp2_with fail
          go_quiet (fail)
          go_wp2
          go_ret2
          exact ⟨by rw [← HK.out, HS.out]; rfl, below_drewN hb2 _⟩
      · have HE : Hid (r = (-1, 0)) := by
          show r = (-1, 0)
          rw [← HK.out]; exact Lab.chk_end _ _ _ (by rw [HN.out]; omega)
        go_wp2
        go_ret2
        exact ⟨by rw [HE.out]; rfl, hb⟩

set_option maxHeartbeats 1600000 in
theorem right_is (p : Option Addr) (ls : List Lab.L) (n c : Nat) (b : Bool) (h : Lab.right ls = b) (w : World) (hn : ls.length = n) (hA : Lab.At p ls w) (hF : Lab.Fit maxLen ls) (hl : n ≤ maxLen) :
    Calls Try.prog 95 #[.slice p n c] w fun e w' => e = .returned (.bool b) ∧ Below w.heap.size w w' := by
  obtain ⟨r, hr⟩ : ∃ r, Lab.check ls = r := ⟨_, rfl⟩
  obtain ⟨a, e0⟩ := r
  have hc := check_any p ls n c w hn hA hF hl
  rw [hr] at hc
  dsimp only at hc
  have hb : (e0 == 0) = b := by rw [← h]; unfold Lab.right; rw [hr]
  have HC := Lib.hid hc
  clear hc h hr hA hF hn hl
  go_enter Try.func95, Try.ntmps95
  go_wp2_with (go_at_call 102; refine HC.out.mono ?_)
  first | rintro e w1 ⟨rfl, hb1⟩ | rintro e w1 rfl hb1
  go_wp2
  go_ret
  exact ⟨rfl, hb1⟩
end Go.Proofs.Ytpnpgjjbincigaa
