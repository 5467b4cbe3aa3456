/- Contracts of the reader's small functions: next, fail, space, want. -/
import Derived.Test.YtmmijebekipdeaaDoorJsM
import Derived.BigQuiet
import Derived.Deep.LoopGhost
namespace Go.Proofs.YtmmijebekipdeaaDoor
open Go.RowKit
set_option maxRecDepth 100000

set_option maxHeartbeats 1000000 in
theorem Js.next_is (R : Nat) (s : ByteArray) (k o b : Nat) (w : World) (hR : w.heap[R]? = some (Js.obj s k o b)) (hk : k ≤ s.size) :
    Calls Tryd.prog 81 #[.pointer (some ⟨R, 0, none⟩)] w fun e w' => e = .returned (.int .u8 (Js.nx s k)) ∧ ∃ q, w' = w.drewN q := by
  have c0 : w.cell? ⟨R, 0, none⟩ = some (.string s) := by rw [Lib.cell_of_heap hR]; rfl
  have c1 : w.cell? ⟨R, 1, none⟩ = some (.int .i64 k) := by rw [Lib.cell_of_heap hR]; rfl
  by_cases h : k = s.size
  · have h1 : ((k : Int) == (s.size : Int)) = true := Js.beq_t (by omega)
    rw [Js.nx_end s k (by omega)]
    go_enter Tryd.func81, Tryd.ntmps81
    go_wp2_with fail
    go_quiet (fail)
    go_wp2
    go_ret
    exact ⟨rfl, _, rfl⟩
  · have h1 : ((k : Int) == (s.size : Int)) = false := Js.beq_f (by omega)
    have h2 : (0 : Int) ≤ k := by omega
    have h3 : (k : Int) < s.size := by omega
    rw [Js.nx_get s k (by omega)]
    go_enter Tryd.func81, Tryd.ntmps81
    go_wp2_with fail
    go_quiet (fail)
    go_wp2
    go_quiet (fail)
    go_wp2
    go_ret
    exact ⟨by simp, _, World.drewN_drewN ..⟩

set_option maxHeartbeats 1000000 in
theorem Js.fail_is (R : Nat) (s : ByteArray) (k o b e : Nat) (w : World) (hR : w.heap[R]? = some (Js.obj s k o b)) :
    Calls Tryd.prog 54 #[.pointer (some ⟨R, 0, none⟩), .int .i64 e] w (Js.Stops R (if e = 143 then Js.wrong s k else (k, e)) w) := by
  have c0 : w.cell? ⟨R, 0, none⟩ = some (.string s) := by rw [Lib.cell_of_heap hR]; rfl
  have c1 : w.cell? ⟨R, 1, none⟩ = some (.int .i64 k) := by rw [Lib.cell_of_heap hR]; rfl
  obtain ⟨x, hx⟩ : ∃ x, (if e = 143 then Js.wrong s k else (k, e)) = x := ⟨_, rfl⟩
  rw [hx]
  by_cases h : e = 143
  · rw [if_pos h] at hx
    unfold Js.wrong at hx
    by_cases h2 : k = s.size
    · rw [if_pos h2] at hx
      subst hx
      subst h
      have e0 : (((143 : Nat) : Int) == 143) = true := rfl
      have h1 : ((k : Int) == (s.size : Int)) = true := Js.beq_t (by omega)
      go_enter Tryd.func54, Tryd.ntmps54
      go_wp2_with fail
      go_quiet (fail)
      go_wp2
      exact bodyPost_stop rfl ⟨rfl, (Kp.refl R w).drew _⟩
    · rw [if_neg h2] at hx
      subst hx
      subst h
      have e0 : (((143 : Nat) : Int) == 143) = true := rfl
      have h1 : ((k : Int) == (s.size : Int)) = false := Js.beq_f (by omega)
      go_enter Tryd.func54, Tryd.ntmps54
      go_wp2_with fail
      go_quiet (fail)
      go_wp2
      exact bodyPost_stop rfl ⟨rfl, (Kp.refl R w).drew _⟩
  · rw [if_neg h] at hx
    subst hx
    have e0 : ((e : Int) == 143) = false := Js.beq_f (by omega)
    go_enter Tryd.func54, Tryd.ntmps54
    go_wp2_with fail
    go_quiet (fail)
    go_wp2
    exact bodyPost_stop rfl ⟨rfl, (Kp.refl R w).drew _⟩
set_option maxHeartbeats 1000000 in
theorem Js.space_is (R : Nat) (s : ByteArray) (k o b : Nat) (w : World) (hR : w.heap[R]? = some (Js.obj s k o b)) (hk : k ≤ s.size) (hs : s.size ≤ 1000000) :
    Calls Tryd.prog 53 #[.pointer (some ⟨R, 0, none⟩)] w (Js.Goes R s (Js.sp s k) o b (.tuple #[]) w) := by
  obtain ⟨K, hK⟩ : ∃ K, Js.sp s k = K := ⟨_, rfl⟩
  rw [hK]
  have HK := Lib.hid hK
  clear hK
  have HR := Lib.hid hR
  clear hR
  go_enter Tryd.func53, Tryd.ntmps53
  go_wp2
  go_loopg [] (s.size + 1) (fun gk wx => ∃ j : Nat, j ≤ s.size ∧ s.size < gk + j ∧ Hid (Js.sp s j = K) ∧ Hid (wx.heap[R]? = some (Js.obj s j o b)) ∧ Hid (Kp R w wx))
  case atStart => exact ⟨k, hk, by omega, HK.out, HR.out, Kp.refl _ _⟩
  case round =>
    obtain ⟨j, hj, hg, HK, HR, HP⟩ := hrel
    have c0 : wr.cell? ⟨R, 0, none⟩ = some (.string s) := by rw [Lib.cell_of_heap HR.out]; rfl
    have c1 : wr.cell? ⟨R, 1, none⟩ = some (.int .i64 j) := by rw [Lib.cell_of_heap HR.out]; rfl
    have f1 : wr.frozen? ⟨R, 1, none⟩ = false := Lib.frozen_of_heap HR.out 1
    by_cases h : j < s.size
    · have h1 : (j : Int) < s.size := by omega
      have h2 : (0 : Int) ≤ j := by omega
      obtain ⟨g', rfl⟩ : ∃ g', gk = g' + 1 := ⟨gk - 1, by omega⟩
      obtain ⟨r, hr1, hr2, HC⟩ := Js.ix_is ⟨#[32, 9, 10, 13]⟩ (Js.nx s j) _ (Js.ix_sp _ (Js.nx_lt s j))
      rw [Js.nx_get s j h] at HC
      by_cases hp : Js.isSp (Js.nx s j) = true
      · rw [hp] at hr1 hr2
        have HS := Lib.hid (Js.sp_step s j hp)
        clear hp hr2
        go_wp2_with fail
        go_quiet ((go_at_call 36; exact Calls.quiet_of_same (HC _)))
        go_wp2
        go_roundg g'
        case measure => omega
        case rel => exact ⟨j + 1, by omega, by omega, by show Js.sp s (j + 1) = K; rw [← HS.out]; exact HK.out, Js.set_at (Js.drew_heap HR.out _) _ _ (by go_num), (HP.out.drew _).set 1 _⟩
      · have hp0 : Js.isSp (Js.nx s j) = false := by simpa using hp
        rw [hp0] at hr1 hr2
        have HS := Lib.hid (Js.sp_stop s j hp0)
        clear hp hp0 hr2
        go_wp2_with fail
        go_quiet ((go_at_call 36; exact Calls.quiet_of_same (HC _)))
        go_wp2
        go_end0
        have : j = K := HS.out.symm.trans HK.out
        subst this
        exact ⟨rfl, HR.out, HP.out.drew _⟩
    · have h1 : ¬ (j : Int) < s.size := by omega
      have HS := Lib.hid (Js.sp_stop s j (by rw [Js.nx_end s j (by omega)]; rfl))
      go_wp2_with fail
      go_quiet (fail)
      go_wp2
      go_end0
      have : j = K := HS.out.symm.trans HK.out
      subst this
      exact ⟨rfl, HR.out, HP.out.drew _⟩

set_option maxHeartbeats 1000000 in
theorem Js.want_ok (l : ByteArray) (R : Nat) (s : ByteArray) (k o b : Nat) (w : World) (hR : w.heap[R]? = some (Js.obj s k o b)) (hk : k < s.size) (hs : s.size ≤ 1000000)
    (h0 : Js.nx s k ≠ 0) (hp : decide (0 ≤ Lib.indexByte l.data.toList (UInt8.ofNat (Js.nx s k))) = true) :
    Calls Tryd.prog 106 #[.pointer (some ⟨R, 0, none⟩), .string l] w (Js.Goes R s (k + 1) o b (.int .u8 (Js.nx s k)) w) := by
  obtain ⟨r, hr1, hr2, HC⟩ := Js.ix_is l _ _ hp
  have HN := Lib.hid (fun w' (h : w'.heap[R]? = some (Js.obj s k o b)) => Js.next_is R s k o b w' h (by omega))
  have c1 : w.cell? ⟨R, 1, none⟩ = some (.int .i64 k) := by rw [Lib.cell_of_heap hR]; rfl
  have f1 : w.frozen? ⟨R, 1, none⟩ = false := Lib.frozen_of_heap hR 1
  have HR := Lib.hid hR
  have hr3 : decide (r < 0) = false := hr2
  clear hR hp hr1 hr2
  obtain ⟨c, hc⟩ : ∃ c, Js.nx s k = c := ⟨_, rfl⟩
  rw [hc] at HC h0 HN ⊢
  have hc0 : ((c : Int) == 0) = false := Js.beq_f (by omega)
  clear hc
  go_enter Tryd.func106, Tryd.ntmps106
  go_wp2_with (go_at_call 81; refine (HN.out _ HR.out).mono ?_)
  rintro e w1 ⟨rfl, q, rfl⟩
  go_wp2_with (go_at_call 36; refine (HC _).mono ?_)
  rintro e w1 ⟨rfl, rfl⟩
  go_wp2
  go_ret
  exact ⟨rfl, Js.set_at (Js.drew_heap HR.out _) _ _ (by go_num), ((Kp.refl R w).drew _).set 1 _⟩

set_option maxHeartbeats 1000000 in
theorem Js.want_bad (l : ByteArray) (R : Nat) (s : ByteArray) (k o b : Nat) (w : World) (hR : w.heap[R]? = some (Js.obj s k o b)) (hk : k ≤ s.size)
    (hp : Js.nx s k ≠ 0 → decide (0 ≤ Lib.indexByte l.data.toList (UInt8.ofNat (Js.nx s k))) = false) :
    Calls Tryd.prog 106 #[.pointer (some ⟨R, 0, none⟩), .string l] w (Js.Stops R (Js.wrong s k) w) := by
  have HN := Lib.hid (fun w' (h : w'.heap[R]? = some (Js.obj s k o b)) => Js.next_is R s k o b w' h (by omega))
  have HF := Lib.hid (fun w' (h : w'.heap[R]? = some (Js.obj s k o b)) => Js.fail_is R s k o b 143 w' h)
  have HR := Lib.hid hR
  clear hR
  obtain ⟨x, hx⟩ : ∃ x, Js.wrong s k = x := ⟨_, rfl⟩
  rw [if_pos rfl, hx] at HF
  rw [hx]
  clear hx
  by_cases h0 : Js.nx s k = 0
  · rw [h0] at HN
    go_enter Tryd.func106, Tryd.ntmps106
    go_wp2_with (go_at_call 81; refine (HN.out _ HR.out).mono ?_)
    rintro e w1 ⟨rfl, q, rfl⟩
    go_wp2_with (go_at_call 54; refine (HF.out _ (Js.drew_heap HR.out _)).mono ?_)
    rintro e w2 ⟨rfl, hk2⟩
    go_wp2
    exact bodyPost_stop rfl ⟨rfl, ((Kp.refl R w).drew _).trans hk2⟩
  · obtain ⟨r, hr1, hr2, HC⟩ := Js.ix_is l _ _ (hp h0)
    have hr3 : decide (r < 0) = true := hr2
    clear hr1 hr2 hp
    obtain ⟨c, hc⟩ : ∃ c, Js.nx s k = c := ⟨_, rfl⟩
    rw [hc] at HC h0 HN
    have hc0 : ((c : Int) == 0) = false := Js.beq_f (by omega)
    clear hc
    go_enter Tryd.func106, Tryd.ntmps106
    go_wp2_with (go_at_call 81; refine (HN.out _ HR.out).mono ?_)
    rintro e w1 ⟨rfl, q, rfl⟩
    go_wp2_with (go_at_call 36; refine (HC _).mono ?_)
    rintro e w1 ⟨rfl, rfl⟩
    go_wp2_with (go_at_call 54; refine (HF.out _ (Js.drew_heap HR.out _)).mono ?_)
    rintro e w2 ⟨rfl, hk2⟩
    go_wp2
    exact bodyPost_stop rfl ⟨rfl, ((Kp.refl R w).drew _).trans hk2⟩
end Go.Proofs.YtmmijebekipdeaaDoor
