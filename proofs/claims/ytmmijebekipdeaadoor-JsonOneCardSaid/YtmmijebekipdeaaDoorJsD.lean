/- Contract of the reader: text. -/
import Derived.Test.YtmmijebekipdeaaDoorJsC
import Derived.Test.YtmmijebekipdeaaDoorJsW
namespace Go.Proofs.YtmmijebekipdeaaDoor
open Go.RowKit
set_option maxRecDepth 100000

/-- a code point that can be written -/
def Js.okPoint (x : Nat) : Prop := x ≤ 1114111 ∧ ¬ (55296 ≤ x ∧ x ≤ 57343)
theorem Js.enc_is (x : Nat) (h : Js.okPoint x) : Lib.encodeRune (x : Int) = Js.enc x := by
  obtain ⟨h1, h2⟩ := h
  unfold Lib.encodeRune Js.enc
  have e : ∀ n : Nat, (n : Int).toNat.toUInt8 = UInt8.ofNat n := fun n => rfl
  by_cases c1 : x < 128
  · rw [if_pos c1, Lib.encodeRuneZ_one (by omega) (by omega)]
    rfl
  · rw [if_neg c1]
    by_cases c2 : x < 2048
    · rw [if_pos c2, Lib.encodeRuneZ_two (by omega) (by omega)]
      simp only [List.map_cons, List.map_nil, List.cons.injEq, and_true]
      exact ⟨by rw [← e]; congr 2, by rw [← e]; congr 2⟩
    · rw [if_neg c2]
      by_cases c3 : x < 65536
      · rw [if_pos c3, Lib.encodeRuneZ_three (by omega)]
        simp only [List.map_cons, List.map_nil, List.cons.injEq, and_true]
        exact ⟨by rw [← e]; congr 2, by rw [← e]; congr 2, by rw [← e]; congr 2⟩
      · rw [if_neg c3, Lib.encodeRuneZ_four (by omega) (by omega)]
        simp only [List.map_cons, List.map_nil, List.cons.injEq, and_true]
        exact ⟨by rw [← e]; congr 2, by rw [← e]; congr 2, by rw [← e]; congr 2, by rw [← e]; congr 2⟩
theorem Js.enc_len (x : Nat) : (Js.enc x).length ≤ 4 := by
  unfold Js.enc
  (repeat' split) <;> simp
theorem Js.hx_lt (s : ByteArray) : ∀ n k x y, Js.hx s n k x = .ok y → y < (x + 1) * 16 ^ n
  | 0, k, x, y, h => by rw [Js.hx] at h; cases h; simp
  | n + 1, k, x, y, h => by
    rw [Js.hx] at h
    cases hd : Js.hexd (Js.nx s k) with
    | none => rw [hd] at h; cases h
    | some d =>
      rw [hd] at h
      have h1 := Js.hx_lt s n (k + 1) (16 * x + d) y h
      have h2 := Js.hexd_lt _ _ hd
      have h3 : (16 * x + d + 1) * 16 ^ n ≤ (16 * x + 16) * 16 ^ n := Nat.mul_le_mul_right _ (by omega)
      have h4 : (x + 1) * 16 ^ (n + 1) = (16 * x + 16) * 16 ^ n := by
        rw [Nat.pow_succ, show 16 * x + 16 = (x + 1) * 16 by omega, Nat.mul_assoc, Nat.mul_comm 16 (16 ^ n)]
      omega
theorem Js.esc_ok (s : ByteArray) (k x j : Nat) (h : Js.esc s k = .ok (x, j)) : Js.okPoint x ∧ k + 2 ≤ j ∧ j ≤ s.size := by
  unfold Js.esc at h
  cases hs : Js.short (Js.nx s (k + 1)) with
  | some y =>
    rw [hs] at h
    cases h
    have hc := Js.short_cases _ _ hs
    have hb : k + 1 < s.size := Nat.lt_of_not_le fun hh => by have := Js.nx_end s _ hh; omega
    exact ⟨⟨by omega, by omega⟩, by omega, by omega⟩
  | none =>
    rw [hs] at h
    simp only at h
    split at h
    case isFalse => cases h
    case isTrue hu =>
      have hb : k + 1 < s.size := Nat.lt_of_not_le fun hh => by have := Js.nx_end s _ hh; omega
      cases hh : Js.hx s 4 (k + 2) 0 with
      | error p => rw [hh] at h; cases h
      | ok y =>
        rw [hh] at h
        have h1 := Js.hx_lt s 4 (k + 2) 0 y hh
        have h2 := Js.hx_end s 4 (k + 2) 0 y (by omega) hh
        simp only at h
        split at h
        · cases h; exact ⟨⟨by omega, by omega⟩, by omega, by omega⟩
        · cases hl : Js.low s (k + 6) with
          | none => rw [hl] at h; cases h
          | some z =>
            rw [hl] at h
            have h3 := Js.low_some s (k + 6) z hl
            simp only at h
            split at h
            · cases h; exact ⟨⟨by omega, by omega⟩, by omega, by omega⟩
            · cases h

set_option maxHeartbeats 4000000 in
theorem Js.text_is (R : Nat) (s : ByteArray) (k o b : Nat) (w : World) (hR : w.heap[R]? = some (Js.obj s k o b)) (hk : k < s.size) (hs : s.size ≤ 1000000) :
    Calls Tryd.prog 83 #[.pointer (some ⟨R, 0, none⟩)] w (Js.Res R w (Js.tx s k) fun x => Js.Goes R s x.2 o b (.string ⟨x.1.toArray⟩) w) := by
  have HRW := lt_of_heap hR
  have c1 : w.cell? ⟨R, 1, none⟩ = some (.int .i64 k) := by rw [Lib.cell_of_heap hR]; rfl
  have f1 : w.frozen? ⟨R, 1, none⟩ = false := Lib.frozen_of_heap hR 1
  obtain ⟨X, hX⟩ : ∃ X, Js.tx s k = X := ⟨_, rfl⟩
  rw [hX]
  have HX := Lib.hid hX
  obtain ⟨W1, hW1⟩ : ∃ W1, (w.alloc (.cells #[.pointer none, .slice none 0 0] 47)).setCell ⟨R, 1, none⟩ (.int .i64 ((k : Int) + 1)) = W1 := ⟨_, rfl⟩
  have HR1 : Hid (W1.heap[R]? = some (Js.obj s (k + 1) o b)) := by subst hW1; exact Js.set_at (alloc_kept hR) _ _ (by go_num)
  have HP1 : Hid (Kp R w W1) := by subst hW1; exact (Kp.of ((Below.refl w.heap.size w).alloc (Nat.le_refl _) _) (Nat.le_refl _)).set 1 _
  have HI1 : Hid (Lib.IsBuilderF 47 5 w.heap.size w.heap.size (Lib.byteCells []) W1) := by
    subst hW1
    refine fresh_at (Nat.le_refl _) ?_
    rw [Below.heap_setCell _ ⟨R, 1, none⟩ _ w.heap.size (by show w.heap.size ≠ R; omega)]
    exact alloc_new _ _
  clear hX hR
  go_enter Tryd.func83, Tryd.ntmps83
  go_wp2_with fail
  go_loopg [] (s.size + 1) (fun gk wr => ∃ (i f : Nat) (acc : List UInt8), i ≤ s.size ∧ s.size < gk + i ∧ s.size + 1 ≤ f + i ∧ acc.length ≤ 4 * i ∧ Hid (Js.txF s f i acc = X) ∧
    Hid (Lib.IsBuilderF 47 5 w.heap.size w.heap.size (Lib.byteCells acc) wr) ∧ Hid (wr.heap[R]? = some (Js.obj s i o b)) ∧ Hid (Kp R w wr))
  case atStart => exact ⟨k + 1, s.size + 1 - (k + 1), [], by omega, by omega, by omega, by simp, HX.out, HI1.out, HR1.out, HP1.out⟩
  case round =>
    clear HX HR1 HP1 HI1 c1 f1 hW1
    obtain ⟨i, f, acc, hi, hg, hf, hal, HX, HI, HR, HP⟩ := hrel
    obtain ⟨g', rfl⟩ : ∃ g', gk = g' + 1 := ⟨gk - 1, by omega⟩
    obtain ⟨f', rfl⟩ : ∃ f', f = f' + 1 := ⟨f - 1, by omega⟩
    have HX2 : Hid ((if Js.nx s i < 32 then .error (Js.wrong s i) else if Js.nx s i = 34 then .ok (acc, i + 1) else if Js.nx s i = 92 then (match Js.esc s i with | .error e => .error e | .ok (x, j) => Js.txF s f' j (acc ++ Js.enc x)) else Js.txF s f' (i + 1) (acc ++ [UInt8.ofNat (Js.nx s i)]) : Js.R (List UInt8 × Nat)) = X) := by
      have h9 : _ = X := HX.out
      rw [Js.txF] at h9
      exact h9
    have HN := Lib.hid (fun w' (h : w'.heap[R]? = some (Js.obj s i o b)) => Js.next_is R s i o b w' h hi)
    have hc256 := Js.nx_lt s i
    have hlt : Js.nx s i ≠ 0 → i < s.size := fun h => Nat.lt_of_not_le fun hh => h (Js.nx_end s _ hh)
    have f1 : wr.frozen? ⟨R, 1, none⟩ = false := Lib.frozen_of_heap HR.out 1
    have c1 : wr.cell? ⟨R, 1, none⟩ = some (.int .i64 i) := by rw [Lib.cell_of_heap HR.out]; rfl
    have hsz := HP.out.size
    have HE9 := Lib.hid (fun w' (h : w'.heap[R]? = some (Js.obj s i o b)) (hl : i < s.size) => Js.escape_is R s i o b w' h hl hs)
    clear HX
    obtain ⟨c, hc⟩ : ∃ c, Js.nx s i = c := ⟨_, rfl⟩
    rw [hc] at HX2 HN hc256 hlt
    clear hc
    by_cases h32 : c < 32
    · have HE : Hid (X = .error (Js.wrong s i)) := by have h9 : _ = X := HX2.out; rw [if_pos h32] at h9; exact h9.symm
      have b1 : decide ((c : Int) < 32) = true := decide_eq_true (by omega)
      have HF : Hid (∀ w', w'.heap[R]? = some (Js.obj s i o b) → Calls Tryd.prog 54 #[.pointer (some ⟨R, 0, none⟩), .int .i64 143] w' (Js.Stops R (Js.wrong s i) w')) := fun w' h => by
        have h9 := Js.fail_is R s i o b 143 w' h
        rw [if_pos rfl] at h9
        exact h9
      clear HX2 HE9
      go_wp2_with (go_at_call 81; refine (HN.out _ HR.out).mono ?_)
      rintro e w1 ⟨rfl, q, rfl⟩
      go_wp2_with (go_at_call 54; refine (HF.out _ (Js.drew_heap HR.out _)).mono ?_)
      rintro e w2 ⟨rfl, k2⟩
      go_wp2
      exact bodyPost_stop rfl (Js.Res.bad _ HE.out ⟨rfl, (HP.out.drew _).trans k2⟩)
    · have b1 : decide ((c : Int) < 32) = false := decide_eq_false (by omega)
      have hlt2 := hlt (by omega)
      by_cases h34 : c = 34
      · have HE : Hid (X = .ok (acc, i + 1)) := by have h9 : _ = X := HX2.out; rw [if_neg h32, if_pos h34] at h9; exact h9.symm
        subst h34
        clear HX2 HE9
        go_wp2_with (go_at_call 81; refine (HN.out _ HR.out).mono ?_)
        rintro e w1 ⟨rfl, q, rfl⟩
        obtain ⟨W2, hW2⟩ : ∃ W2, (wr.drewN q).setCell ⟨R, 1, none⟩ (.int .i64 ((i : Int) + 1)) = W2 := ⟨_, rfl⟩
        have HP2 : Hid (Kp R wr W2) := by subst hW2; exact ((Kp.refl R wr).drew _).set 1 _
        have HR2 : Hid (W2.heap[R]? = some (Js.obj s (i + 1) o b)) := by subst hW2; exact Js.set_at (Js.drew_heap HR.out _) _ _ (by go_num)
        have HI2 := Lib.hid (HP2.out.builder HI.out HRW)
        have hsz2 := HP2.out.size
        go_wp2_with (go_at_call 33; refine (Tryd.Builder_String_any_k w.heap.size w.heap.size acc _ HI2.out (by omega)).mono ?_)
        rintro e w3 ⟨rfl, -, hb3, -⟩
        go_wp2
        go_ret
        exact Js.Res.ok _ HE.out ⟨rfl, (hb3.block R HRW).trans HR2.out, (HP.out.trans HP2.out).then hb3 (Nat.le_refl _)⟩
      · have b2 : ((c : Int) == 34) = false := Js.beq_f (by omega)
        by_cases h92 : c = 92
        · have HX3 : Hid ((match Js.esc s i with | .error e => .error e | .ok (x, j) => Js.txF s f' j (acc ++ Js.enc x) : Js.R (List UInt8 × Nat)) = X) := by have h9 : _ = X := HX2.out; rw [if_neg h32, if_neg h34, if_pos h92] at h9; exact h9
          subst h92
          clear HX2
          obtain ⟨E, hE⟩ : ∃ E, Js.esc s i = E := ⟨_, rfl⟩
          have hEok := Js.esc_ok s i
          rw [hE] at HX3 HE9 hEok
          clear hE
          cases E with
          | error p =>
            have HE : Hid (X = .error p) := HX3.out.symm
            clear hEok HX3
            go_wp2_with (go_at_call 81; refine (HN.out _ HR.out).mono ?_)
            rintro e w1 ⟨rfl, q, rfl⟩
            go_wp2_with (go_at_call 107; refine (HE9.out _ (Js.drew_heap HR.out _) hlt2).mono ?_)
            rintro e w2 ⟨rfl, k2⟩
            go_wp2
            exact bodyPost_stop rfl (Js.Res.bad _ HE.out ⟨rfl, (HP.out.drew _).trans k2⟩)
          | ok xj =>
            obtain ⟨x, j⟩ := xj
            obtain ⟨hpt, hj1, hj2⟩ := hEok x j rfl
            have HX4 : Hid (Js.txF s f' j (acc ++ Js.enc x) = X) := HX3.out
            have hel := Js.enc_len x
            have HQ := Lib.hid (Js.enc_is x hpt)
            have hx2 : (0 : Int) ≤ x ∧ (x : Int) ≤ 2147483647 := ⟨by omega, by have := hpt.1; omega⟩
            clear HX3 hEok hpt
            go_wp2_with (go_at_call 81; refine (HN.out _ HR.out).mono ?_)
            rintro e w1 ⟨rfl, q, rfl⟩
            go_wp2_with (go_at_call 107; refine (HE9.out _ (Js.drew_heap HR.out _) hlt2).mono ?_)
            rintro e w2 ⟨rfl, h2, k2⟩
            have HK2 : Hid (Kp R wr w2) := ((Kp.refl R wr).drew _).trans k2
            have HI2 := Lib.hid (HK2.out.builder HI.out HRW)
            have hsz2 := HK2.out.size
            go_wp2_with (go_at_call 89; refine (writeRune_k w.heap.size w.heap.size _ (x : Int) hx2 _ HI2.out (by rw [Lib.byteCells_length]; omega) (by omega)).mono ?_)
            rintro e w3 ⟨rfl, hI3, hb3, -⟩
            go_wp2
            go_roundg g'
            case measure => omega
            case rel =>
              refine ⟨j, f', acc ++ Js.enc x, hj2, by omega, by omega, by rw [List.length_append]; omega, HX4.out, ?_, (hb3.block R HRW).trans h2, (HP.out.trans HK2.out).then hb3 (Nat.le_refl _)⟩
              rw [Lib.byteCells_append, ← show _ = _ from HQ.out, Lib.byteCells_encodeRune]
              exact .inr hI3
        · have HX3 : Hid (Js.txF s f' (i + 1) (acc ++ [UInt8.ofNat c]) = X) := by have h9 : _ = X := HX2.out; rw [if_neg h32, if_neg h34, if_neg h92] at h9; exact h9
          have b3 : ((c : Int) == 92) = false := Js.beq_f (by omega)
          clear HX2 HE9
          go_wp2_with (go_at_call 81; refine (HN.out _ HR.out).mono ?_)
          rintro e w1 ⟨rfl, q, rfl⟩
          go_wp2_with (go_at_call 35; refine (writeByte_k w.heap.size w.heap.size _ (c : Int) _ (isb_drewN HI.out q) (by rw [Lib.byteCells_length]; omega) (by simpa using hsz)).mono ?_)
          rintro e w2 ⟨rfl, hI2, hb2, -⟩
          have r2 : w2.heap[R]? = some (Js.obj s i o b) := (hb2.block R HRW).trans (Js.drew_heap HR.out q)
          have f2 : w2.frozen? ⟨R, 1, none⟩ = false := Lib.frozen_of_heap r2 1
          have c2 : w2.cell? ⟨R, 1, none⟩ = some (.int .i64 i) := by rw [Lib.cell_of_heap r2]; rfl
          have hP2 : Kp R w w2 := (HP.out.drew q).then hb2 (Nat.le_refl _)
          have HI2 := Lib.hid hI2
          have HR2 := Lib.hid r2
          have HP2 := Lib.hid hP2
          clear hI2 r2 hP2
          go_wp2
          go_roundg g'
          case measure => omega
          case rel =>
            refine ⟨i + 1, f', acc ++ [UInt8.ofNat c], hlt2, by omega, by omega, by rw [List.length_append]; simp; omega, HX3.out, ?_, Js.set_at HR2.out _ _ (by go_num), HP2.out.set 1 _⟩
            have h9 : Lib.IsBuilderF 47 5 w.heap.size w.heap.size (Lib.byteCells (acc ++ [UInt8.ofNat c])) w2 := by
              rw [Lib.byteCells_append]
              have e9 : Lib.byteCells [UInt8.ofNat c] = [.int .u8 c] := by simp [Lib.byteCells, UInt8.toNat_ofNat', Nat.mod_eq_of_lt hc256]
              rw [e9]
              exact .inr HI2.out
            exact ((Kp.refl R w2).set 1 _).builder h9 HRW
end Go.Proofs.YtmmijebekipdeaaDoor
