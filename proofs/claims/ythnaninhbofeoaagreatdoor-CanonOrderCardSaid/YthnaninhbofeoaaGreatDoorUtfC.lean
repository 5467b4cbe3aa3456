/- Contract of utf.Read. Contracts of utf.Check, Valid. -/
import Derived.Test.YthnaninhbofeoaaGreatDoorUtfA
namespace Go.Proofs.YthnaninhbofeoaaGreatDoor
open Go.RowKit

theorem Utf.get_drop (s : ByteArray) (k j : Nat) (h : k + j < s.size) : (s.data.toList.drop k)[j]? = some s[k + j] := by
  rw [List.getElem?_drop, List.getElem?_eq_getElem (by simpa using h)]; rfl
theorem Utf.get_end (s : ByteArray) (k j : Nat) (h : s.size ≤ k + j) : (s.data.toList.drop k)[j]? = none := by
  rw [List.getElem?_drop, List.getElem?_eq_none (by simpa using h)]
theorem Utf.drop_cons (s : ByteArray) (k : Nat) (h : k < s.size) : s.data.toList.drop k = s[k] :: s.data.toList.drop (k + 1) := by
  rw [List.drop_eq_getElem_cons (by simpa using h)]; rfl
theorem Utf.okAt_end (s : ByteArray) (k j : Nat) (h : s.size ≤ k + j) : Utf.okAt (s.data.toList.drop k) j = false := by
  unfold Utf.okAt; rw [Utf.get_end s k j h]
theorem Utf.okAt_mid (s : ByteArray) (k j : Nat) (h : k + j < s.size) (hk : k < s.size) : Utf.okAt (s.data.toList.drop k) j = (Utf.cont s[k + j] && (j != 1 || Utf.second s[k] s[k + j])) := by
  unfold Utf.okAt; rw [Utf.get_drop s k j h, Utf.drop_cons s k hk]; rfl
theorem Utf.cont_iff (c : UInt8) : Utf.cont c = true ↔ 128 ≤ (c.toNat : Int) ∧ (c.toNat : Int) < 192 := by
  unfold Utf.cont; simp only [lt_u8, le_u8, Bool.and_eq_true, decide_eq_true_eq]; rfl

theorem Utf.second_true (f c : UInt8) (h : Utf.second f c = true) : 128 ≤ (c.toNat : Int) ∧ (c.toNat : Int) < 192 := by
  rcases Utf.second_cases f c with ⟨_, h2⟩ | ⟨_, h2⟩ | ⟨h1, h2, _⟩
  · rw [h] at h2; cases h2
  · rw [h] at h2; cases h2
  · exact ⟨h1, h2⟩

/-- what Read gives where a string goes on -/
def ReadOut (l : List UInt8) (e : Ending) : Prop :=
  (∃ (x : Int) (n : Nat), 0 < n ∧ n ≤ 4 ∧ n ≤ l.length ∧ Utf.rdLen l = n ∧ e = .returned (.tuple #[.int .i64 x, .int .i64 n, .int .i64 0])) ∨
  (∃ er : Int, 10 ≤ er ∧ er ≤ 11 ∧ Utf.rdLen l = 0 ∧ e = .returned (.tuple #[.int .i64 0, .int .i64 0, .int .i64 er]))

set_option maxHeartbeats 800000 in
set_option maxRecDepth 100000 in
theorem read_any (s : ByteArray) (k : Nat) (w : World) (hk : k < s.size) (hs : s.size ≤ maxLen) :
    Calls Tryz.prog 125 #[.string s, .int .i64 k] w fun e w' => ReadOut (s.data.toList.drop k) e ∧ w = w' := by
  unfold maxLen at hs
  have b1 : ((k : Int) == (s.size : Int)) = false := by simp; omega
  have HC := Lib.hid (Utf.drop_cons s k hk)
  obtain ⟨n, hn⟩ : ∃ n, Utf.head s[k] = n := ⟨_, rfl⟩
  have hn4 : n ≤ 4 := by rw [← hn]; exact Utf.head_le _
  have HN := Lib.hid hn
  clear hn
  by_cases h0 : n = 0
  · subst h0
    go_enter Tryz.func125, Tryz.ntmps125
    go_wp2_with (go_at_call 148; refine (head_is s[k] 0 HN.out _).mono ?_)
    try rintro e w1 ⟨⟨x, rfl⟩, rfl⟩
    go_wp2
    go_ret3
    refine ⟨.inr ⟨11, by omega, by omega, ?_, rfl⟩, rfl⟩
    rw [HC.out, Utf.rdLen_none _ _ HN.out]
  · have bn : ((n : Int) == 0) = false := by simp; omega
    go_enter Tryz.func125, Tryz.ntmps125
    go_wp2_with (go_at_call 148; refine (head_is s[k] n HN.out _).mono ?_)
    try rintro e w1 ⟨⟨x, rfl⟩, rfl⟩
    go_wp2
    go_loop [9, 8] (fun i x => ∃ j : Nat, 1 ≤ j ∧ j ≤ n ∧ j ≤ s.size - k ∧ i = .int .i64 j ∧ (∃ c : Int, x = .int .i64 c) ∧ Hid (∀ m, 1 ≤ m → m < j → Utf.okAt (s.data.toList.drop k) m = true)) (fun i _ => n - (intOf i).toNat)
    case atStart => exact ⟨1, by omega, by omega, by omega, rfl, ⟨_, rfl⟩, fun m h1 h2 => absurd h1 (by omega)⟩
    case round =>
      obtain ⟨j, hj1, hjn, hjs, rfl, ⟨c, rfl⟩, HA⟩ := hrel
      have HAll : ∀ b, Utf.okAt (s.data.toList.drop k) j = b → Hid (Utf.okAt (s.data.toList.drop k) j = b) := fun b h => h
      by_cases hlt : j < n
      · have HBad : Utf.okAt (s.data.toList.drop k) j = false → Hid (Utf.rdLen (s.data.toList.drop k) = 0) := by
          intro h
          have := Utf.rdLen_bad s[k] (s.data.toList.drop (k + 1)) j hj1 (by rw [HN.out]; exact hlt) (by rw [← HC.out]; exact h)
          rw [HC.out]; exact this
        by_cases he : k + j < s.size
        · have be : ((k : Int) + (j : Int) == (s.size : Int)) = false := by simp; omega
          have hok := Utf.okAt_mid s k j he hk
          by_cases h1 : j = 1
          · subst h1
            obtain ⟨b, hb⟩ : ∃ b, Utf.second s[k] s[k + 1] = b := ⟨_, rfl⟩
            rw [hb] at hok
            have HB := Lib.hid hb
            clear hb
            cases b with
            | false =>
              have HR := HBad (by rw [hok]; simp)
              clear hok HBad HAll
              go_wp2_with (go_at_call 149; refine (second_is s[k] s[k + 1] false HB.out _).mono ?_)
              try rintro e w1 ⟨rfl, rfl⟩
              go_wp2
              go_ret3
              exact ⟨.inr ⟨11, by omega, by omega, HR.out, rfl⟩, rfl⟩
            | true =>
              have hcc := Utf.second_true _ _ HB.out
              have hc1 := hcc.1
              have hc2 := hcc.2
              have HA2 : Hid (∀ m, 1 ≤ m → m < 1 + 1 → Utf.okAt (s.data.toList.drop k) m = true) := by
                intro m m1 m2
                obtain rfl : m = 1 := by omega
                rw [hok, (Utf.cont_iff _).2 hcc]; rfl
              clear hok HBad HAll hcc
              go_wp2_with (go_at_call 149; refine (second_is s[k] s[k + 1] true HB.out _).mono ?_)
              try rintro e w1 ⟨rfl, rfl⟩
              go_wp2
              go_round
              case rel => exact ⟨1 + 1, by omega, by omega, by omega, by go_num, ⟨_, rfl⟩, HA2⟩
              case measure => simp [intOf]; omega
          · have bj : ((j : Int) == 1) = false := by simp; omega
            have bj2 : (j != 1) = true := by simp; omega
            rw [bj2, Bool.true_or, Bool.and_true] at hok
            by_cases hcc : 128 ≤ (s[k + j].toNat : Int) ∧ (s[k + j].toNat : Int) < 192
            · have hc1 := hcc.1
              have hc2 := hcc.2
              have HA2 : Hid (∀ m, 1 ≤ m → m < j + 1 → Utf.okAt (s.data.toList.drop k) m = true) := by
                intro m m1 m2
                by_cases h : m = j
                · subst h
                  rw [hok, (Utf.cont_iff _).2 hcc]
                · exact HA.out m m1 (by omega)
              clear hok HBad HAll hcc
              go_wp2
              go_round
              case rel => exact ⟨j + 1, by omega, by omega, by omega, by go_num, ⟨_, rfl⟩, HA2⟩
              case measure => simp [intOf]; omega
            · have HR := HBad (by rw [hok]; exact Bool.eq_false_iff.2 (fun h => hcc ((Utf.cont_iff _).1 h)))
              clear hok HBad HAll
              by_cases hc1 : (s[k + j].toNat : Int) < 128
              · go_wp2
                go_ret3
                exact ⟨.inr ⟨11, by omega, by omega, HR.out, rfl⟩, rfl⟩
              · have hc2 : 192 ≤ (s[k + j].toNat : Int) := by omega
                clear hcc
                go_wp2
                go_ret3
                exact ⟨.inr ⟨11, by omega, by omega, HR.out, rfl⟩, rfl⟩
        · have be : ((k : Int) + (j : Int) == (s.size : Int)) = true := by simp; omega
          have HR := HBad (Utf.okAt_end s k j (by omega))
          clear HBad HAll
          go_wp2
          go_ret3
          exact ⟨.inr ⟨10, by omega, by omega, HR.out, rfl⟩, rfl⟩
      · have hjn : j = n := by omega
        have HR : Hid (Utf.rdLen (s.data.toList.drop k) = n) := by
          rw [HC.out]
          exact (Utf.rdLen_good s[k] _ (fun m h1 h2 => by rw [HN.out] at h2; rw [← HC.out]; exact HA.out m h1 (by omega))).trans HN.out
        go_wp2
        go_ret3
        exact ⟨.inl ⟨c, n, by omega, by omega, by simp; omega, HR.out, rfl⟩, rfl⟩
end Go.Proofs.YthnaninhbofeoaaGreatDoor
namespace Go.Proofs.YthnaninhbofeoaaGreatDoor
open Go.RowKit

/-- what Check gives: just as the string is valid, no error -/
def CheckOut (v : Bool) (e : Ending) : Prop :=
  (v = true ∧ ∃ n : Int, e = .returned (.tuple #[.int .i64 n, .int .i64 0])) ∨ (v = false ∧ ∃ n er : Int, 10 ≤ er ∧ er ≤ 11 ∧ e = .returned (.tuple #[.int .i64 n, .int .i64 er]))

set_option maxHeartbeats 800000 in
set_option maxRecDepth 100000 in
theorem ucheck_any (s : ByteArray) (w : World) (hs : s.size ≤ maxLen) :
    Calls Tryz.prog 106 #[.string s] w fun e w' => CheckOut (Utf.valid s.data.toList) e ∧ w = w' := by
  have hs' := hs
  unfold maxLen at hs
  go_enter Tryz.func106, Tryz.ntmps106
  go_wp2_with fail
  go_step3
  go_wp2_with fail
  go_step3
  go_wp2_with fail
  go_loop [4, 5] (fun i b => ∃ k : Nat, k ≤ s.size ∧ i = .int .i64 k ∧ b = .int .i64 0 ∧ Hid (Utf.valid s.data.toList = Utf.valid (s.data.toList.drop k))) (fun i _ => s.size - (intOf i).toNat)
  case atStart => exact ⟨0, Nat.zero_le _, rfl, rfl, by rw [List.drop_zero]; rfl⟩
  case round =>
    obtain ⟨k, hk, rfl, rfl, HV⟩ := hrel
    by_cases hlt : k < s.size
    · have hne : s.data.toList.drop k ≠ [] := by simp; omega
      have HBad : Utf.rdLen (s.data.toList.drop k) = 0 → Utf.valid s.data.toList = false := fun h => HV.out.trans (Utf.valid_bad _ hne h)
      have HGood : ∀ n, Utf.rdLen (s.data.toList.drop k) = n → 0 < n → Utf.valid s.data.toList = Utf.valid (s.data.toList.drop (k + n)) := by
        intro n h1 h2
        rw [HV.out, Utf.valid_step _ hne (by omega), h1, List.drop_drop]
      have hl : (s.data.toList.drop k).length = s.size - k := by simp
      go_wp2_with (go_at_call 125; refine (read_any s k _ hlt hs').mono ?_)
      rintro e ho
      rcases ho with ⟨x, n, h1, h2, h3, h4, rfl⟩ | ⟨er, h1, h2, h3, rfl⟩
      · have HG := Lib.hid (HGood n h4 h1)
        rw [hl] at h3
        have h5 : k + n ≤ s.size := by omega
        clear HBad HGood h4 hl hne
        go_wp2
        go_round
        case rel => exact ⟨k + n, h5, by go_num, rfl, HG⟩
        case measure => simp [intOf]; omega
      · have HG := Lib.hid (HBad h3)
        have be : (er != 0) = true := by simp; omega
        clear HBad HGood h3 hl hne
        go_wp2
        rw [Exit.noGoto_ret]
        go_ret2
        exact ⟨.inr ⟨HG.out, _, er, h1, h2, rfl⟩, rfl⟩
    · have hks : k = s.size := by omega
      have HG : Hid (Utf.valid s.data.toList = true) := by
        show Utf.valid s.data.toList = true
        rw [HV.out, List.drop_eq_nil_iff.2 (by simp; omega)]; rfl
      go_wp2
      go_ret2
      exact ⟨.inl ⟨HG.out, _, rfl⟩, rfl⟩

set_option maxHeartbeats 400000 in
theorem valid_is (s : ByteArray) (b : Bool) (h : Utf.valid s.data.toList = b) (w : World) (hs : s.size ≤ maxLen) :
    Calls Tryz.prog 73 #[.string s] w fun e w' => e = .returned (.bool b) ∧ w = w' := by
  have HC := Lib.hid (fun w => ucheck_any s w hs)
  go_enter Tryz.func73, Tryz.ntmps73
  go_wp2_with (go_at_call 106; refine (HC.out _).mono ?_)
  first | rintro e w1 ⟨ho, rfl⟩ | rintro e w1 ho rfl | rintro e ho
  rcases ho with ⟨hv, n, rfl⟩ | ⟨hv, n, er, h1, h2, rfl⟩
  · rw [h] at hv
    subst hv
    clear h
    go_wp2
    go_ret
    exact ⟨rfl, rfl⟩
  · rw [h] at hv
    subst hv
    clear h
    have b1 : (er == 0) = false := by simp; omega
    go_wp2
    go_ret
    first | exact ⟨rfl, rfl⟩ | exact ⟨by rw [b1], rfl⟩ | exact ⟨by simp; omega, rfl⟩
end Go.Proofs.YthnaninhbofeoaaGreatDoor
