/- Plain functions: which bytes are UTF-8. No program in sight. Contracts of utf: head, second, Read, Check, Valid. Contract of utf.Read. Contracts of utf.Check, Valid. -/
import Derived.Test.YtpnpgjjbincigaaShelf
import Derived.WalkKit
import Derived.WalkSpells
import Derived.WalkLawsBesides
import Derived.Lib.Hide
import Derived.Laws.BytesArg
namespace Go.Proofs.Ytpnpgjjbincigaa.Utf

def head (c : UInt8) : Nat := if c < 128 then 1 else if 194 ≤ c ∧ c < 224 then 2 else if 224 ≤ c ∧ c < 240 then 3 else if 240 ≤ c ∧ c < 245 then 4 else 0
def cont (c : UInt8) : Bool := decide (128 ≤ c) && decide (c < 192)
def second (f c : UInt8) : Bool :=
  if c < 128 ∨ 192 ≤ c then false else if f = 224 then decide (160 ≤ c) else if f = 237 then decide (c < 160) else if f = 240 then decide (144 ≤ c) else if f = 244 then decide (c < 144) else true
/-- the j-th byte of a form can stand there -/
def okAt (l : List UInt8) (j : Nat) : Bool := match l[j]? with
  | none => false
  | some d => cont d && (j != 1 || second (l.getD 0 0) d)
/-- the length of the form that some bytes begin with; 0 if they begin with none -/
def rdLen (l : List UInt8) : Nat := match l with
  | [] => 0
  | c :: _ => if (List.range (head c)).all (fun j => j == 0 || okAt l j) then head c else 0
def validF : Nat → List UInt8 → Bool
  | 0, l => l.isEmpty
  | k + 1, l => match l with
    | [] => true
    | c :: r => rdLen (c :: r) != 0 && validF k ((c :: r).drop (rdLen (c :: r)))
def valid (l : List UInt8) : Bool := validF l.length l

theorem head_le (c : UInt8) : head c ≤ 4 := by unfold head; (repeat' split) <;> omega
theorem rdLen_le (l : List UInt8) : rdLen l ≤ 4 := by
  unfold rdLen; split
  · omega
  · rename_i c _; have := head_le c; split <;> omega
theorem validF_nil (k : Nat) : validF k [] = true := by cases k <;> rfl
theorem validF_more (k : Nat) : ∀ (m : Nat) (l : List UInt8), l.length ≤ k → l.length ≤ m → validF k l = validF m l := by
  induction k with
  | zero =>
    intro m l h _
    obtain rfl : l = [] := List.length_eq_zero_iff.1 (by omega)
    rw [validF_nil, validF_nil]
  | succ k ih =>
    intro m l h hm
    cases l with
    | nil => rw [validF_nil, validF_nil]
    | cons c r =>
      cases m with
      | zero => simp at hm
      | succ m =>
        simp only [validF]
        by_cases h0 : rdLen (c :: r) = 0
        · simp [h0]
        · have hd : ((c :: r).drop (rdLen (c :: r))).length ≤ r.length := by simp; omega
          simp only [List.length_cons] at h hm
          rw [ih m _ (by omega) (by omega)]
theorem valid_nil : valid [] = true := rfl
theorem valid_bad (l : List UInt8) (h : l ≠ []) (h0 : rdLen l = 0) : valid l = false := by
  cases l with
  | nil => exact absurd rfl h
  | cons c r => simp [valid, validF, h0]
theorem valid_step (l : List UInt8) (h : l ≠ []) (h0 : rdLen l ≠ 0) : valid l = valid (l.drop (rdLen l)) := by
  cases l with
  | nil => exact absurd rfl h
  | cons c r =>
    unfold valid
    simp only [List.length_cons, validF]
    have hb : (rdLen (c :: r) != 0) = true := by simpa using h0
    rw [hb, Bool.true_and]
    exact validF_more _ _ _ (by simp; omega) (Nat.le_refl _)
theorem rdLen_good (c : UInt8) (l : List UInt8) (h : ∀ j, 1 ≤ j → j < head c → okAt (c :: l) j = true) : rdLen (c :: l) = head c := by
  show (if (List.range (head c)).all (fun j => j == 0 || okAt (c :: l) j) then head c else 0) = head c
  rw [if_pos]
  rw [List.all_eq_true]
  intro j hj
  rw [List.mem_range] at hj
  by_cases h0 : j = 0
  · simp [h0]
  · simp [h j (by omega) hj]
theorem rdLen_bad (c : UInt8) (l : List UInt8) (j : Nat) (h1 : 1 ≤ j) (h2 : j < head c) (h : okAt (c :: l) j = false) : rdLen (c :: l) = 0 := by
  show (if (List.range (head c)).all (fun j => j == 0 || okAt (c :: l) j) then head c else 0) = 0
  rw [if_neg]
  intro hc
  rw [List.all_eq_true] at hc
  have := hc j (List.mem_range.2 h2)
  rw [h] at this
  simp at this
  omega
theorem rdLen_none (c : UInt8) (l : List UInt8) (h : head c = 0) : rdLen (c :: l) = 0 := by
  unfold rdLen; split <;> simp_all
end Go.Proofs.Ytpnpgjjbincigaa.Utf
namespace Go.Proofs.Ytpnpgjjbincigaa
open Go.RowKit

theorem lt_u8 (c k : UInt8) : c < k ↔ (c.toNat : Int) < (k.toNat : Int) := by rw [UInt8.lt_iff_toNat_lt]; omega
theorem le_u8 (c k : UInt8) : c ≤ k ↔ (c.toNat : Int) ≤ (k.toNat : Int) := by rw [UInt8.le_iff_toNat_le]; omega

theorem Utf.head_cases (c : UInt8) :
    ((c.toNat : Int) < 128 ∧ Utf.head c = 1) ∨ (128 ≤ (c.toNat : Int) ∧ (c.toNat : Int) < 194 ∧ Utf.head c = 0) ∨ (194 ≤ (c.toNat : Int) ∧ (c.toNat : Int) < 224 ∧ Utf.head c = 2) ∨
    (224 ≤ (c.toNat : Int) ∧ (c.toNat : Int) < 240 ∧ Utf.head c = 3) ∨ (240 ≤ (c.toNat : Int) ∧ (c.toNat : Int) < 245 ∧ Utf.head c = 4) ∨ (245 ≤ (c.toNat : Int) ∧ Utf.head c = 0) := by
  have hc : (c.toNat : Int) < 256 := by have := c.toNat_lt; omega
  unfold Utf.head
  simp only [lt_u8, le_u8]
  repeat' split
  all_goals simp_all
  all_goals omega

set_option maxHeartbeats 400000 in
theorem head_is (c : UInt8) (n : Nat) (h : Utf.head c = n) (w : World) :
    Calls Try.prog 117 #[.int .u8 c.toNat] w fun e w' => (∃ x : Int, e = .returned (.tuple #[.int .i64 n, .int .i64 x])) ∧ w = w' := by
  subst h
  have hc : (c.toNat : Int) < 256 := by have := c.toNat_lt; omega
  have h0 : 0 ≤ (c.toNat : Int) := by omega
  generalize hd : Utf.head c = n
  have HD := Utf.head_cases c
  rw [hd] at HD
  clear hd
  generalize (c.toNat : Int) = z at *
  rcases HD with ⟨h1, rfl⟩ | ⟨h1, h2, rfl⟩ | ⟨h1, h2, rfl⟩ | ⟨h1, h2, rfl⟩ | ⟨h1, h2, rfl⟩ | ⟨h1, rfl⟩
  all_goals
    go_enter Try.func117, Try.ntmps117
    go_wp2
    go_ret2
    exact ⟨⟨_, rfl⟩, rfl⟩

theorem Utf.second_cases (f c : UInt8) :
    ((c.toNat : Int) < 128 ∧ Utf.second f c = false) ∨ (192 ≤ (c.toNat : Int) ∧ Utf.second f c = false) ∨
    (128 ≤ (c.toNat : Int) ∧ (c.toNat : Int) < 192 ∧
      ((((f.toNat : Int) == 224) = true ∧ ((c.toNat : Int) < 160 ∧ Utf.second f c = false ∨ 160 ≤ (c.toNat : Int) ∧ Utf.second f c = true)) ∨
       (((f.toNat : Int) == 224) = false ∧ ((f.toNat : Int) == 237) = true ∧ ((c.toNat : Int) < 160 ∧ Utf.second f c = true ∨ 160 ≤ (c.toNat : Int) ∧ Utf.second f c = false)) ∨
       (((f.toNat : Int) == 224) = false ∧ ((f.toNat : Int) == 237) = false ∧ ((f.toNat : Int) == 240) = true ∧ ((c.toNat : Int) < 144 ∧ Utf.second f c = false ∨ 144 ≤ (c.toNat : Int) ∧ Utf.second f c = true)) ∨
       (((f.toNat : Int) == 224) = false ∧ ((f.toNat : Int) == 237) = false ∧ ((f.toNat : Int) == 240) = false ∧ ((f.toNat : Int) == 244) = true ∧ ((c.toNat : Int) < 144 ∧ Utf.second f c = true ∨ 144 ≤ (c.toNat : Int) ∧ Utf.second f c = false)) ∨
       (((f.toNat : Int) == 224) = false ∧ ((f.toNat : Int) == 237) = false ∧ ((f.toNat : Int) == 240) = false ∧ ((f.toNat : Int) == 244) = false ∧ Utf.second f c = true))) := by
  have e : ∀ k : UInt8, f = k ↔ (f.toNat : Int) = (k.toNat : Int) := by
    intro k; rw [← UInt8.toNat_inj]; omega
  have hc : (c.toNat : Int) < 256 := by have := c.toNat_lt; omega
  by_cases h1 : (c.toNat : Int) < 128
  · left; refine ⟨h1, ?_⟩
    unfold Utf.second; rw [if_pos (.inl ((lt_u8 _ _).2 h1))]
  by_cases h2 : 192 ≤ (c.toNat : Int)
  · right; left; refine ⟨h2, ?_⟩
    unfold Utf.second; rw [if_pos (.inr ((le_u8 _ _).2 h2))]
  right; right; refine ⟨by omega, by omega, ?_⟩
  have h3 : ¬ (c < 128 ∨ 192 ≤ c) := by
    rw [lt_u8, le_u8]; simp; omega
  unfold Utf.second
  rw [if_neg h3]
  simp only [e, lt_u8, le_u8]
  generalize (c.toNat : Int) = y at *
  generalize (f.toNat : Int) = z at *
  simp only [beq_iff_eq, beq_eq_false_iff_ne]
  repeat' split
  all_goals simp_all
  all_goals omega

set_option maxHeartbeats 400000 in
theorem second_is (f c : UInt8) (b : Bool) (h : Utf.second f c = b) (w : World) :
    Calls Try.prog 118 #[.int .u8 f.toNat, .int .u8 c.toNat] w fun e w' => e = .returned (.bool b) ∧ w = w' := by
  have HD := Utf.second_cases f c
  rw [h] at HD
  clear h
  generalize (c.toNat : Int) = y at *
  generalize (f.toNat : Int) = z at *
  rcases HD with ⟨h1, rfl⟩ | ⟨h1, rfl⟩ | ⟨h1, h2, ⟨h3, ⟨h4, rfl⟩ | ⟨h4, rfl⟩⟩ | ⟨h3, h4, ⟨h5, rfl⟩ | ⟨h5, rfl⟩⟩ | ⟨h3, h4, h5, ⟨h6, rfl⟩ | ⟨h6, rfl⟩⟩ | ⟨h3, h4, h5, h6, ⟨h7, rfl⟩ | ⟨h7, rfl⟩⟩ | ⟨h3, h4, h5, h6, rfl⟩⟩
  all_goals
    go_enter Try.func118, Try.ntmps118
    go_wp2
    go_ret
    first | exact ⟨rfl, rfl⟩ | exact ⟨by simp; omega, rfl⟩
end Go.Proofs.Ytpnpgjjbincigaa
namespace Go.Proofs.Ytpnpgjjbincigaa
open Go.RowKit

theorem Utf.get_drop (s : ByteArray) (k j : Nat) (h : k + j < s.size) : (s.data.toList.drop k)[j]? = some s[k + j] := by
  rw [List.getElem?_drop, List.getElem?_eq_getElem (by simpa using h)]; rfl
theorem Utf.get_end (s : ByteArray) (k j : Nat) (h : s.size ≤ k + j) : (s.data.toList.drop k)[j]? = none := by
  rw [List.getElem?_drop, List.getElem?_eq_none (by simpa using h)]
theorem Utf.drop_cons (s : ByteArray) (k : Nat) (h : k < s.size) : s.data.toList.drop k = s[k] :: s.data.toList.drop (k + 1) := by
  rw [List.drop_eq_getElem_cons (by simpa using h)]; rfl
theorem Utf.okAt_end (s : ByteArray) (k j : Nat) (h : s.size ≤ k + j) : Utf.okAt (s.data.toList.drop k) j = false := by
  unfold Utf.okAt; rw [Utf.get_end s k j h]
theorem Utf.okAt_mid (s : ByteArray) (k j : Nat) (h : k + j < s.size) (hk : k < s.size) : Utf.okAt (s.data.toList.drop k) j = (Utf.cont s[k + j] && (j != 1 || Utf.second s[k] s[k + j])) := by
  unfold Utf.okAt; rw [Utf.get_drop s k j h, Utf.drop_cons s k hk]; rfl
theorem Utf.cont_iff (c : UInt8) : Utf.cont c = true ↔ 128 ≤ (c.toNat : Int) ∧ (c.toNat : Int) < 192 := by
  unfold Utf.cont; simp only [lt_u8, le_u8, Bool.and_eq_true, decide_eq_true_eq]; rfl

theorem Utf.second_true (f c : UInt8) (h : Utf.second f c = true) : 128 ≤ (c.toNat : Int) ∧ (c.toNat : Int) < 192 := by
  rcases Utf.second_cases f c with ⟨_, h2⟩ | ⟨_, h2⟩ | ⟨h1, h2, _⟩
  · rw [h] at h2; cases h2
  · rw [h] at h2; cases h2
  · exact ⟨h1, h2⟩

/-- what Read gives where a string goes on -/
def ReadOut (l : List UInt8) (e : Ending) : Prop :=
  (∃ (x : Int) (n : Nat), 0 < n ∧ n ≤ 4 ∧ n ≤ l.length ∧ Utf.rdLen l = n ∧ e = .returned (.tuple #[.int .i64 x, .int .i64 n, .int .i64 0])) ∨
  (∃ er : Int, 10 ≤ er ∧ er ≤ 11 ∧ Utf.rdLen l = 0 ∧ e = .returned (.tuple #[.int .i64 0, .int .i64 0, .int .i64 er]))

set_option maxHeartbeats 800000 in
set_option maxRecDepth 100000 in
theorem read_any (s : ByteArray) (k : Nat) (w : World) (hk : k < s.size) (hs : s.size ≤ maxLen) :
    Calls Try.prog 109 #[.string s, .int .i64 k] w fun e w' => ReadOut (s.data.toList.drop k) e ∧ w = w' := by
  unfold maxLen at hs
  have b1 : ((k : Int) == (s.size : Int)) = false := by simp; omega
  have HC := Lib.hid (Utf.drop_cons s k hk)
  obtain ⟨n, hn⟩ : ∃ n, Utf.head s[k] = n := ⟨_, rfl⟩
  have hn4 : n ≤ 4 := by rw [← hn]; exact Utf.head_le _
  have HN := Lib.hid hn
  clear hn
  by_cases h0 : n = 0
  · subst h0
    go_enter Try.func109, Try.ntmps109
    go_wp2_with (go_at_call 117; refine (head_is s[k] 0 HN.out _).mono ?_)
    try rintro e w1 ⟨⟨x, rfl⟩, rfl⟩
    go_wp2
    go_ret3
    refine ⟨.inr ⟨11, by omega, by omega, ?_, rfl⟩, rfl⟩
    rw [HC.out, Utf.rdLen_none _ _ HN.out]
  · have bn : ((n : Int) == 0) = false := by simp; omega
    go_enter Try.func109, Try.ntmps109
    go_wp2_with (go_at_call 117; refine (head_is s[k] n HN.out _).mono ?_)
    try rintro e w1 ⟨⟨x, rfl⟩, rfl⟩
    go_wp2
    go_loop [9, 8] (fun i x => ∃ j : Nat, 1 ≤ j ∧ j ≤ n ∧ j ≤ s.size - k ∧ i = .int .i64 j ∧ (∃ c : Int, x = .int .i64 c) ∧ Hid (∀ m, 1 ≤ m → m < j → Utf.okAt (s.data.toList.drop k) m = true)) (fun i _ => n - (intOf i).toNat)
    case atStart => exact ⟨1, by omega, by omega, by omega, rfl, ⟨_, rfl⟩, fun m h1 h2 => absurd h1 (by omega)⟩
    case round =>
      obtain ⟨j, hj1, hjn, hjs, rfl, ⟨c, rfl⟩, HA⟩ := hrel
      have HAll : ∀ b, Utf.okAt (s.data.toList.drop k) j = b → Hid (Utf.okAt (s.data.toList.drop k) j = b) := fun b h => h
      by_cases hlt : j < n
      · have HBad : Utf.okAt (s.data.toList.drop k) j = false → Hid (Utf.rdLen (s.data.toList.drop k) = 0) := by
          intro h
          have := Utf.rdLen_bad s[k] (s.data.toList.drop (k + 1)) j hj1 (by rw [HN.out]; exact hlt) (by rw [← HC.out]; exact h)
          rw [HC.out]; exact this
        by_cases he : k + j < s.size
        · have be : ((k : Int) + (j : Int) == (s.size : Int)) = false := by simp; omega
          have hok := Utf.okAt_mid s k j he hk
          by_cases h1 : j = 1
          · subst h1
            obtain ⟨b, hb⟩ : ∃ b, Utf.second s[k] s[k + 1] = b := ⟨_, rfl⟩
            rw [hb] at hok
            have HB := Lib.hid hb
            clear hb
            cases b with
            | false =>
              have HR := HBad (by rw [hok]; simp)
              clear hok HBad HAll
              go_wp2_with (go_at_call 118; refine (second_is s[k] s[k + 1] false HB.out _).mono ?_)
              try rintro e w1 ⟨rfl, rfl⟩
              go_wp2
              go_ret3
              exact ⟨.inr ⟨11, by omega, by omega, HR.out, rfl⟩, rfl⟩
            | true =>
              have hcc := Utf.second_true _ _ HB.out
              have hc1 := hcc.1
              have hc2 := hcc.2
              have HA2 : Hid (∀ m, 1 ≤ m → m < 1 + 1 → Utf.okAt (s.data.toList.drop k) m = true) := by
                intro m m1 m2
                obtain rfl : m = 1 := by omega
                rw [hok, (Utf.cont_iff _).2 hcc]; rfl
              clear hok HBad HAll hcc
              go_wp2_with (go_at_call 118; refine (second_is s[k] s[k + 1] true HB.out _).mono ?_)
              try rintro e w1 ⟨rfl, rfl⟩
              go_wp2
              go_round
              case rel => exact ⟨1 + 1, by omega, by omega, by omega, by go_num, ⟨_, rfl⟩, HA2⟩
              case measure => simp [intOf]; omega
          · have bj : ((j : Int) == 1) = false := by simp; omega
            have bj2 : (j != 1) = true := by simp; omega
            rw [bj2, Bool.true_or, Bool.and_true] at hok
            by_cases hcc : 128 ≤ (s[k + j].toNat : Int) ∧ (s[k + j].toNat : Int) < 192
            · have hc1 := hcc.1
              have hc2 := hcc.2
              have HA2 : Hid (∀ m, 1 ≤ m → m < j + 1 → Utf.okAt (s.data.toList.drop k) m = true) := by
                intro m m1 m2
                by_cases h : m = j
                · subst h
                  rw [hok, (Utf.cont_iff _).2 hcc]
                · exact HA.out m m1 (by omega)
              clear hok HBad HAll hcc
              go_wp2
              go_round
              case rel => exact ⟨j + 1, by omega, by omega, by omega, by go_num, ⟨_, rfl⟩, HA2⟩
              case measure => simp [intOf]; omega
            · have HR := HBad (by rw [hok]; exact Bool.eq_false_iff.2 (fun h => hcc ((Utf.cont_iff _).1 h)))
              clear hok HBad HAll
              by_cases hc1 : (s[k + j].toNat : Int) < 128
              · go_wp2
                go_ret3
                exact ⟨.inr ⟨11, by omega, by omega, HR.out, rfl⟩, rfl⟩
              · have hc2 : 192 ≤ (s[k + j].toNat : Int) := by omega
                clear hcc
                go_wp2
                go_ret3
                exact ⟨.inr ⟨11, by omega, by omega, HR.out, rfl⟩, rfl⟩
        · have be : ((k : Int) + (j : Int) == (s.size : Int)) = true := by simp; omega
          have HR := HBad (Utf.okAt_end s k j (by omega))
          clear HBad HAll
          go_wp2
          go_ret3
          exact ⟨.inr ⟨10, by omega, by omega, HR.out, rfl⟩, rfl⟩
      · have hjn : j = n := by omega
        have HR : Hid (Utf.rdLen (s.data.toList.drop k) = n) := by
          rw [HC.out]
          exact (Utf.rdLen_good s[k] _ (fun m h1 h2 => by rw [HN.out] at h2; rw [← HC.out]; exact HA.out m h1 (by omega))).trans HN.out
        go_wp2
        go_ret3
        exact ⟨.inl ⟨c, n, by omega, by omega, by simp; omega, HR.out, rfl⟩, rfl⟩
end Go.Proofs.Ytpnpgjjbincigaa
namespace Go.Proofs.Ytpnpgjjbincigaa
open Go.RowKit

/-- what Check gives: just as the string is valid, no error -/
def CheckOut (v : Bool) (e : Ending) : Prop :=
  (v = true ∧ ∃ n : Int, e = .returned (.tuple #[.int .i64 n, .int .i64 0])) ∨ (v = false ∧ ∃ n er : Int, 10 ≤ er ∧ er ≤ 11 ∧ e = .returned (.tuple #[.int .i64 n, .int .i64 er]))

set_option maxHeartbeats 800000 in
set_option maxRecDepth 100000 in
theorem ucheck_any (s : ByteArray) (w : World) (hs : s.size ≤ maxLen) :
    Calls Try.prog 101 #[.string s] w fun e w' => CheckOut (Utf.valid s.data.toList) e ∧ w = w' := by
  have hs' := hs
  unfold maxLen at hs
  go_enter Try.func101, Try.ntmps101
  go_wp2_with fail
  go_step3
  go_wp2_with fail
  go_step3
  go_wp2_with fail
  go_loop [4, 5] (fun i b => ∃ k : Nat, k ≤ s.size ∧ i = .int .i64 k ∧ b = .int .i64 0 ∧ Hid (Utf.valid s.data.toList = Utf.valid (s.data.toList.drop k))) (fun i _ => s.size - (intOf i).toNat)
  case atStart => exact ⟨0, Nat.zero_le _, rfl, rfl, by rw [List.drop_zero]; rfl⟩
  case round =>
    obtain ⟨k, hk, rfl, rfl, HV⟩ := hrel
    by_cases hlt : k < s.size
    · have hne : s.data.toList.drop k ≠ [] := by simp; omega
      have HBad : Utf.rdLen (s.data.toList.drop k) = 0 → Utf.valid s.data.toList = false := fun h => HV.out.trans (Utf.valid_bad _ hne h)
      have HGood : ∀ n, Utf.rdLen (s.data.toList.drop k) = n → 0 < n → Utf.valid s.data.toList = Utf.valid (s.data.toList.drop (k + n)) := by
        intro n h1 h2
        rw [HV.out, Utf.valid_step _ hne (by omega), h1, List.drop_drop]
      have hl : (s.data.toList.drop k).length = s.size - k := by simp
      go_wp2_with (go_at_call 109; refine (read_any s k _ hlt hs').mono ?_)
      rintro e ho
      rcases ho with ⟨x, n, h1, h2, h3, h4, rfl⟩ | ⟨er, h1, h2, h3, rfl⟩
      · have HG := Lib.hid (HGood n h4 h1)
        rw [hl] at h3
        have h5 : k + n ≤ s.size := by omega
        clear HBad HGood h4 hl hne
        go_wp2
        go_round
        case rel => exact ⟨k + n, h5, by go_num, rfl, HG⟩
        case measure => simp [intOf]; omega
      · have HG := Lib.hid (HBad h3)
        have be : (er != 0) = true := by simp; omega
        clear HBad HGood h3 hl hne
        go_wp2
        rw [Exit.noGoto_ret]
        go_ret2
        exact ⟨.inr ⟨HG.out, _, er, h1, h2, rfl⟩, rfl⟩
    · have hks : k = s.size := by omega
      have HG : Hid (Utf.valid s.data.toList = true) := by
        show Utf.valid s.data.toList = true
        rw [HV.out, List.drop_eq_nil_iff.2 (by simp; omega)]; rfl
      go_wp2
      go_ret2
      exact ⟨.inl ⟨HG.out, _, rfl⟩, rfl⟩

set_option maxHeartbeats 400000 in
theorem valid_is (s : ByteArray) (b : Bool) (h : Utf.valid s.data.toList = b) (w : World) (hs : s.size ≤ maxLen) :
    Calls Try.prog 94 #[.string s] w fun e w' => e = .returned (.bool b) ∧ w = w' := by
  have HC := Lib.hid (fun w => ucheck_any s w hs)
  go_enter Try.func94, Try.ntmps94
  go_wp2_with (go_at_call 101; refine (HC.out _).mono ?_)
  first | rintro e w1 ⟨ho, rfl⟩ | rintro e w1 ho rfl | rintro e ho
  rcases ho with ⟨hv, n, rfl⟩ | ⟨hv, n, er, h1, h2, rfl⟩
  · rw [h] at hv
    subst hv
    clear h
    go_wp2
    go_ret
    exact ⟨rfl, rfl⟩
  · rw [h] at hv
    subst hv
    clear h
    have b1 : (er == 0) = false := by simp; omega
    go_wp2
    go_ret
    first | exact ⟨rfl, rfl⟩ | exact ⟨by rw [b1], rfl⟩ | exact ⟨by simp; omega, rfl⟩
end Go.Proofs.Ytpnpgjjbincigaa
