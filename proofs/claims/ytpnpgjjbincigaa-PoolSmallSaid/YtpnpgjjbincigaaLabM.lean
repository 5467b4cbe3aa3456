/- Plain functions: names, values, labels. No program in sight. Contracts of label: named, Name, Metric, Value, one. Contracts of label: Name, Metric, Value, one. Labels in memory. -/
import Derived.Test.YtpnpgjjbincigaaUtfC
namespace Go.Proofs.Ytpnpgjjbincigaa.Lab

def letter (c : UInt8) : Bool := decide (97 ≤ c) && decide (c ≤ 122) || decide (65 ≤ c) && decide (c ≤ 90)
def digit (c : UInt8) : Bool := decide (48 ≤ c) && decide (c ≤ 57)
/-- a byte that can stand in a name, where one more is allowed; first: at its begin -/
def okByte (o : UInt8) (first : Bool) (c : UInt8) : Bool := letter c || c == 95 || c == o || !first && digit c
def bytesOk (o : UInt8) : Bool → List UInt8 → Bool
  | _, [] => true
  | f, c :: r => okByte o f c && bytesOk o false r
def named (o : UInt8) (l : List UInt8) : Bool := !l.isEmpty && decide (l.length ≤ 128) && bytesOk o true l
def value (l : List UInt8) : Bool := decide (l.length ≤ 1024) && Utf.valid l

/-- a label: its name and its value -/
structure L where
  n : ByteArray
  v : ByteArray

def bs (s : ByteArray) : List UInt8 := s.data.toList
/-- what is wrong with a label by itself -/
def one (x : L) : Int := if named 95 (bs x.n) = true then (if value (bs x.v) = true then 0 else 41) else 40
/-- what is wrong with a label behind another one (none: it is the first) -/
def oneAt (p : Option L) (x : L) : Int :=
  if one x = 0 then (if bs x.v = [] then 42 else match p with | none => 0 | some y => if bs x.n ≤ bs y.n then 42 else 0) else one x
/-- the first label that is wrong, with what is wrong -/
def chk (k : Nat) (p : Option L) : List L → Int × Int
  | [] => (-1, 0)
  | x :: r => if oneAt p x = 0 then chk (k + 1) (some x) r else (k, oneAt p x)
def check (l : List L) : Int × Int := if 64 < l.length then (-1, 5) else chk 0 none l
def right (l : List L) : Bool := (check l).2 == 0

theorem named_short (o : UInt8) (l : List UInt8) (h : l.length < 1 ∨ 128 < l.length) : named o l = false := by
  unfold named
  rcases h with h | h
  · obtain rfl : l = [] := List.length_eq_zero_iff.1 (by omega)
    rfl
  · rw [decide_eq_false (by omega)]; simp
theorem named_mid (o : UInt8) (l : List UInt8) (h : 1 ≤ l.length) (h2 : l.length ≤ 128) : named o l = bytesOk o true l := by
  unfold named
  cases l with
  | nil => simp at h
  | cons c r => rw [decide_eq_true h2]; simp
theorem bytesOk_yes (o : UInt8) (f : Bool) (c : UInt8) (r : List UInt8) (h : okByte o f c = true) : bytesOk o f (c :: r) = bytesOk o false r := by simp [bytesOk, h]
theorem bytesOk_no (o : UInt8) (f : Bool) (c : UInt8) (r : List UInt8) (h : okByte o f c = false) : bytesOk o f (c :: r) = false := by simp [bytesOk, h]
end Go.Proofs.Ytpnpgjjbincigaa.Lab
namespace Go.Proofs.Ytpnpgjjbincigaa
open Go.RowKit

/-- the classes of a byte, as the walk asks -/
theorem Lab.kinds (o : UInt8) (f : Bool) (c : UInt8) :
    (((97 ≤ (c.toNat : Int) ∧ (c.toNat : Int) ≤ 122) ∨ ((c.toNat : Int) < 97 ∧ 65 ≤ (c.toNat : Int) ∧ (c.toNat : Int) ≤ 90) ∨ (90 < (c.toNat : Int) ∧ (c.toNat : Int) < 97 ∧ ((c.toNat : Int) == 95) = true)) ∧ Lab.okByte o f c = true) ∨
    ((((c.toNat : Int) < 48 ∧ ((c.toNat : Int) == 95) = false) ∨ (48 ≤ (c.toNat : Int) ∧ (c.toNat : Int) ≤ 57 ∧ ((c.toNat : Int) == 95) = false) ∨ (57 < (c.toNat : Int) ∧ (c.toNat : Int) < 65 ∧ ((c.toNat : Int) == 95) = false) ∨ (90 < (c.toNat : Int) ∧ (c.toNat : Int) < 97 ∧ ((c.toNat : Int) == 95) = false) ∨ (122 < (c.toNat : Int) ∧ ((c.toNat : Int) == 95) = false)) ∧
      ((((c.toNat : Int) == (o.toNat : Int)) = true ∧ Lab.okByte o f c = true) ∨ (((c.toNat : Int) == (o.toNat : Int)) = false ∧ Lab.okByte o f c = (!f && decide (48 ≤ (c.toNat : Int) ∧ (c.toNat : Int) ≤ 57))))) := by
  have e : ∀ k : UInt8, (c == k) = ((c.toNat : Int) == (k.toNat : Int)) := by
    intro k
    rw [Bool.eq_iff_iff]; simp only [beq_iff_eq]; rw [← UInt8.toNat_inj]; omega
  unfold Lab.okByte Lab.letter Lab.digit
  simp only [e, le_u8]
  have hc : (c.toNat : Int) < 256 := by have := c.toNat_lt; omega
  generalize (o.toNat : Int) = y at *
  generalize (c.toNat : Int) = z at *
  have n95 : ((95 : UInt8).toNat : Int) = 95 := rfl
  have n97 : ((97 : UInt8).toNat : Int) = 97 := rfl
  have n122 : ((122 : UInt8).toNat : Int) = 122 := rfl
  have n65 : ((65 : UInt8).toNat : Int) = 65 := rfl
  have n90 : ((90 : UInt8).toNat : Int) = 90 := rfl
  have n48 : ((48 : UInt8).toNat : Int) = 48 := rfl
  have n57 : ((57 : UInt8).toNat : Int) = 57 := rfl
  rw [n95, n97, n122, n65, n90, n48, n57]
  by_cases h1 : 97 ≤ z ∧ z ≤ 122
  · left; refine ⟨.inl h1, ?_⟩; simp [h1.1, h1.2]
  by_cases h2 : 65 ≤ z ∧ z ≤ 90
  · left; refine ⟨.inr (.inl ⟨by omega, h2.1, h2.2⟩), ?_⟩; simp [h2.1, h2.2]
  by_cases h3 : z = 95
  · left; refine ⟨.inr (.inr ⟨by omega, by omega, by simp [h3]⟩), ?_⟩; simp [h3]
  right
  have b3 : (z == 95) = false := by simpa using h3
  have b1 : (decide (97 ≤ z) && decide (z ≤ 122)) = false := by simp; omega
  have b2 : (decide (65 ≤ z) && decide (z ≤ 90)) = false := by simp; omega
  rw [b1, b2, b3]
  refine ⟨?_, ?_⟩
  · by_cases z < 48
    · exact .inl ⟨by omega, rfl⟩
    by_cases z ≤ 57
    · exact .inr (.inl ⟨by omega, by omega, rfl⟩)
    by_cases z < 65
    · exact .inr (.inr (.inl ⟨by omega, by omega, rfl⟩))
    by_cases z < 97
    · exact .inr (.inr (.inr (.inl ⟨by omega, by omega, rfl⟩)))
    · exact .inr (.inr (.inr (.inr ⟨by omega, rfl⟩)))
  · cases h : (z == y) with
    | true => exact .inl ⟨rfl, rfl⟩
    | false => right; refine ⟨rfl, ?_⟩; simp

set_option maxHeartbeats 1600000 in
set_option maxRecDepth 100000 in
theorem named_is (s : ByteArray) (o : UInt8) (b : Bool) (h : Lab.named o s.data.toList = b) (w : World) (hs : s.size ≤ maxLen) :
    Calls Try.prog 127 #[.string s, .int .u8 o.toNat] w fun e w' => e = .returned (.bool b) ∧ w = w' := by
  unfold maxLen at hs
  have hl : s.data.toList.length = s.size := by simp
  by_cases h1 : 1 ≤ s.size ∧ s.size ≤ 128
  · rw [Lab.named_mid o _ (by omega) (by omega)] at h
    have H0 := Lib.hid h
    have h2 := h1.1
    have h3 := h1.2
    clear h hl h1
    go_enter Try.func127, Try.ntmps127
    go_wp2
    go_loop [18] (fun i => ∃ k : Nat, k ≤ s.size ∧ i = .int .i64 k ∧ Hid (Lab.bytesOk o (k == 0) (s.data.toList.drop k) = b)) (fun i => s.size - (intOf i).toNat)
    case atStart => exact ⟨0, Nat.zero_le _, rfl, H0⟩
    case round =>
      obtain ⟨k, hk, rfl, HK⟩ := hrel
      by_cases hlt : k < s.size
      · have HD := Lib.hid (Utf.drop_cons s k hlt)
        have HY : Lab.okByte o (k == 0) s[k] = true → Hid (Lab.bytesOk o (k + 1 == 0) (s.data.toList.drop (k + 1)) = b) := by
          intro h
          have h2 := HK.out
          rw [HD.out, Lab.bytesOk_yes _ _ _ _ h] at h2
          exact h2
        have HN : Lab.okByte o (k == 0) s[k] = false → Hid (b = false) := by
          intro h
          have h2 := HK.out
          rw [HD.out, Lab.bytesOk_no _ _ _ _ h] at h2
          exact h2.symm
        clear HK HD H0
        have HK := Lab.kinds o (k == 0) s[k]
        have hc : (s[k].toNat : Int) < 256 := by have := s[k].toNat_lt; omega
        rcases HK with ⟨hh, hok⟩ | ⟨hh, ⟨ho, hok⟩ | ⟨ho, hok⟩⟩
        · have HY := HY hok
          clear HN hok
          rcases hh with ⟨g1, g2⟩ | ⟨g1, g2, g3⟩ | ⟨g1, g2, g3⟩
          all_goals
            go_wp2
            go_round
            case rel => exact ⟨k + 1, by omega, by go_num, HY⟩
            case measure => simp [intOf]; omega
        · have HY := HY hok
          clear HN hok
          rcases hh with ⟨g1, g2⟩ | ⟨g1, g2, g3⟩ | ⟨g1, g2, g3⟩ | ⟨g1, g2, g3⟩ | ⟨g1, g2⟩
          all_goals
            go_wp2
            go_round
            case rel => exact ⟨k + 1, by omega, by go_num, HY⟩
            case measure => simp [intOf]; omega
        · by_cases hk0 : k = 0
          · have b0 : ((k : Int) == 0) = true := by simp; omega
            have HN := HN (by rw [hok]; simp [hk0])
            clear HY hok hk0
            rcases hh with ⟨g1, g2⟩ | ⟨g1, g2, g3⟩ | ⟨g1, g2, g3⟩ | ⟨g1, g2, g3⟩ | ⟨g1, g2⟩
            all_goals
              go_wp2
              try (case roundEnd => exfalso; rename_i q; simp at q; omega)
              go_ret
              exact ⟨by rw [HN.out]; rfl, rfl⟩
          · have b0 : ((k : Int) == 0) = false := by simp; omega
            have b1 : (k == 0) = false := by simp; omega
            rw [b1] at hok
            rcases hh with ⟨g1, g2⟩ | ⟨g1, g2, g3⟩ | ⟨g1, g2, g3⟩ | ⟨g1, g2, g3⟩ | ⟨g1, g2⟩
            case inr.inl =>
              have HY := HY (by rw [b1, hok]; simp only [Bool.not_false, Bool.true_and, decide_eq_true_eq]; omega)
              clear HN hok b1 hk0
              go_wp2
              go_round
              case rel => exact ⟨k + 1, by omega, by go_num, HY⟩
              case measure => simp [intOf]; omega
            all_goals
              have HN := HN (by rw [b1, hok]; simp only [Bool.not_false, Bool.true_and, decide_eq_false_iff_not]; omega)
              clear HY hok b1 hk0
              go_wp2
              try (case roundEnd => exfalso; rename_i q; simp at q; omega)
              go_ret
              exact ⟨by rw [HN.out]; rfl, rfl⟩
      · have HB : Hid (b = true) := by
          have h2 := HK.out
          rw [List.drop_eq_nil_iff.2 (by simp; omega)] at h2
          exact h2.symm
        clear HK H0
        go_wp2
        go_ret
        exact ⟨by rw [HB.out]; rfl, rfl⟩
  · have hf := Lab.named_short o s.data.toList (by omega)
    rw [hf] at h
    subst h
    clear hf hl
    by_cases h2 : s.size < 1
    · go_enter Try.func127, Try.ntmps127
      go_wp2
      go_ret
      exact ⟨rfl, rfl⟩
    · have h3 : 128 < s.size := by omega
      clear h1
      go_enter Try.func127, Try.ntmps127
      go_wp2
      go_ret
      exact ⟨rfl, rfl⟩
end Go.Proofs.Ytpnpgjjbincigaa
namespace Go.Proofs.Ytpnpgjjbincigaa
open Go.RowKit

set_option maxHeartbeats 400000 in
theorem name_is (s : ByteArray) (b : Bool) (h : Lab.named 95 s.data.toList = b) (w : World) (hs : s.size ≤ maxLen) :
    Calls Try.prog 119 #[.string s] w fun e w' => e = .returned (.bool b) ∧ w = w' := by
  have HC := Lib.hid (show ∀ w, Calls Try.prog 127 #[.string s, .int .u8 95] w fun e w' => e = .returned (.bool b) ∧ w = w' from fun w => named_is s 95 b h w hs)
  clear h
  go_enter Try.func119, Try.ntmps119
  go_wp2_with (go_at_call 127; refine (HC.out _).mono ?_)
  try rintro e w1 ⟨rfl, rfl⟩
  go_wp2
  go_ret
  exact ⟨rfl, rfl⟩


set_option maxHeartbeats 400000 in
theorem value_is (s : ByteArray) (b : Bool) (h : Lab.value s.data.toList = b) (w : World) (hs : s.size ≤ maxLen) :
    Calls Try.prog 120 #[.string s] w fun e w' => e = .returned (.bool b) ∧ w = w' := by
  have hs' := hs
  unfold maxLen at hs
  have hl : s.data.toList.length = s.size := by simp
  by_cases h1 : s.size ≤ 1024
  · have hv : Utf.valid s.data.toList = b := by rw [← h]; unfold Lab.value; rw [decide_eq_true (by omega)]; rfl
    have HC := Lib.hid (fun w => valid_is s b hv w hs')
    clear h hl hv
    go_enter Try.func120, Try.ntmps120
    go_wp2_with (go_at_call 94; refine (HC.out _).mono ?_)
    try rintro e w1 ⟨rfl, rfl⟩
    go_wp2
    go_ret
    exact ⟨rfl, rfl⟩
  · have hv : b = false := by rw [← h]; unfold Lab.value; rw [decide_eq_false (by omega)]; rfl
    subst hv
    clear h hl
    go_enter Try.func120, Try.ntmps120
    go_wp2
    go_ret
    exact ⟨rfl, rfl⟩

set_option maxHeartbeats 400000 in
theorem one_is (x : Lab.L) (c : Int) (h : Lab.one x = c) (w : World) (hn : x.n.size ≤ maxLen) (hv : x.v.size ≤ maxLen) :
    Calls Try.prog 110 #[.agg #[.string x.n, .string x.v]] w fun e w' => e = .returned (.int .i64 c) ∧ Below w.heap.size w w' := by
  obtain ⟨n, v⟩ := x
  simp only at hn hv
  obtain ⟨b1, h1⟩ : ∃ b, Lab.named 95 n.data.toList = b := ⟨_, rfl⟩
  obtain ⟨b2, h2⟩ : ∃ b, Lab.value v.data.toList = b := ⟨_, rfl⟩
  have H1 := Lib.hid (fun w => name_is n b1 h1 w hn)
  have H2 := Lib.hid (fun w => value_is v b2 h2 w hv)
  have hc : (if b1 = true then (if b2 = true then (0 : Int) else 41) else 40) = c := by rw [← h, ← h1, ← h2]; rfl
  clear h h1 h2
  cases b1 with
  | false =>
    simp at hc
    subst hc
    go_enter Try.func110, Try.ntmps110
    go_wp2_with (go_at_call 119; refine (H1.out _).mono ?_)
    try rintro e w1 ⟨rfl, rfl⟩
    go_wp2
    go_ret
    exact ⟨rfl, (Below.refl _ _).alloc (Nat.le_refl _) _⟩
  | true =>
    cases b2 with
    | false =>
      simp at hc
      subst hc
      go_enter Try.func110, Try.ntmps110
      go_wp2_with (go_at_call 119; refine (H1.out _).mono ?_)
      try rintro e w1 ⟨rfl, rfl⟩
      go_wp2_with (go_at_call 120; refine (H2.out _).mono ?_)
      try rintro e w1 ⟨rfl, rfl⟩
      go_wp2
      go_ret
      exact ⟨rfl, (Below.refl _ _).alloc (Nat.le_refl _) _⟩
    | true =>
      simp at hc
      subst hc
      go_enter Try.func110, Try.ntmps110
      go_wp2_with (go_at_call 119; refine (H1.out _).mono ?_)
      try rintro e w1 ⟨rfl, rfl⟩
      go_wp2_with (go_at_call 120; refine (H2.out _).mono ?_)
      try rintro e w1 ⟨rfl, rfl⟩
      go_wp2
      go_ret
      exact ⟨rfl, (Below.refl _ _).alloc (Nat.le_refl _) _⟩
end Go.Proofs.Ytpnpgjjbincigaa
namespace Go.Proofs.Ytpnpgjjbincigaa
open Go.RowKit

theorem cell_later {B : Nat} {w w' : World} (h : Below B w w') {a : Addr} {v : Value} (hc : w.cell? a = some v) (hB : w.heap.size ≤ B) : w'.cell? a = some v := by
  rw [h.cell (Nat.lt_of_lt_of_le (World.block_lt_of_cell? w a hc) hB)]
  exact hc

/-- behind p lie labels, two cells each -/
def Lab.At (p : Option Addr) (ls : List Lab.L) (w : World) : Prop :=
  ls = [] ∨ ∃ b o, p = some ⟨b, o, none⟩ ∧ ∀ i (h : i < ls.length), w.cell? ⟨b, o + i * 2, none⟩ = some (.string ls[i].n) ∧ w.cell? ⟨b, o + i * 2 + 1, none⟩ = some (.string ls[i].v)
def Lab.Fit (m : Nat) (ls : List Lab.L) : Prop := ∀ x ∈ ls, x.n.size ≤ m ∧ x.v.size ≤ m

theorem Lab.At.below {p : Option Addr} {ls : List Lab.L} {w w' : World} {C : Nat} (h : Lab.At p ls w) (hb : Below C w w') (hC : w.heap.size ≤ C) : Lab.At p ls w' := by
  rcases h with h | ⟨b, o, hp, hc⟩
  · exact .inl h
  · exact .inr ⟨b, o, hp, fun i hi => ⟨cell_later hb (hc i hi).1 hC, cell_later hb (hc i hi).2 hC⟩⟩
theorem Lab.At.alloc {p : Option Addr} {ls : List Lab.L} {w : World} (h : Lab.At p ls w) (x : Obj) : Lab.At p ls (w.alloc x) :=
  h.below (C := w.heap.size) ((Below.refl _ _).alloc (Nat.le_refl _) _) (Nat.le_refl _)
theorem Lab.At.open {p : Option Addr} {ls : List Lab.L} {w : World} (h : Lab.At p ls w) (k : Nat) (hk : k < ls.length) :
    ∃ b o, p = some ⟨b, o, none⟩ ∧ ∀ i (h : i < ls.length), w.cell? ⟨b, o + i * 2, none⟩ = some (.string ls[i].n) ∧ w.cell? ⟨b, o + i * 2 + 1, none⟩ = some (.string ls[i].v) := by
  rcases h with rfl | h
  · simp at hk
  · exact h

/-- the label before the k-th one -/
def Lab.prev (ls : List Lab.L) : Nat → Option Lab.L
  | 0 => none
  | k + 1 => ls[k]?
theorem Lab.chk_end (ls : List Lab.L) (k : Nat) (q : Option Lab.L) (h : ls.length ≤ k) : Lab.chk k q (ls.drop k) = (-1, 0) := by
  rw [List.drop_eq_nil_iff.2 h]; rfl
theorem Lab.chk_ok (ls : List Lab.L) (k : Nat) (h : k < ls.length) (h0 : Lab.oneAt (Lab.prev ls k) ls[k] = 0) :
    Lab.chk k (Lab.prev ls k) (ls.drop k) = Lab.chk (k + 1) (Lab.prev ls (k + 1)) (ls.drop (k + 1)) := by
  have e : Lab.prev ls (k + 1) = some ls[k] := List.getElem?_eq_getElem h
  rw [List.drop_eq_getElem_cons h, e]
  exact if_pos h0
theorem Lab.chk_bad (ls : List Lab.L) (k : Nat) (h : k < ls.length) (c : Int) (hc : Lab.oneAt (Lab.prev ls k) ls[k] = c) (h0 : c ≠ 0) : Lab.chk k (Lab.prev ls k) (ls.drop k) = ((k : Int), c) := by
  subst hc
  rw [List.drop_eq_getElem_cons h]
  exact if_neg h0
theorem Lab.oneAt_bad (q : Option Lab.L) (x : Lab.L) (c : Int) (h : Lab.one x = c) (hc : c ≠ 0) : Lab.oneAt q x = c := by
  subst h
  unfold Lab.oneAt
  rw [if_neg hc]
theorem Lab.oneAt_empty (q : Option Lab.L) (x : Lab.L) (h : Lab.one x = 0) (hv : Lab.bs x.v = []) : Lab.oneAt q x = 42 := by
  unfold Lab.oneAt
  rw [if_pos h, if_pos hv]
theorem Lab.oneAt_first (x : Lab.L) (h : Lab.one x = 0) (hv : Lab.bs x.v ≠ []) : Lab.oneAt none x = 0 := by
  unfold Lab.oneAt
  rw [if_pos h, if_neg hv]
theorem Lab.oneAt_le (y x : Lab.L) (h : Lab.one x = 0) (hv : Lab.bs x.v ≠ []) (hn : Lab.bs x.n ≤ Lab.bs y.n) : Lab.oneAt (some y) x = 42 := by
  unfold Lab.oneAt
  rw [if_pos h, if_neg hv]
  exact if_pos hn
theorem Lab.oneAt_gt (y x : Lab.L) (h : Lab.one x = 0) (hv : Lab.bs x.v ≠ []) (hn : ¬ Lab.bs x.n ≤ Lab.bs y.n) : Lab.oneAt (some y) x = 0 := by
  unfold Lab.oneAt
  rw [if_pos h, if_neg hv]
  exact if_neg hn
theorem Lab.one_ge (x : Lab.L) : Lab.one x = 0 ∨ (40 ≤ Lab.one x ∧ Lab.one x ≤ 41) := by
  unfold Lab.one
  repeat' split
  all_goals omega
end Go.Proofs.Ytpnpgjjbincigaa
