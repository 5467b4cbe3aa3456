/- Contracts: cmp.Or (two integers), label.Compare, label.Without. -/
import Derived.Test.YtbilaghljlobpaaGreatL4I
import Derived.Deep.RegionHeld3
namespace Go.Proofs.YtbilaghljlobpaaGreat
open Go.RowKit

set_option maxHeartbeats 1600000 in
theorem without1_is (bx : Nat) (pf s : ByteArray) (w : World) (hc : w.cell? ⟨bx, 0, none⟩ = some (.string pf)) :
    Calls Tryz.prog 78 #[.string s, .pointer (some ⟨bx, 0, none⟩)] w fun e w' => e = .returned (.bool (!Lib.hasPrefix s.data.toList pf.data.toList)) ∧ Below w.heap.size w w' := by
  have HI := Lib.hid (Tryz.strings_HasPrefix s pf w)
  go_enter Tryz.func78, Tryz.ntmps78
  go_wp2_with (go_at_call 27; refine HI.out.mono ?_; rintro e w' ⟨rfl, rfl⟩)
  go_ret
  exact ⟨rfl, Below.refl _ _⟩
set_option maxHeartbeats 1600000 in
theorem lwithout_is (p : Option Addr) (ls : List Lab.L) (pf : ByteArray) (n c : Nat) (r : List Lab.L) (er : Int) (h : Lab.filt (fun s => !Lib.hasPrefix s.data.toList pf.data.toList) ls = (r, er)) (w : World) (hn : ls.length = n) (hA : Lab.At p ls w) (hF : Lab.Fit maxLen ls) (hl : n ≤ 10000) :
    Calls Tryz.prog 38 #[.slice p n c, .string pf] w fun e w' => (∃ v, e = .returned (.tuple #[v, .int .i64 er]) ∧ OwnLabels w.heap.size v r w') ∧ Below w.heap.size w w' := by
  have hc0 : (w.alloc (.cells #[.string pf] 9)).cell? ⟨w.heap.size, 0, none⟩ = some (.string pf) := by rw [Lib.cell_of_heap (alloc_new w _)]; rfl
  have HF := Lib.hid (filterWithout_is (fun s => !Lib.hasPrefix s.data.toList pf.data.toList) w.heap.size p ls n c r er h (w.alloc (.cells #[.string pf] 9)) hn (hA.alloc _) hF hl
    (fun x _ w' hw => without1_is w.heap.size pf x.n w' (cell_later hw hc0 (Nat.le_refl _))))
  clear h hn hA hF hc0
  go_enter Tryz.func38, Tryz.ntmps38
  go_wp2_with (go_at_call 74; refine HF.out.mono ?_)
  first | rintro e w1 v rfl hv hb1 | rintro e w1 ⟨⟨v, rfl, hv⟩, hb1⟩
  go_wp2_with fail
  go_ret2
  exact ⟨⟨_, rfl, row_lift hv (by simp)⟩, ((Below.refl _ _).alloc (Nat.le_refl _) _).trans (hb1.mono (by simp))⟩

/-- the first integer that is not 0 -/
def Lab.or2 (a b : Int) : Int := if a = 0 then b else a
set_option maxHeartbeats 1600000 in
theorem cmpor_is (g c : Nat) (a b : Int) (w : World) (h0 : w.cell? ⟨g, 0, none⟩ = some (.int .i64 a)) (h1 : w.cell? ⟨g, 1, none⟩ = some (.int .i64 b)) :
    Calls Tryz.prog 83 #[.slice (some ⟨g, 0, none⟩) 2 c] w fun e w' => e = .returned (.int .i64 (Lab.or2 a b)) ∧ w = w' := by
  obtain ⟨R, hR⟩ : ∃ R, Lab.or2 a b = R := ⟨_, rfl⟩
  unfold Lab.or2 at hR
  have HR := Lib.hid hR
  have hR2 : Lab.or2 a b = R := hR
  rw [hR2]
  clear hR hR2
  go_enter Tryz.func83, Tryz.ntmps83
  go_wp2_with fail
  go_loop [8] (fun i => ∃ k : Nat, k ≤ 2 ∧ i = .int .i64 (k : Int) ∧ Hid (k = 0 ∨ (k = 1 ∧ a = 0) ∨ (k = 2 ∧ a = 0 ∧ b = 0))) (fun i => 2 - (intOf i).toNat)
  case atStart => exact ⟨0, by omega, rfl, .inl rfl⟩
  case round =>
    obtain ⟨k, hk, rfl, hx⟩ := hrel
    rcases hx.out with rfl | ⟨rfl, ha⟩ | ⟨rfl, ha, hb⟩
    · by_cases ha : a = 0
      · have q : (a != 0) = false := by simpa using ha
        have HA := Lib.hid ha
        clear ha hx
        go_wp2_with fail
        go_round
        case rel => exact ⟨1, by omega, rfl, .inr (.inl ⟨rfl, HA.out⟩)⟩
        case measure => simp [intOf]
      · have q : (a != 0) = true := by simpa using ha
        have hr := HR.out
        rw [if_neg ha] at hr
        subst hr
        clear ha hx HR
        go_wp2_with fail
        go_ret
        exact ⟨rfl, rfl⟩
    · have HA := Lib.hid ha
      have hr := HR.out
      rw [if_pos ha] at hr
      subst hr
      clear ha hx HR
      by_cases hb : b = 0
      · have q : (b != 0) = false := by simpa using hb
        have HB := Lib.hid hb
        clear hb
        go_wp2_with fail
        go_round
        case rel => exact ⟨2, by omega, rfl, .inr (.inr ⟨rfl, HA.out, HB.out⟩)⟩
        case measure => simp [intOf]
      · have q : (b != 0) = true := by simpa using hb
        clear hb
        go_wp2_with fail
        go_ret
        exact ⟨rfl, rfl⟩
    · have hr := HR.out
      rw [if_pos ha, hb] at hr
      subst hr
      clear ha hb hx HR
      go_wp2_with fail
      go_ret
      exact ⟨rfl, rfl⟩
/-- two labels compared: by their names, then by their values -/
def Lab.c1 (x y : Lab.L) : Int := Lab.or2 (Lab.cf x y) (Lib.compareBytes (Lab.bs x.v) (Lab.bs y.v))
theorem byName_below (x y : Lab.L) (r : Int) (h : Lab.cf x y = r) (W : World) : Calls Tryz.prog 55 #[.agg #[.string x.n, .string x.v], .agg #[.string y.n, .string y.v]] W fun e w' => e = .returned (.int .i64 r) ∧ Below W.heap.size W w' := by
  have HS := Lib.hid (fun w => Tryz.strings_Compare x.n y.n w)
  have HR : Hid (Lib.compareBytes x.n.data.toList y.n.data.toList = r) := h
  rw [HR.out] at HS
  clear h HR
  go_enter Tryz.func55, Tryz.ntmps55
  go_wp2_with (go_at_call 84; refine (HS.out _).mono ?_)
  first | rintro e w1 rfl rfl | rintro e w1 ⟨rfl, rfl⟩
  go_wp2_with fail
  go_ret
  exact ⟨rfl, ((Below.refl _ _).alloc (Nat.le_refl _) _).alloc (by simp) _⟩
set_option maxHeartbeats 3200000 in
set_option maxRecDepth 100000 in
theorem cmp1_is (x y : Lab.L) (r : Int) (h : Lab.c1 x y = r) (w : World) :
    Calls Tryz.prog 82 #[.agg #[.string x.n, .string x.v], .agg #[.string y.n, .string y.v]] w fun e w' => e = .returned (.int .i64 r) ∧ Below w.heap.size w w' := by
  obtain ⟨c0, hc0⟩ : ∃ c, Lab.cf x y = c := ⟨_, rfl⟩
  obtain ⟨c1, hc1⟩ : ∃ c, Lib.compareBytes (Lab.bs x.v) (Lab.bs y.v) = c := ⟨_, rfl⟩
  have HB := Lib.hid (fun W => byName_below x y c0 hc0 W)
  have HS := Lib.hid (fun w => Tryz.strings_Compare x.v y.v w)
  have HSE : Hid (Lib.compareBytes x.v.data.toList y.v.data.toList = c1) := hc1
  rw [HSE.out] at HS
  unfold Lab.c1 at h
  rw [hc0, hc1] at h
  have HO := Lib.hid (fun g c w h0 h1 => cmpor_is g c c0 c1 w h0 h1)
  rw [h] at HO
  clear h hc0 hc1 HSE
  go_enter Tryz.func82, Tryz.ntmps82
  go_wp2_with fail
  have kx := alloc_new w (.cells #[.string x.n, .string x.v] 31)
  obtain ⟨W1, hW1⟩ : ∃ W, W = (w.alloc (.cells #[.string x.n, .string x.v] 31)).alloc (.cells #[.string y.n, .string y.v] 31) := ⟨_, rfl⟩
  have hbW : Below w.heap.size w W1 := by rw [hW1]; exact ((Below.refl _ _).alloc (Nat.le_refl _) _).alloc (by simp) _
  have a1 : W1.cell? ⟨w.heap.size, 1, none⟩ = some (.string x.v) := by rw [hW1, Lib.cell_of_heap (alloc_kept kx)]; rfl
  have a0 : W1.cell? ⟨w.heap.size, 0, none⟩ = some (.string x.n) := by rw [hW1, Lib.cell_of_heap (alloc_kept kx)]; rfl
  have ky := alloc_new (w.alloc (.cells #[.string x.n, .string x.v] 31)) (.cells #[.string y.n, .string y.v] 31)
  rw [World.size_alloc] at ky
  have b0 : W1.cell? ⟨w.heap.size + 1, 0, none⟩ = some (.string y.n) := by rw [hW1, Lib.cell_of_heap ky]; rfl
  have b1 : W1.cell? ⟨w.heap.size + 1, 1, none⟩ = some (.string y.v) := by rw [hW1, Lib.cell_of_heap ky]; rfl
  rw [← hW1]
  clear kx ky hW1
  go_region_held3 (fun w' => w'.cell? ⟨w.heap.size, 0, none⟩ = some (.string x.n) ∧ w'.cell? ⟨w.heap.size, 1, none⟩ = some (.string x.v) ∧ w'.cell? ⟨w.heap.size + 1, 0, none⟩ = some (.string y.n) ∧ w'.cell? ⟨w.heap.size + 1, 1, none⟩ = some (.string y.v))
    (first
      | (go_split_ands
         refine ⟨?_, ?_, ?_, ?_⟩ <;> (refine cell_later hb3 ?_ (Nat.le_refl _); assumption))
      | go_keep)
    ((first
      | (go_at_call 55; refine (HB.out _).mono ?_; rintro e w3 ⟨rfl, hb3⟩)
      | (go_at_call 84; refine (HS.out _).mono ?_; rintro e w4 ⟨rfl, rfl⟩)
      | (go_at_call 83; refine (HO.out _ _ _ (by simp) (by simp)).mono ?_; rintro e w5 ⟨rfl, rfl⟩)))
  have hb4 : Below w.heap.size w w4 := by
    first
      | exact hbW.drew.trans (hb3.mono hbW.size)
      | exact hbW.trans (hb3.mono hbW.size)
  clear hb3 HB HS HO
  go_wp2_with fail
  go_ret
  exact ⟨rfl, hb4.alloc hb4.size _⟩
def Lab.cmpL : List Lab.L → List Lab.L → Int
  | [], [] => 0
  | [], _ :: _ => -1
  | _ :: _, [] => 1
  | x :: a, y :: b => if Lab.c1 x y = 0 then Lab.cmpL a b else Lab.c1 x y
theorem Lab.cmpL_drop (a b : List Lab.L) (k : Nat) (h : k < a.length) (h2 : k < b.length) : Lab.cmpL (a.drop k) (b.drop k) = if Lab.c1 a[k] b[k] = 0 then Lab.cmpL (a.drop (k + 1)) (b.drop (k + 1)) else Lab.c1 a[k] b[k] := by
  rw [List.drop_eq_getElem_cons h, List.drop_eq_getElem_cons h2]; rfl
theorem Lab.cmpL_long (a b : List Lab.L) (k : Nat) (h : k < a.length) (h2 : b.length ≤ k) : Lab.cmpL (a.drop k) (b.drop k) = 1 := by
  rw [List.drop_eq_getElem_cons h, List.drop_eq_nil_iff.2 h2]; rfl
theorem Lab.cmpL_short (a b : List Lab.L) (k : Nat) (h : a.length ≤ k) : Lab.cmpL (a.drop k) (b.drop k) = if k < b.length then -1 else 0 := by
  rw [List.drop_eq_nil_iff.2 h]
  by_cases h2 : k < b.length
  · rw [if_pos h2, List.drop_eq_getElem_cons h2]; rfl
  · rw [if_neg h2, List.drop_eq_nil_iff.2 (by omega)]; rfl
set_option maxHeartbeats 3200000 in
set_option maxRecDepth 100000 in
theorem cmpfunc_is (p q : Option Addr) (a b : List Lab.L) (n c n2 c2 : Nat) (r : Int) (h : Lab.cmpL a b = r) (w : World) (hn : a.length = n) (hn2 : b.length = n2) (hA : Lab.At p a w) (hB : Lab.At q b w) (hl : n ≤ 10000) :
    Calls Tryz.prog 81 #[.slice p n c, .slice q n2 c2, .func (.func 82) #[] #[]] w fun e w' => e = .returned (.int .i64 r) ∧ Below w.heap.size w w' := by
  have HN := Lib.hid hn
  have HN2 := Lib.hid hn2
  have HA := Lib.hid hA
  have HB := Lib.hid hB
  have H0 : Hid (Lab.cmpL (a.drop 0) (b.drop 0) = r) := h
  clear hn hn2 hA hB h
  go_enter Tryz.func81, Tryz.ntmps81
  go_wp2_with fail
  go_loopw [13] (fun i wr => ∃ k : Nat, k ≤ n ∧ k ≤ n2 ∧ i = .int .i64 (k : Int) ∧ Hid (Lab.cmpL (a.drop k) (b.drop k) = r) ∧ Below w.heap.size w wr) (fun i _ => n - (intOf i).toNat)
  case atStart => exact ⟨0, Nat.zero_le _, Nat.zero_le _, rfl, H0, Below.refl _ _⟩
  case round =>
    obtain ⟨k, hk, hk2, rfl, HK, hb⟩ := hrel
    have n0 : (0 : Int) ≤ (k : Int) := by omega
    by_cases hlt : k < n
    · have hkl : k < a.length := by rw [HN.out]; exact hlt
      obtain ⟨b0, o, rfl, hc⟩ := (HA.out.below hb (Nat.le_refl _)).open k hkl
      obtain ⟨x, hx⟩ : ∃ x, a[k] = x := ⟨_, rfl⟩
      have c0 := (hc k hkl).1
      have c1 := (hc k hkl).2
      rw [hx] at c0 c1
      have hbx : b0 < wr.heap.size := World.block_lt_of_cell? _ _ c0
      have n1 : (k : Int) < (n : Int) := by omega
      by_cases hlt2 : k < n2
      · have hkl2 : k < b.length := by rw [HN2.out]; exact hlt2
        obtain ⟨b1, o1, rfl, hd⟩ := (HB.out.below hb (Nat.le_refl _)).open k hkl2
        have hst := HK.out
        rw [Lab.cmpL_drop a b k hkl hkl2] at hst
        obtain ⟨y, hy⟩ : ∃ y, b[k] = y := ⟨_, rfl⟩
        have d0 := (hd k hkl2).1
        have d1 := (hd k hkl2).2
        rw [hy] at d0 d1
        rw [hx, hy] at hst
        have hby : b1 < wr.heap.size := World.block_lt_of_cell? _ _ d0
        have n2' : (k : Int) < (n2 : Int) := by omega
        obtain ⟨cc, hcc⟩ : ∃ cc, Lab.c1 x y = cc := ⟨_, rfl⟩
        have HC := Lib.hid (fun w => cmp1_is x y cc hcc w)
        rw [hcc] at hst
        clear hx hy hc hd HK hcc
        by_cases h0 : cc = 0
        · rw [if_pos h0] at hst
          subst h0
          have HG := Lib.hid hst
          clear hst
          go_wp2_with (go_at_call 82; refine (HC.out _).mono ?_)
          first | rintro e w3 rfl hb3 | rintro e w3 ⟨rfl, hb3⟩
          have hb4 : Below w.heap.size w w3 := ((hb.alloc hb.size _).alloc (by simp; have := hb.size; omega) _).trans (hb3.mono (by simp; have := hb.size; omega))
          clear hb3
          go_wp2_with fail
          go_roundw
          case rel => exact ⟨k + 1, by omega, by omega, by go_num, HG, hb4⟩
          case measure => simp [intOf]; omega
        · rw [if_neg h0] at hst
          subst hst
          have q1 : (cc != 0) = true := by simpa using h0
          clear h0 H0
          go_wp2_with (go_at_call 82; refine (HC.out _).mono ?_)
          first | rintro e w3 rfl hb3 | rintro e w3 ⟨rfl, hb3⟩
          have hb4 : Below w.heap.size w w3 := ((hb.alloc hb.size _).alloc (by simp; have := hb.size; omega) _).trans (hb3.mono (by simp; have := hb.size; omega))
          clear hb3
          go_wp2_with fail
          go_ret
          exact ⟨rfl, hb4⟩
      · have hst := HK.out
        rw [Lab.cmpL_long a b k hkl (by rw [HN2.out]; omega)] at hst
        subst hst
        have n2' : (n2 : Int) ≤ (k : Int) := by omega
        clear HK H0 hx hc
        go_wp2_with fail
        go_ret
        exact ⟨rfl, hb.alloc hb.size _⟩
    · have hst := HK.out
      rw [Lab.cmpL_short a b k (by rw [HN.out]; omega), HN2.out] at hst
      obtain rfl : k = n := by omega
      have n1 : ¬ ((k : Int) < (k : Int)) := by omega
      clear HK H0
      by_cases h2 : k < n2
      · rw [if_pos h2] at hst
        subst hst
        have n2' : (k : Int) < (n2 : Int) := by omega
        have n3' : decide (k < n2) = true := decide_eq_true h2
        go_wp2_with fail
        go_ret
        exact ⟨rfl, hb⟩
      · rw [if_neg h2] at hst
        subst hst
        have n2' : (n2 : Int) ≤ (k : Int) := by omega
        have n3' : decide (k < n2) = false := decide_eq_false h2
        go_wp2_with fail
        go_ret
        exact ⟨rfl, hb⟩
set_option maxHeartbeats 800000 in
theorem lcompare_is (p q : Option Addr) (a b : List Lab.L) (n c n2 c2 : Nat) (r : Int) (h : Lab.cmpL a b = r) (w : World) (hn : a.length = n) (hn2 : b.length = n2) (hA : Lab.At p a w) (hB : Lab.At q b w) (hl : n ≤ 10000) :
    Calls Tryz.prog 44 #[.slice p n c, .slice q n2 c2] w fun e w' => e = .returned (.int .i64 r) ∧ Below w.heap.size w w' := by
  have HC := Lib.hid (cmpfunc_is p q a b n c n2 c2 r h w hn hn2 hA hB hl)
  clear h hn hn2 hA hB
  go_enter Tryz.func44, Tryz.ntmps44
  go_wp2_with (go_at_call 81; refine HC.out.mono ?_)
  first | rintro e w3 rfl hb3 | rintro e w3 ⟨rfl, hb3⟩
  go_wp2_with fail
  go_ret
  exact ⟨rfl, hb3⟩
end Go.Proofs.YtbilaghljlobpaaGreat
