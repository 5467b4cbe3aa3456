/- Contracts of the reader: number, with its two closures. (Printed by gen_num.py.) -/
import Derived.Test.YtmmijebekipdeaaDoorJsB
namespace Go.Proofs.YtmmijebekipdeaaDoor
open Go.RowKit
set_option maxRecDepth 100000

/-- the block of the variable 'at' of number, and the block that holds the reader's address -/
abbrev Js.atObj (j : Nat) : Obj := .cells #[.int .i64 j] 3
abbrev Js.boxObj (R : Nat) : Obj := .cells #[.pointer (some ⟨R, 0, none⟩)] 87
structure Js.NAt (A X R : Nat) (s : ByteArray) (k o b j : Nat) (w : World) : Prop where
  a : w.heap[A]? = some (Js.atObj j)
  x : w.heap[X]? = some (Js.boxObj R)
  r : w.heap[R]? = some (Js.obj s k o b)
theorem Js.NAt.set {A X R : Nat} {s : ByteArray} {k o b j : Nat} {w : World} (h : Js.NAt A X R s k o b j w) (hA : A ≠ X) (hR : A ≠ R) (x : Int) (i : Nat) (hx : x = i) : Js.NAt A X R s k o b i (w.setCell ⟨A, 0, none⟩ (.int .i64 x)) := by
  subst hx
  refine ⟨heap_setCell_same w A 0 _ _ _ h.a, ?_, ?_⟩
  · rw [Below.heap_setCell _ ⟨A, 0, none⟩ _ X (fun e => hA e.symm)]; exact h.x
  · rw [Below.heap_setCell _ ⟨A, 0, none⟩ _ R (fun e => hR e.symm)]; exact h.r
theorem Js.NAt.drew {A X R : Nat} {s : ByteArray} {k o b j : Nat} {w : World} (h : Js.NAt A X R s k o b j w) (n : Nat) : Js.NAt A X R s k o b j (w.drewN n) :=
  ⟨by simpa using h.a, by simpa using h.x, by simpa using h.r⟩
/-- the number ends at j -/
def Js.NGoes (A X R : Nat) (s : ByteArray) (k o b : Nat) (p : Bool) (j : Nat) (w : World) (e : Ending) (w' : World) : Prop :=
  e = .returned (.bool p) ∧ Js.NAt A X R s k o b j w' ∧ Kp A w w'

set_option maxHeartbeats 1000000 in
theorem Js.digits_is (A X R : Nat) (s : ByteArray) (k o b j : Nat) (w : World) (h : Js.NAt A X R s k o b j w) (hA : A ≠ X) (hR : A ≠ R) (hj : j ≤ s.size) (hs : s.size ≤ 1000000) (J : Nat) (hJ : Js.dg s j = J) (p : Bool) (hp : decide (j < J) = p) :
    Calls Tryd.prog 102 #[.pointer (some ⟨A, 0, none⟩), .pointer (some ⟨X, 0, none⟩)] w (Js.NGoes A X R s k o b p J w) := by
  have HJ := Lib.hid hJ
  have H := Lib.hid h
  have c0 : w.cell? ⟨A, 0, none⟩ = some (.int .i64 j) := by rw [Lib.cell_of_heap h.a]; rfl
  have HPP := Lib.hid hp
  clear hJ h hp
  go_enter Tryd.func102, Tryd.ntmps102
  go_wp2
  go_loopg [] (s.size + 1) (fun gk wx => ∃ i : Nat, i ≤ s.size ∧ s.size < gk + i ∧ j ≤ i ∧ Hid (Js.dg s i = J) ∧ Hid (Js.NAt A X R s k o b i wx) ∧ Hid (Kp A w wx))
  case atStart => exact ⟨j, hj, by omega, Nat.le_refl _, HJ.out, H.out, Kp.refl _ _⟩
  case round =>
    clear c0 HJ H
    obtain ⟨i, hi, hg, hji, HJ, H, HP⟩ := hrel
    have c0 : wr.cell? ⟨A, 0, none⟩ = some (.int .i64 i) := by rw [Lib.cell_of_heap H.out.a]; rfl
    have f0 : wr.frozen? ⟨A, 0, none⟩ = false := Lib.frozen_of_heap H.out.a 0
    have c1 : wr.cell? ⟨X, 0, none⟩ = some (.pointer (some ⟨R, 0, none⟩)) := by rw [Lib.cell_of_heap H.out.x]; rfl
    have c2 : wr.cell? ⟨R, 0, none⟩ = some (.string s) := by rw [Lib.cell_of_heap H.out.r]; rfl
    have h0 : (0 : Int) ≤ i := by omega
    have hend : Js.isDg (Js.nx s i) = false → Hid (i = J) := fun hd => (Js.dg_stop s i hd).symm.trans HJ.out
    by_cases h : i < s.size
    · have h1 : (i : Int) < s.size := by omega
      obtain ⟨g', rfl⟩ : ∃ g', gk = g' + 1 := ⟨gk - 1, by omega⟩
      have hc := Js.nx_get s i h
      by_cases hd : Js.isDg (Js.nx s i) = true
      · have HS := Lib.hid (Js.dg_step s i hd)
        have hd2 := hd
        simp only [Js.isDg, Bool.and_eq_true, decide_eq_true_eq, hc] at hd2
        have b1 : decide ((48 : Int) ≤ (s[i].toNat : Int)) = true := decide_eq_true (by omega)
        have b2 : decide ((s[i].toNat : Int) ≤ 57) = true := decide_eq_true (by omega)
        clear hd hd2 hc hend
        go_wp2_with fail
        go_quiet (fail)
        go_wp2
        go_roundg g'
        case measure => omega
        case rel => exact ⟨i + 1, by omega, by omega, by omega, by show Js.dg s (i + 1) = J; rw [← HS.out]; exact HJ.out, (H.out.drew _).set hA hR _ _ (by go_num), (HP.out.drew _).set 0 _⟩
      · have hd0 : Js.isDg (Js.nx s i) = false := by simpa using hd
        have HE := hend hd0
        have hd2 := hd
        simp only [Js.isDg, Bool.and_eq_true, decide_eq_true_eq, hc] at hd2
        clear hd hd0 hc hend
        by_cases h48 : 48 ≤ s[i].toNat
        · have b1 : decide ((48 : Int) ≤ (s[i].toNat : Int)) = true := decide_eq_true (by omega)
          have b2 : decide ((s[i].toNat : Int) ≤ 57) = false := decide_eq_false (by omega)
          go_wp2_with fail
          go_quiet (fail)
          go_wp2
          go_ret
          obtain rfl : i = J := HE.out
          exact ⟨by rw [← HPP.out]; congr 2, H.out.drew _, HP.out.drew _⟩
        · have b1 : decide ((48 : Int) ≤ (s[i].toNat : Int)) = false := decide_eq_false (by omega)
          go_wp2_with fail
          go_quiet (fail)
          go_wp2
          go_ret
          obtain rfl : i = J := HE.out
          exact ⟨by rw [← HPP.out]; congr 2, H.out.drew _, HP.out.drew _⟩
    · have h1 : ¬ (i : Int) < s.size := by omega
      have HE := hend (by rw [Js.nx_end s i (by omega)]; rfl)
      clear hend
      go_wp2_with fail
      go_quiet (fail)
      go_wp2
      go_ret
      obtain rfl : i = J := HE.out
      exact ⟨by rw [← HPP.out]; congr 2, H.out.drew _, HP.out.drew _⟩

set_option maxHeartbeats 1000000 in
theorem Js.one_is (l : ByteArray) (p : Bool) (A X R : Nat) (s : ByteArray) (k o b j : Nat) (w : World) (h : Js.NAt A X R s k o b j w) (hA : A ≠ X) (hR : A ≠ R) (hj : j ≤ s.size) (hs : s.size ≤ 1000000)
    (hp : decide (0 ≤ Lib.indexByte l.data.toList (UInt8.ofNat (Js.nx s j))) = p) (h0 : Js.nx s j = 0 → p = false) (J : Nat) (hJ : J = if p then j + 1 else j) :
    Calls Tryd.prog 103 #[.string l, .pointer (some ⟨A, 0, none⟩), .pointer (some ⟨X, 0, none⟩)] w (Js.NGoes A X R s k o b p J w) := by
  have H := Lib.hid h
  have c0 : w.cell? ⟨A, 0, none⟩ = some (.int .i64 j) := by rw [Lib.cell_of_heap h.a]; rfl
  have f0 : w.frozen? ⟨A, 0, none⟩ = false := Lib.frozen_of_heap h.a 0
  have c1 : w.cell? ⟨X, 0, none⟩ = some (.pointer (some ⟨R, 0, none⟩)) := by rw [Lib.cell_of_heap h.x]; rfl
  have c2 : w.cell? ⟨R, 0, none⟩ = some (.string s) := by rw [Lib.cell_of_heap h.r]; rfl
  have hz : (0 : Int) ≤ j := by omega
  clear h
  by_cases h : j < s.size
  · have h1 : (j : Int) < s.size := by omega
    obtain ⟨r, hr1, hr2, HC⟩ := Js.ix_is l _ _ hp
    rw [Js.nx_get s j h] at HC
    clear hp hr2 h0
    cases p
    · have HJ : Hid (J = j) := hJ
      clear hJ
      go_enter Tryd.func103, Tryd.ntmps103
      go_wp2_with fail
      go_quiet ((go_at_call 36; exact Calls.quiet_of_same (HC _)))
      go_wp2
      go_ret
      obtain rfl : J = j := HJ.out
      exact ⟨rfl, H.out.drew _, (Kp.refl _ _).drew _⟩
    · have HJ : Hid (J = j + 1) := hJ
      clear hJ
      go_enter Tryd.func103, Tryd.ntmps103
      go_wp2_with fail
      go_quiet ((go_at_call 36; exact Calls.quiet_of_same (HC _)))
      go_wp2
      go_ret
      obtain rfl : J = j + 1 := HJ.out
      exact ⟨rfl, (H.out.drew _).set hA hR _ _ (by go_num), ((Kp.refl _ _).drew _).set 0 _⟩
  · have h1 : ¬ (j : Int) < s.size := by omega
    obtain rfl : p = false := h0 (Js.nx_end s j (by omega))
    have HJ : Hid (J = j) := hJ
    clear hJ hp h0
    go_enter Tryd.func103, Tryd.ntmps103
    go_wp2_with fail
    go_quiet (fail)
    go_wp2
    go_ret
    obtain rfl : J = j := HJ.out
    exact ⟨rfl, H.out.drew _, (Kp.refl _ _).drew _⟩


theorem Js.ix_two (c x y : UInt8) : decide (0 ≤ Lib.indexByte [x, y] c) = (decide (c = x) || decide (c = y)) := by
  by_cases h : c = x
  · subst h; simp [Lib.indexByte]
  · have h2 : ¬ x = c := fun e => h e.symm
    by_cases h3 : c = y
    · subst h3; simp [Lib.indexByte, h, h2]
    · have h4 : ¬ y = c := fun e => h3 e.symm
      simp [Lib.indexByte, h, h2, h3, h4]
theorem Js.u8_eq (c n : Nat) (hc : c < 256) (hn : n < 256) : decide (UInt8.ofNat c = UInt8.ofNat n) = decide (c = n) := by
  by_cases h : c = n
  · subst h; simp
  · have : ¬ UInt8.ofNat c = UInt8.ofNat n := fun e => h (by have := congrArg UInt8.toNat e; simpa [UInt8.toNat_ofNat', Nat.mod_eq_of_lt hc, Nat.mod_eq_of_lt hn] using this)
    simp [h, this]

set_option maxHeartbeats 4000000 in
theorem Js.number_is (R : Nat) (s : ByteArray) (k o b : Nat) (w : World) (hR : w.heap[R]? = some (Js.obj s k o b)) (hk : k ≤ s.size) (hs : s.size ≤ 1000000) :
    Calls Tryd.prog 77 #[.pointer (some ⟨R, 0, none⟩)] w fun e w' =>
      e = .returned (.tuple #[.int .i64 (((Js.num s k).1 : Int) - k), .int .i64 (if (Js.num s k).2 then 0 else 143)]) ∧ Below w.heap.size w w' := by
  have HRW := lt_of_heap hR
  have c1 : w.cell? ⟨R, 1, none⟩ = some (.int .i64 k) := by rw [Lib.cell_of_heap hR]; rfl
  obtain ⟨er, her⟩ : ∃ er : Int, (if (Js.num s k).2 then (0 : Int) else 143) = er := ⟨_, rfl⟩
  obtain ⟨nn, hnn⟩ : ∃ nn : Int, ((Js.num s k).1 : Int) - k = nn := ⟨_, rfl⟩
  rw [her, hnn]
  obtain ⟨N, hN⟩ : ∃ N, Js.num s k = N := ⟨_, rfl⟩
  rw [hN] at her hnn
  have HER := Lib.hid her
  have HNN := Lib.hid hnn
  clear her hnn
  have HN := Lib.hid hN
  have HR := Lib.hid hR
  clear hN hR
  have hmf : ∀ (fn : Fn) (first cap : Array Value) (w : World), (Instr.makeFunc fn first cap).run Tryd.prog w = .ok (.func fn first cap) w := fun _ _ _ _ => rfl
  obtain ⟨W0, hW0⟩ : ∃ W0, (w.alloc (Js.boxObj R)).alloc (Js.atObj k) = W0 := ⟨_, rfl⟩
  have HA0 : Hid (Js.NAt (w.heap.size + 1) w.heap.size R s k o b k W0) := by
    subst hW0
    refine ⟨?_, ?_, ?_⟩
    · simpa using alloc_new (w.alloc (Js.boxObj R)) (Js.atObj k)
    · exact alloc_kept (alloc_new _ _)
    · exact alloc_kept (alloc_kept HR.out)
  have HB0 : Hid (Below w.heap.size w W0) := by
    subst hW0
    exact ((Below.refl _ w).alloc (Nat.le_refl _) _).alloc (by simp) _
  have HZ0 : Hid (W0.heap.size = w.heap.size + 2) := by
    subst hW0
    show _ = _
    simp
  obtain ⟨a, ha⟩ : ∃ a, a = (if Js.nx s k = 45 then k + 1 else k) := ⟨_, rfl⟩
  have hale : a ≤ s.size ∧ k ≤ a := by
    rw [ha]; split
    case isTrue h => exact ⟨Nat.lt_of_not_le fun hh => by rw [Js.nx_end s k hh] at h; omega, by omega⟩
    · exact ⟨hk, by omega⟩
  have HN2 : Hid ((if Js.nx s a = 48 then Js.numF s (a + 1) else if Js.dg s a = a then (a, false) else Js.numF s (Js.dg s a)) = N) := by
    have := HN.out
    unfold Js.num at this
    rw [← ha] at this
    exact this
  have HO1 := Lib.hid (fun w' (h : Js.NAt (w.heap.size + 1) w.heap.size R s k o b k w') => Js.one_is ⟨#[45]⟩ (decide (Js.nx s k = 45)) _ _ R s k o b k w' h (by omega) (by omega) hk hs
    ((Js.ix_one' 45 (UInt8.ofNat (Js.nx s k))).trans (Js.u8_eq _ 45 (Js.nx_lt s k) (by omega))) (fun h => by rw [h]; rfl) a (by rw [ha]; by_cases h : Js.nx s k = 45 <;> simp [h]))
  have HD := Lib.hid (fun j J p w' (h : Js.NAt (w.heap.size + 1) w.heap.size R s k o b j w') (hj : j ≤ s.size) (hJ : Js.dg s j = J) (hp : decide (j < J) = p) => Js.digits_is _ _ R s k o b j w' h (by omega) (by omega) hj hs J hJ p hp)
  have HO := Lib.hid (fun (l : ByteArray) p j J w' (h : Js.NAt (w.heap.size + 1) w.heap.size R s k o b j w') (hj : j ≤ s.size) hp h0 hJ => Js.one_is l p _ _ R s k o b j w' h (by omega) (by omega) hj hs hp h0 J hJ)
  clear HN ha
  go_enter Tryd.func77, Tryd.ntmps77

  go_wp2_with (go_at_call 103; refine (HO1.out _ HA0.out).mono ?_)
  rintro e w1 ⟨rfl, h1, k1⟩
  by_cases h48 : Js.nx s a = 48
  · have hlt : a < s.size := Nat.lt_of_not_le fun hh => by rw [Js.nx_end s _ hh] at h48; omega
    have HO2 := Lib.hid (fun w' (h : Js.NAt (w.heap.size + 1) w.heap.size R s k o b a w') => HO.out ⟨#[48]⟩ true a (a + 1) w' h (by omega) ((Js.ix_one' 48 (UInt8.ofNat (Js.nx s a))).trans ((Js.u8_eq _ 48 (Js.nx_lt s _) (by omega)).trans (decide_eq_true h48))) (fun h => by omega) rfl)
    have HF : Hid (Js.numF s (a + 1) = N) := by have h9 : _ = N := HN2.out; rw [if_pos h48] at h9; exact h9
    clear h48 HN2
    go_wp2_with (go_at_call 103; refine (HO2.out _ h1).mono ?_)
    rintro e w2 ⟨rfl, h2, k2⟩
    obtain ⟨c, rfl⟩ : ∃ c, c = a + 1 := ⟨_, rfl⟩
    have hcb : k ≤ a + 1 ∧ a + 1 ≤ s.size := ⟨by omega, hlt⟩
    clear HO2
    by_cases hd : Js.nx s (a + 1) = 46
    · have hlt : (a + 1) < s.size := Nat.lt_of_not_le fun hh => by rw [Js.nx_end s _ hh] at hd; omega
      have HO2 := Lib.hid (fun w' (h : Js.NAt (w.heap.size + 1) w.heap.size R s k o b (a + 1) w') => HO.out ⟨#[46]⟩ true (a + 1) ((a + 1) + 1) w' h (by omega) ((Js.ix_one' 46 (UInt8.ofNat (Js.nx s (a + 1)))).trans ((Js.u8_eq _ 46 (Js.nx_lt s _) (by omega)).trans (decide_eq_true hd))) (fun h => by omega) rfl)
      have HF2 : Hid ((if Js.dg s ((a + 1) + 1) = (a + 1) + 1 then ((a + 1) + 1, false) else Js.numX s (Js.dg s ((a + 1) + 1))) = N) := by have h9 : Js.numF s (a + 1) = N := HF.out; unfold Js.numF at h9; rw [if_pos hd] at h9; exact h9
      clear hd
      go_wp2_with (go_at_call 103; refine (HO2.out _ h2).mono ?_)
      rintro e w3 ⟨rfl, h3, k3⟩
      obtain ⟨d, hdd⟩ : ∃ d, Js.dg s ((a + 1) + 1) = d := ⟨_, rfl⟩
      have hdb : (a + 1) + 1 ≤ d ∧ d ≤ s.size := hdd ▸ ⟨Js.dg_ge s _, Js.dg_le s _ hlt⟩
      rw [hdd] at HF2
      have HDD := Lib.hid hdd
      clear hdd
      by_cases hcd : (a + 1) + 1 < d
      · have HT : Hid (Js.numX s d = N) := by have h9 : _ = N := HF2.out; rw [if_neg (by omega)] at h9; exact h9
        go_wp2_with (go_at_call 102; refine (HD.out ((a + 1) + 1) d true _ h3 hlt HDD.out (decide_eq_true hcd)).mono ?_)
        rintro e w4 ⟨rfl, h4, k4⟩
        clear HO2 HF2 HDD
        by_cases hx : Js.nx s d = 101 ∨ Js.nx s d = 69
        · have hlt : d < s.size := Nat.lt_of_not_le fun hh => by rw [Js.nx_end s _ hh] at hx; omega
          have hxb : (decide (Js.nx s d = 101) || decide (Js.nx s d = 69)) = true := by rcases hx with h | h <;> simp [h]
          obtain ⟨f, hf⟩ : ∃ f, f = (if Js.nx s (d + 1) = 43 ∨ Js.nx s (d + 1) = 45 then d + 2 else d + 1) := ⟨_, rfl⟩
          have hfb : d + 1 ≤ f ∧ f ≤ s.size := by
            rw [hf]; split
            case isTrue h => exact ⟨by omega, Nat.lt_of_not_le fun hh => by rw [Js.nx_end s _ hh] at h; omega⟩
            · exact ⟨by omega, hlt⟩
          have HE : Hid ((Js.dg s f, Js.dg s f != f) = N) := by have h9 : Js.numX s d = N := HT.out; unfold Js.numX at h9; rw [if_pos hx, ← hf] at h9; exact h9
          have HO2 := Lib.hid (fun w' (h : Js.NAt (w.heap.size + 1) w.heap.size R s k o b d w') => HO.out ⟨#[101, 69]⟩ true d (d + 1) w' h (by omega) ((Js.ix_two (UInt8.ofNat (Js.nx s d)) 101 69).trans ((congr (congrArg or (Js.u8_eq _ 101 (Js.nx_lt s _) (by omega))) (Js.u8_eq _ 69 (Js.nx_lt s _) (by omega))).trans hxb)) (fun h => by rw [h] at hx; omega) rfl)
          have HO3 := Lib.hid (fun w' (h : Js.NAt (w.heap.size + 1) w.heap.size R s k o b (d + 1) w') => HO.out ⟨#[43, 45]⟩ (decide (Js.nx s (d + 1) = 43) || decide (Js.nx s (d + 1) = 45)) (d + 1) f w' h (by omega) ((Js.ix_two (UInt8.ofNat (Js.nx s (d + 1))) 43 45).trans ((congr (congrArg or (Js.u8_eq _ 43 (Js.nx_lt s _) (by omega))) (Js.u8_eq _ 45 (Js.nx_lt s _) (by omega))))) (fun h => by rw [h]; rfl) (by rw [hf]; by_cases h1 : Js.nx s (d + 1) = 43 <;> by_cases h2 : Js.nx s (d + 1) = 45 <;> simp [h1, h2]))
          clear hx hxb hf
          go_wp2_with (go_at_call 103; refine (HO2.out _ h4).mono ?_)
          rintro e w5 ⟨rfl, h5, k5⟩
          go_wp2_with (go_at_call 103; refine (HO3.out _ h5).mono ?_)
          rintro e w6 ⟨rfl, h6, k6⟩
          obtain ⟨g, hg⟩ : ∃ g, Js.dg s f = g := ⟨_, rfl⟩
          have hgb : f ≤ g ∧ g ≤ s.size := hg ▸ ⟨Js.dg_ge s f, Js.dg_le s f hfb.2⟩
          rw [hg] at HE
          have HG := Lib.hid hg
          clear hg
          by_cases hgf : f < g
          · have HE : Hid ((g, true) = N) := by have h9 : _ = N := HE.out; rw [← h9]; show _ = _; simp; omega
            go_wp2_with (go_at_call 102; refine (HD.out f g true _ h6 hfb.2 HG.out (decide_eq_true hgf)).mono ?_)
            rintro e w7 ⟨rfl, h7, k7⟩
            have cA7 : w7.cell? ⟨w.heap.size + 1, 0, none⟩ = some (.int .i64 ((g : Nat) : Int)) := by rw [Lib.cell_of_heap h7.a]; rfl
            have cX7 : w7.cell? ⟨w.heap.size, 0, none⟩ = some (.pointer (some ⟨R, 0, none⟩)) := by rw [Lib.cell_of_heap h7.x]; rfl
            have cR7 : w7.cell? ⟨R, 1, none⟩ = some (.int .i64 k) := by rw [Lib.cell_of_heap h7.r]; rfl
            have hjb : k ≤ g ∧ g ≤ s.size := ⟨by omega, hgb.2⟩
            go_wp2_with fail
            go_quiet (fail)
            go_wp2
            go_ret2
            have e1 : nn = ((g : Nat) : Int) - k := by have h9 : _ = nn := HNN.out; have h8 : _ = N := HE.out; rw [← h9, ← h8]
            have e2 : er = 0 := by have h9 : _ = er := HER.out; have h8 : _ = N := HE.out; rw [← h9, ← h8]; rfl
            exact ⟨by rw [e1, e2]; rfl, below_drewN (HB0.out.trans (Kp.below (B := w.heap.size) (((((((k1).trans k2).trans k3).trans k4).trans k5).trans k6).trans k7) (by have h9 : _ = _ := HZ0.out; omega) (by omega))) _⟩
          · obtain rfl : g = f := by omega
            have HE : Hid ((g, false) = N) := by have h9 : _ = N := HE.out; rw [← h9]; show _ = _; simp
            go_wp2_with (go_at_call 102; refine (HD.out g g false _ h6 hfb.2 HG.out (decide_eq_false hgf)).mono ?_)
            rintro e w8 ⟨rfl, h8, k8⟩
            have cA8 : w8.cell? ⟨w.heap.size + 1, 0, none⟩ = some (.int .i64 ((g : Nat) : Int)) := by rw [Lib.cell_of_heap h8.a]; rfl
            have cX8 : w8.cell? ⟨w.heap.size, 0, none⟩ = some (.pointer (some ⟨R, 0, none⟩)) := by rw [Lib.cell_of_heap h8.x]; rfl
            have cR8 : w8.cell? ⟨R, 1, none⟩ = some (.int .i64 k) := by rw [Lib.cell_of_heap h8.r]; rfl
            have hjb : k ≤ g ∧ g ≤ s.size := ⟨by omega, hgb.2⟩
            go_wp2_with fail
            go_quiet (fail)
            go_wp2
            go_ret2
            have e1 : nn = ((g : Nat) : Int) - k := by have h9 : _ = nn := HNN.out; have h8 : _ = N := HE.out; rw [← h9, ← h8]
            have e2 : er = 143 := by have h9 : _ = er := HER.out; have h8 : _ = N := HE.out; rw [← h9, ← h8]; rfl
            exact ⟨by rw [e1, e2]; rfl, below_drewN (HB0.out.trans (Kp.below (B := w.heap.size) (((((((k1).trans k2).trans k3).trans k4).trans k5).trans k6).trans k8) (by have h9 : _ = _ := HZ0.out; omega) (by omega))) _⟩
        · have hxb : (decide (Js.nx s d = 101) || decide (Js.nx s d = 69)) = false := by simp; omega
          have HE : Hid ((d, true) = N) := by have h9 : Js.numX s d = N := HT.out; unfold Js.numX at h9; rw [if_neg hx] at h9; exact h9
          have HO2 := Lib.hid (fun w' (h : Js.NAt (w.heap.size + 1) w.heap.size R s k o b d w') => HO.out ⟨#[101, 69]⟩ false d d w' h (by omega) ((Js.ix_two (UInt8.ofNat (Js.nx s d)) 101 69).trans ((congr (congrArg or (Js.u8_eq _ 101 (Js.nx_lt s _) (by omega))) (Js.u8_eq _ 69 (Js.nx_lt s _) (by omega))).trans hxb)) (fun _ => rfl) rfl)
          clear hx hxb
          go_wp2_with (go_at_call 103; refine (HO2.out _ h4).mono ?_)
          rintro e w9 ⟨rfl, h9, k9⟩
          have cA9 : w9.cell? ⟨w.heap.size + 1, 0, none⟩ = some (.int .i64 ((d : Nat) : Int)) := by rw [Lib.cell_of_heap h9.a]; rfl
          have cX9 : w9.cell? ⟨w.heap.size, 0, none⟩ = some (.pointer (some ⟨R, 0, none⟩)) := by rw [Lib.cell_of_heap h9.x]; rfl
          have cR9 : w9.cell? ⟨R, 1, none⟩ = some (.int .i64 k) := by rw [Lib.cell_of_heap h9.r]; rfl
          have hjb : k ≤ d ∧ d ≤ s.size := ⟨by omega, hdb.2⟩
          go_wp2_with fail
          go_quiet (fail)
          go_wp2
          go_ret2
          have e1 : nn = ((d : Nat) : Int) - k := by have h9 : _ = nn := HNN.out; have h8 : _ = N := HE.out; rw [← h9, ← h8]
          have e2 : er = 0 := by have h9 : _ = er := HER.out; have h8 : _ = N := HE.out; rw [← h9, ← h8]; rfl
          exact ⟨by rw [e1, e2]; rfl, below_drewN (HB0.out.trans (Kp.below (B := w.heap.size) (((((k1).trans k2).trans k3).trans k4).trans k9) (by have h9 : _ = _ := HZ0.out; omega) (by omega))) _⟩
      · obtain rfl : d = (a + 1) + 1 := by omega
        have HE : Hid (((a + 1) + 1, false) = N) := by have h9 : _ = N := HF2.out; rw [if_pos rfl] at h9; exact h9
        go_wp2_with (go_at_call 102; refine (HD.out ((a + 1) + 1) ((a + 1) + 1) false _ h3 hlt HDD.out (decide_eq_false hcd)).mono ?_)
        rintro e w10 ⟨rfl, h10, k10⟩
        have cA10 : w10.cell? ⟨w.heap.size + 1, 0, none⟩ = some (.int .i64 ((((a + 1) + 1) : Nat) : Int)) := by rw [Lib.cell_of_heap h10.a]; rfl
        have cX10 : w10.cell? ⟨w.heap.size, 0, none⟩ = some (.pointer (some ⟨R, 0, none⟩)) := by rw [Lib.cell_of_heap h10.x]; rfl
        have cR10 : w10.cell? ⟨R, 1, none⟩ = some (.int .i64 k) := by rw [Lib.cell_of_heap h10.r]; rfl
        have hjb : k ≤ ((a + 1) + 1) ∧ ((a + 1) + 1) ≤ s.size := ⟨by omega, hdb.2⟩
        go_wp2_with fail
        go_quiet (fail)
        go_wp2
        go_ret2
        have e1 : nn = ((((a + 1) + 1) : Nat) : Int) - k := by have h9 : _ = nn := HNN.out; have h8 : _ = N := HE.out; rw [← h9, ← h8]
        have e2 : er = 143 := by have h9 : _ = er := HER.out; have h8 : _ = N := HE.out; rw [← h9, ← h8]; rfl
        exact ⟨by rw [e1, e2]; rfl, below_drewN (HB0.out.trans (Kp.below (B := w.heap.size) ((((k1).trans k2).trans k3).trans k10) (by have h9 : _ = _ := HZ0.out; omega) (by omega))) _⟩
    · have HO2 := Lib.hid (fun w' (h : Js.NAt (w.heap.size + 1) w.heap.size R s k o b (a + 1) w') => HO.out ⟨#[46]⟩ false (a + 1) (a + 1) w' h (by omega) ((Js.ix_one' 46 (UInt8.ofNat (Js.nx s (a + 1)))).trans ((Js.u8_eq _ 46 (Js.nx_lt s _) (by omega)).trans (decide_eq_false hd))) (fun _ => rfl) rfl)
      have HT : Hid (Js.numX s (a + 1) = N) := by have h9 : Js.numF s (a + 1) = N := HF.out; unfold Js.numF at h9; rw [if_neg hd] at h9; exact h9
      clear hd
      go_wp2_with (go_at_call 103; refine (HO2.out _ h2).mono ?_)
      rintro e w11 ⟨rfl, h11, k11⟩
      by_cases hx : Js.nx s (a + 1) = 101 ∨ Js.nx s (a + 1) = 69
      · have hlt : (a + 1) < s.size := Nat.lt_of_not_le fun hh => by rw [Js.nx_end s _ hh] at hx; omega
        have hxb : (decide (Js.nx s (a + 1) = 101) || decide (Js.nx s (a + 1) = 69)) = true := by rcases hx with h | h <;> simp [h]
        obtain ⟨f, hf⟩ : ∃ f, f = (if Js.nx s ((a + 1) + 1) = 43 ∨ Js.nx s ((a + 1) + 1) = 45 then (a + 1) + 2 else (a + 1) + 1) := ⟨_, rfl⟩
        have hfb : (a + 1) + 1 ≤ f ∧ f ≤ s.size := by
          rw [hf]; split
          case isTrue h => exact ⟨by omega, Nat.lt_of_not_le fun hh => by rw [Js.nx_end s _ hh] at h; omega⟩
          · exact ⟨by omega, hlt⟩
        have HE : Hid ((Js.dg s f, Js.dg s f != f) = N) := by have h9 : Js.numX s (a + 1) = N := HT.out; unfold Js.numX at h9; rw [if_pos hx, ← hf] at h9; exact h9
        have HO2 := Lib.hid (fun w' (h : Js.NAt (w.heap.size + 1) w.heap.size R s k o b (a + 1) w') => HO.out ⟨#[101, 69]⟩ true (a + 1) ((a + 1) + 1) w' h (by omega) ((Js.ix_two (UInt8.ofNat (Js.nx s (a + 1))) 101 69).trans ((congr (congrArg or (Js.u8_eq _ 101 (Js.nx_lt s _) (by omega))) (Js.u8_eq _ 69 (Js.nx_lt s _) (by omega))).trans hxb)) (fun h => by rw [h] at hx; omega) rfl)
        have HO3 := Lib.hid (fun w' (h : Js.NAt (w.heap.size + 1) w.heap.size R s k o b ((a + 1) + 1) w') => HO.out ⟨#[43, 45]⟩ (decide (Js.nx s ((a + 1) + 1) = 43) || decide (Js.nx s ((a + 1) + 1) = 45)) ((a + 1) + 1) f w' h (by omega) ((Js.ix_two (UInt8.ofNat (Js.nx s ((a + 1) + 1))) 43 45).trans ((congr (congrArg or (Js.u8_eq _ 43 (Js.nx_lt s _) (by omega))) (Js.u8_eq _ 45 (Js.nx_lt s _) (by omega))))) (fun h => by rw [h]; rfl) (by rw [hf]; by_cases h1 : Js.nx s ((a + 1) + 1) = 43 <;> by_cases h2 : Js.nx s ((a + 1) + 1) = 45 <;> simp [h1, h2]))
        clear hx hxb hf
        go_wp2_with (go_at_call 103; refine (HO2.out _ h11).mono ?_)
        rintro e w12 ⟨rfl, h12, k12⟩
        go_wp2_with (go_at_call 103; refine (HO3.out _ h12).mono ?_)
        rintro e w13 ⟨rfl, h13, k13⟩
        obtain ⟨g, hg⟩ : ∃ g, Js.dg s f = g := ⟨_, rfl⟩
        have hgb : f ≤ g ∧ g ≤ s.size := hg ▸ ⟨Js.dg_ge s f, Js.dg_le s f hfb.2⟩
        rw [hg] at HE
        have HG := Lib.hid hg
        clear hg
        by_cases hgf : f < g
        · have HE : Hid ((g, true) = N) := by have h9 : _ = N := HE.out; rw [← h9]; show _ = _; simp; omega
          go_wp2_with (go_at_call 102; refine (HD.out f g true _ h13 hfb.2 HG.out (decide_eq_true hgf)).mono ?_)
          rintro e w14 ⟨rfl, h14, k14⟩
          have cA14 : w14.cell? ⟨w.heap.size + 1, 0, none⟩ = some (.int .i64 ((g : Nat) : Int)) := by rw [Lib.cell_of_heap h14.a]; rfl
          have cX14 : w14.cell? ⟨w.heap.size, 0, none⟩ = some (.pointer (some ⟨R, 0, none⟩)) := by rw [Lib.cell_of_heap h14.x]; rfl
          have cR14 : w14.cell? ⟨R, 1, none⟩ = some (.int .i64 k) := by rw [Lib.cell_of_heap h14.r]; rfl
          have hjb : k ≤ g ∧ g ≤ s.size := ⟨by omega, hgb.2⟩
          go_wp2_with fail
          go_quiet (fail)
          go_wp2
          go_ret2
          have e1 : nn = ((g : Nat) : Int) - k := by have h9 : _ = nn := HNN.out; have h8 : _ = N := HE.out; rw [← h9, ← h8]
          have e2 : er = 0 := by have h9 : _ = er := HER.out; have h8 : _ = N := HE.out; rw [← h9, ← h8]; rfl
          exact ⟨by rw [e1, e2]; rfl, below_drewN (HB0.out.trans (Kp.below (B := w.heap.size) ((((((k1).trans k2).trans k11).trans k12).trans k13).trans k14) (by have h9 : _ = _ := HZ0.out; omega) (by omega))) _⟩
        · obtain rfl : g = f := by omega
          have HE : Hid ((g, false) = N) := by have h9 : _ = N := HE.out; rw [← h9]; show _ = _; simp
          go_wp2_with (go_at_call 102; refine (HD.out g g false _ h13 hfb.2 HG.out (decide_eq_false hgf)).mono ?_)
          rintro e w15 ⟨rfl, h15, k15⟩
          have cA15 : w15.cell? ⟨w.heap.size + 1, 0, none⟩ = some (.int .i64 ((g : Nat) : Int)) := by rw [Lib.cell_of_heap h15.a]; rfl
          have cX15 : w15.cell? ⟨w.heap.size, 0, none⟩ = some (.pointer (some ⟨R, 0, none⟩)) := by rw [Lib.cell_of_heap h15.x]; rfl
          have cR15 : w15.cell? ⟨R, 1, none⟩ = some (.int .i64 k) := by rw [Lib.cell_of_heap h15.r]; rfl
          have hjb : k ≤ g ∧ g ≤ s.size := ⟨by omega, hgb.2⟩
          go_wp2_with fail
          go_quiet (fail)
          go_wp2
          go_ret2
          have e1 : nn = ((g : Nat) : Int) - k := by have h9 : _ = nn := HNN.out; have h8 : _ = N := HE.out; rw [← h9, ← h8]
          have e2 : er = 143 := by have h9 : _ = er := HER.out; have h8 : _ = N := HE.out; rw [← h9, ← h8]; rfl
          exact ⟨by rw [e1, e2]; rfl, below_drewN (HB0.out.trans (Kp.below (B := w.heap.size) ((((((k1).trans k2).trans k11).trans k12).trans k13).trans k15) (by have h9 : _ = _ := HZ0.out; omega) (by omega))) _⟩
      · have hxb : (decide (Js.nx s (a + 1) = 101) || decide (Js.nx s (a + 1) = 69)) = false := by simp; omega
        have HE : Hid (((a + 1), true) = N) := by have h9 : Js.numX s (a + 1) = N := HT.out; unfold Js.numX at h9; rw [if_neg hx] at h9; exact h9
        have HO2 := Lib.hid (fun w' (h : Js.NAt (w.heap.size + 1) w.heap.size R s k o b (a + 1) w') => HO.out ⟨#[101, 69]⟩ false (a + 1) (a + 1) w' h (by omega) ((Js.ix_two (UInt8.ofNat (Js.nx s (a + 1))) 101 69).trans ((congr (congrArg or (Js.u8_eq _ 101 (Js.nx_lt s _) (by omega))) (Js.u8_eq _ 69 (Js.nx_lt s _) (by omega))).trans hxb)) (fun _ => rfl) rfl)
        clear hx hxb
        go_wp2_with (go_at_call 103; refine (HO2.out _ h11).mono ?_)
        rintro e w16 ⟨rfl, h16, k16⟩
        have cA16 : w16.cell? ⟨w.heap.size + 1, 0, none⟩ = some (.int .i64 (((a + 1) : Nat) : Int)) := by rw [Lib.cell_of_heap h16.a]; rfl
        have cX16 : w16.cell? ⟨w.heap.size, 0, none⟩ = some (.pointer (some ⟨R, 0, none⟩)) := by rw [Lib.cell_of_heap h16.x]; rfl
        have cR16 : w16.cell? ⟨R, 1, none⟩ = some (.int .i64 k) := by rw [Lib.cell_of_heap h16.r]; rfl
        have hjb : k ≤ (a + 1) ∧ (a + 1) ≤ s.size := hcb
        go_wp2_with fail
        go_quiet (fail)
        go_wp2
        go_ret2
        have e1 : nn = (((a + 1) : Nat) : Int) - k := by have h9 : _ = nn := HNN.out; have h8 : _ = N := HE.out; rw [← h9, ← h8]
        have e2 : er = 0 := by have h9 : _ = er := HER.out; have h8 : _ = N := HE.out; rw [← h9, ← h8]; rfl
        exact ⟨by rw [e1, e2]; rfl, below_drewN (HB0.out.trans (Kp.below (B := w.heap.size) ((((k1).trans k2).trans k11).trans k16) (by have h9 : _ = _ := HZ0.out; omega) (by omega))) _⟩
  · have HO2 := Lib.hid (fun w' (h : Js.NAt (w.heap.size + 1) w.heap.size R s k o b a w') => HO.out ⟨#[48]⟩ false a a w' h (by omega) ((Js.ix_one' 48 (UInt8.ofNat (Js.nx s a))).trans ((Js.u8_eq _ 48 (Js.nx_lt s _) (by omega)).trans (decide_eq_false h48))) (fun _ => rfl) rfl)
    have HF2 : Hid ((if Js.dg s a = a then (a, false) else Js.numF s (Js.dg s a)) = N) := by have h9 : _ = N := HN2.out; rw [if_neg h48] at h9; exact h9
    clear h48 HN2
    go_wp2_with (go_at_call 103; refine (HO2.out _ h1).mono ?_)
    rintro e w17 ⟨rfl, h17, k17⟩
    obtain ⟨c, hc⟩ : ∃ c, Js.dg s a = c := ⟨_, rfl⟩
    have hcb : a ≤ c ∧ c ≤ s.size := hc ▸ ⟨Js.dg_ge s a, Js.dg_le s a hale.1⟩
    rw [hc] at HF2
    have HC := Lib.hid hc
    clear hc HO2
    by_cases hac : a < c
    · have HF : Hid (Js.numF s c = N) := by have h9 : _ = N := HF2.out; rw [if_neg (by omega)] at h9; exact h9
      go_wp2_with (go_at_call 102; refine (HD.out a c true _ h17 hale.1 HC.out (decide_eq_true hac)).mono ?_)
      rintro e w18 ⟨rfl, h18, k18⟩
      clear HF2 HC
      by_cases hd : Js.nx s c = 46
      · have hlt : c < s.size := Nat.lt_of_not_le fun hh => by rw [Js.nx_end s _ hh] at hd; omega
        have HO2 := Lib.hid (fun w' (h : Js.NAt (w.heap.size + 1) w.heap.size R s k o b c w') => HO.out ⟨#[46]⟩ true c (c + 1) w' h (by omega) ((Js.ix_one' 46 (UInt8.ofNat (Js.nx s c))).trans ((Js.u8_eq _ 46 (Js.nx_lt s _) (by omega)).trans (decide_eq_true hd))) (fun h => by omega) rfl)
        have HF2 : Hid ((if Js.dg s (c + 1) = c + 1 then (c + 1, false) else Js.numX s (Js.dg s (c + 1))) = N) := by have h9 : Js.numF s c = N := HF.out; unfold Js.numF at h9; rw [if_pos hd] at h9; exact h9
        clear hd
        go_wp2_with (go_at_call 103; refine (HO2.out _ h18).mono ?_)
        rintro e w19 ⟨rfl, h19, k19⟩
        obtain ⟨d, hdd⟩ : ∃ d, Js.dg s (c + 1) = d := ⟨_, rfl⟩
        have hdb : c + 1 ≤ d ∧ d ≤ s.size := hdd ▸ ⟨Js.dg_ge s _, Js.dg_le s _ hlt⟩
        rw [hdd] at HF2
        have HDD := Lib.hid hdd
        clear hdd
        by_cases hcd : c + 1 < d
        · have HT : Hid (Js.numX s d = N) := by have h9 : _ = N := HF2.out; rw [if_neg (by omega)] at h9; exact h9
          go_wp2_with (go_at_call 102; refine (HD.out (c + 1) d true _ h19 hlt HDD.out (decide_eq_true hcd)).mono ?_)
          rintro e w20 ⟨rfl, h20, k20⟩
          clear HO2 HF2 HDD
          by_cases hx : Js.nx s d = 101 ∨ Js.nx s d = 69
          · have hlt : d < s.size := Nat.lt_of_not_le fun hh => by rw [Js.nx_end s _ hh] at hx; omega
            have hxb : (decide (Js.nx s d = 101) || decide (Js.nx s d = 69)) = true := by rcases hx with h | h <;> simp [h]
            obtain ⟨f, hf⟩ : ∃ f, f = (if Js.nx s (d + 1) = 43 ∨ Js.nx s (d + 1) = 45 then d + 2 else d + 1) := ⟨_, rfl⟩
            have hfb : d + 1 ≤ f ∧ f ≤ s.size := by
              rw [hf]; split
              case isTrue h => exact ⟨by omega, Nat.lt_of_not_le fun hh => by rw [Js.nx_end s _ hh] at h; omega⟩
              · exact ⟨by omega, hlt⟩
            have HE : Hid ((Js.dg s f, Js.dg s f != f) = N) := by have h9 : Js.numX s d = N := HT.out; unfold Js.numX at h9; rw [if_pos hx, ← hf] at h9; exact h9
            have HO2 := Lib.hid (fun w' (h : Js.NAt (w.heap.size + 1) w.heap.size R s k o b d w') => HO.out ⟨#[101, 69]⟩ true d (d + 1) w' h (by omega) ((Js.ix_two (UInt8.ofNat (Js.nx s d)) 101 69).trans ((congr (congrArg or (Js.u8_eq _ 101 (Js.nx_lt s _) (by omega))) (Js.u8_eq _ 69 (Js.nx_lt s _) (by omega))).trans hxb)) (fun h => by rw [h] at hx; omega) rfl)
            have HO3 := Lib.hid (fun w' (h : Js.NAt (w.heap.size + 1) w.heap.size R s k o b (d + 1) w') => HO.out ⟨#[43, 45]⟩ (decide (Js.nx s (d + 1) = 43) || decide (Js.nx s (d + 1) = 45)) (d + 1) f w' h (by omega) ((Js.ix_two (UInt8.ofNat (Js.nx s (d + 1))) 43 45).trans ((congr (congrArg or (Js.u8_eq _ 43 (Js.nx_lt s _) (by omega))) (Js.u8_eq _ 45 (Js.nx_lt s _) (by omega))))) (fun h => by rw [h]; rfl) (by rw [hf]; by_cases h1 : Js.nx s (d + 1) = 43 <;> by_cases h2 : Js.nx s (d + 1) = 45 <;> simp [h1, h2]))
            clear hx hxb hf
            go_wp2_with (go_at_call 103; refine (HO2.out _ h20).mono ?_)
            rintro e w21 ⟨rfl, h21, k21⟩
            go_wp2_with (go_at_call 103; refine (HO3.out _ h21).mono ?_)
            rintro e w22 ⟨rfl, h22, k22⟩
            obtain ⟨g, hg⟩ : ∃ g, Js.dg s f = g := ⟨_, rfl⟩
            have hgb : f ≤ g ∧ g ≤ s.size := hg ▸ ⟨Js.dg_ge s f, Js.dg_le s f hfb.2⟩
            rw [hg] at HE
            have HG := Lib.hid hg
            clear hg
            by_cases hgf : f < g
            · have HE : Hid ((g, true) = N) := by have h9 : _ = N := HE.out; rw [← h9]; show _ = _; simp; omega
              go_wp2_with (go_at_call 102; refine (HD.out f g true _ h22 hfb.2 HG.out (decide_eq_true hgf)).mono ?_)
              rintro e w23 ⟨rfl, h23, k23⟩
              have cA23 : w23.cell? ⟨w.heap.size + 1, 0, none⟩ = some (.int .i64 ((g : Nat) : Int)) := by rw [Lib.cell_of_heap h23.a]; rfl
              have cX23 : w23.cell? ⟨w.heap.size, 0, none⟩ = some (.pointer (some ⟨R, 0, none⟩)) := by rw [Lib.cell_of_heap h23.x]; rfl
              have cR23 : w23.cell? ⟨R, 1, none⟩ = some (.int .i64 k) := by rw [Lib.cell_of_heap h23.r]; rfl
              have hjb : k ≤ g ∧ g ≤ s.size := ⟨by omega, hgb.2⟩
              go_wp2_with fail
              go_quiet (fail)
              go_wp2
              go_ret2
              have e1 : nn = ((g : Nat) : Int) - k := by have h9 : _ = nn := HNN.out; have h8 : _ = N := HE.out; rw [← h9, ← h8]
              have e2 : er = 0 := by have h9 : _ = er := HER.out; have h8 : _ = N := HE.out; rw [← h9, ← h8]; rfl
              exact ⟨by rw [e1, e2]; rfl, below_drewN (HB0.out.trans (Kp.below (B := w.heap.size) ((((((((k1).trans k17).trans k18).trans k19).trans k20).trans k21).trans k22).trans k23) (by have h9 : _ = _ := HZ0.out; omega) (by omega))) _⟩
            · obtain rfl : g = f := by omega
              have HE : Hid ((g, false) = N) := by have h9 : _ = N := HE.out; rw [← h9]; show _ = _; simp
              go_wp2_with (go_at_call 102; refine (HD.out g g false _ h22 hfb.2 HG.out (decide_eq_false hgf)).mono ?_)
              rintro e w24 ⟨rfl, h24, k24⟩
              have cA24 : w24.cell? ⟨w.heap.size + 1, 0, none⟩ = some (.int .i64 ((g : Nat) : Int)) := by rw [Lib.cell_of_heap h24.a]; rfl
              have cX24 : w24.cell? ⟨w.heap.size, 0, none⟩ = some (.pointer (some ⟨R, 0, none⟩)) := by rw [Lib.cell_of_heap h24.x]; rfl
              have cR24 : w24.cell? ⟨R, 1, none⟩ = some (.int .i64 k) := by rw [Lib.cell_of_heap h24.r]; rfl
              have hjb : k ≤ g ∧ g ≤ s.size := ⟨by omega, hgb.2⟩
              go_wp2_with fail
              go_quiet (fail)
              go_wp2
              go_ret2
              have e1 : nn = ((g : Nat) : Int) - k := by have h9 : _ = nn := HNN.out; have h8 : _ = N := HE.out; rw [← h9, ← h8]
              have e2 : er = 143 := by have h9 : _ = er := HER.out; have h8 : _ = N := HE.out; rw [← h9, ← h8]; rfl
              exact ⟨by rw [e1, e2]; rfl, below_drewN (HB0.out.trans (Kp.below (B := w.heap.size) ((((((((k1).trans k17).trans k18).trans k19).trans k20).trans k21).trans k22).trans k24) (by have h9 : _ = _ := HZ0.out; omega) (by omega))) _⟩
          · have hxb : (decide (Js.nx s d = 101) || decide (Js.nx s d = 69)) = false := by simp; omega
            have HE : Hid ((d, true) = N) := by have h9 : Js.numX s d = N := HT.out; unfold Js.numX at h9; rw [if_neg hx] at h9; exact h9
            have HO2 := Lib.hid (fun w' (h : Js.NAt (w.heap.size + 1) w.heap.size R s k o b d w') => HO.out ⟨#[101, 69]⟩ false d d w' h (by omega) ((Js.ix_two (UInt8.ofNat (Js.nx s d)) 101 69).trans ((congr (congrArg or (Js.u8_eq _ 101 (Js.nx_lt s _) (by omega))) (Js.u8_eq _ 69 (Js.nx_lt s _) (by omega))).trans hxb)) (fun _ => rfl) rfl)
            clear hx hxb
            go_wp2_with (go_at_call 103; refine (HO2.out _ h20).mono ?_)
            rintro e w25 ⟨rfl, h25, k25⟩
            have cA25 : w25.cell? ⟨w.heap.size + 1, 0, none⟩ = some (.int .i64 ((d : Nat) : Int)) := by rw [Lib.cell_of_heap h25.a]; rfl
            have cX25 : w25.cell? ⟨w.heap.size, 0, none⟩ = some (.pointer (some ⟨R, 0, none⟩)) := by rw [Lib.cell_of_heap h25.x]; rfl
            have cR25 : w25.cell? ⟨R, 1, none⟩ = some (.int .i64 k) := by rw [Lib.cell_of_heap h25.r]; rfl
            have hjb : k ≤ d ∧ d ≤ s.size := ⟨by omega, hdb.2⟩
            go_wp2_with fail
            go_quiet (fail)
            go_wp2
            go_ret2
            have e1 : nn = ((d : Nat) : Int) - k := by have h9 : _ = nn := HNN.out; have h8 : _ = N := HE.out; rw [← h9, ← h8]
            have e2 : er = 0 := by have h9 : _ = er := HER.out; have h8 : _ = N := HE.out; rw [← h9, ← h8]; rfl
            exact ⟨by rw [e1, e2]; rfl, below_drewN (HB0.out.trans (Kp.below (B := w.heap.size) ((((((k1).trans k17).trans k18).trans k19).trans k20).trans k25) (by have h9 : _ = _ := HZ0.out; omega) (by omega))) _⟩
        · obtain rfl : d = c + 1 := by omega
          have HE : Hid ((c + 1, false) = N) := by have h9 : _ = N := HF2.out; rw [if_pos rfl] at h9; exact h9
          go_wp2_with (go_at_call 102; refine (HD.out (c + 1) (c + 1) false _ h19 hlt HDD.out (decide_eq_false hcd)).mono ?_)
          rintro e w26 ⟨rfl, h26, k26⟩
          have cA26 : w26.cell? ⟨w.heap.size + 1, 0, none⟩ = some (.int .i64 (((c + 1) : Nat) : Int)) := by rw [Lib.cell_of_heap h26.a]; rfl
          have cX26 : w26.cell? ⟨w.heap.size, 0, none⟩ = some (.pointer (some ⟨R, 0, none⟩)) := by rw [Lib.cell_of_heap h26.x]; rfl
          have cR26 : w26.cell? ⟨R, 1, none⟩ = some (.int .i64 k) := by rw [Lib.cell_of_heap h26.r]; rfl
          have hjb : k ≤ (c + 1) ∧ (c + 1) ≤ s.size := ⟨by omega, hdb.2⟩
          go_wp2_with fail
          go_quiet (fail)
          go_wp2
          go_ret2
          have e1 : nn = (((c + 1) : Nat) : Int) - k := by have h9 : _ = nn := HNN.out; have h8 : _ = N := HE.out; rw [← h9, ← h8]
          have e2 : er = 143 := by have h9 : _ = er := HER.out; have h8 : _ = N := HE.out; rw [← h9, ← h8]; rfl
          exact ⟨by rw [e1, e2]; rfl, below_drewN (HB0.out.trans (Kp.below (B := w.heap.size) (((((k1).trans k17).trans k18).trans k19).trans k26) (by have h9 : _ = _ := HZ0.out; omega) (by omega))) _⟩
      · have HO2 := Lib.hid (fun w' (h : Js.NAt (w.heap.size + 1) w.heap.size R s k o b c w') => HO.out ⟨#[46]⟩ false c c w' h (by omega) ((Js.ix_one' 46 (UInt8.ofNat (Js.nx s c))).trans ((Js.u8_eq _ 46 (Js.nx_lt s _) (by omega)).trans (decide_eq_false hd))) (fun _ => rfl) rfl)
        have HT : Hid (Js.numX s c = N) := by have h9 : Js.numF s c = N := HF.out; unfold Js.numF at h9; rw [if_neg hd] at h9; exact h9
        clear hd
        go_wp2_with (go_at_call 103; refine (HO2.out _ h18).mono ?_)
        rintro e w27 ⟨rfl, h27, k27⟩
        by_cases hx : Js.nx s c = 101 ∨ Js.nx s c = 69
        · have hlt : c < s.size := Nat.lt_of_not_le fun hh => by rw [Js.nx_end s _ hh] at hx; omega
          have hxb : (decide (Js.nx s c = 101) || decide (Js.nx s c = 69)) = true := by rcases hx with h | h <;> simp [h]
          obtain ⟨f, hf⟩ : ∃ f, f = (if Js.nx s (c + 1) = 43 ∨ Js.nx s (c + 1) = 45 then c + 2 else c + 1) := ⟨_, rfl⟩
          have hfb : c + 1 ≤ f ∧ f ≤ s.size := by
            rw [hf]; split
            case isTrue h => exact ⟨by omega, Nat.lt_of_not_le fun hh => by rw [Js.nx_end s _ hh] at h; omega⟩
            · exact ⟨by omega, hlt⟩
          have HE : Hid ((Js.dg s f, Js.dg s f != f) = N) := by have h9 : Js.numX s c = N := HT.out; unfold Js.numX at h9; rw [if_pos hx, ← hf] at h9; exact h9
          have HO2 := Lib.hid (fun w' (h : Js.NAt (w.heap.size + 1) w.heap.size R s k o b c w') => HO.out ⟨#[101, 69]⟩ true c (c + 1) w' h (by omega) ((Js.ix_two (UInt8.ofNat (Js.nx s c)) 101 69).trans ((congr (congrArg or (Js.u8_eq _ 101 (Js.nx_lt s _) (by omega))) (Js.u8_eq _ 69 (Js.nx_lt s _) (by omega))).trans hxb)) (fun h => by rw [h] at hx; omega) rfl)
          have HO3 := Lib.hid (fun w' (h : Js.NAt (w.heap.size + 1) w.heap.size R s k o b (c + 1) w') => HO.out ⟨#[43, 45]⟩ (decide (Js.nx s (c + 1) = 43) || decide (Js.nx s (c + 1) = 45)) (c + 1) f w' h (by omega) ((Js.ix_two (UInt8.ofNat (Js.nx s (c + 1))) 43 45).trans ((congr (congrArg or (Js.u8_eq _ 43 (Js.nx_lt s _) (by omega))) (Js.u8_eq _ 45 (Js.nx_lt s _) (by omega))))) (fun h => by rw [h]; rfl) (by rw [hf]; by_cases h1 : Js.nx s (c + 1) = 43 <;> by_cases h2 : Js.nx s (c + 1) = 45 <;> simp [h1, h2]))
          clear hx hxb hf
          go_wp2_with (go_at_call 103; refine (HO2.out _ h27).mono ?_)
          rintro e w28 ⟨rfl, h28, k28⟩
          go_wp2_with (go_at_call 103; refine (HO3.out _ h28).mono ?_)
          rintro e w29 ⟨rfl, h29, k29⟩
          obtain ⟨g, hg⟩ : ∃ g, Js.dg s f = g := ⟨_, rfl⟩
          have hgb : f ≤ g ∧ g ≤ s.size := hg ▸ ⟨Js.dg_ge s f, Js.dg_le s f hfb.2⟩
          rw [hg] at HE
          have HG := Lib.hid hg
          clear hg
          by_cases hgf : f < g
          · have HE : Hid ((g, true) = N) := by have h9 : _ = N := HE.out; rw [← h9]; show _ = _; simp; omega
            go_wp2_with (go_at_call 102; refine (HD.out f g true _ h29 hfb.2 HG.out (decide_eq_true hgf)).mono ?_)
            rintro e w30 ⟨rfl, h30, k30⟩
            have cA30 : w30.cell? ⟨w.heap.size + 1, 0, none⟩ = some (.int .i64 ((g : Nat) : Int)) := by rw [Lib.cell_of_heap h30.a]; rfl
            have cX30 : w30.cell? ⟨w.heap.size, 0, none⟩ = some (.pointer (some ⟨R, 0, none⟩)) := by rw [Lib.cell_of_heap h30.x]; rfl
            have cR30 : w30.cell? ⟨R, 1, none⟩ = some (.int .i64 k) := by rw [Lib.cell_of_heap h30.r]; rfl
            have hjb : k ≤ g ∧ g ≤ s.size := ⟨by omega, hgb.2⟩
            go_wp2_with fail
            go_quiet (fail)
            go_wp2
            go_ret2
            have e1 : nn = ((g : Nat) : Int) - k := by have h9 : _ = nn := HNN.out; have h8 : _ = N := HE.out; rw [← h9, ← h8]
            have e2 : er = 0 := by have h9 : _ = er := HER.out; have h8 : _ = N := HE.out; rw [← h9, ← h8]; rfl
            exact ⟨by rw [e1, e2]; rfl, below_drewN (HB0.out.trans (Kp.below (B := w.heap.size) (((((((k1).trans k17).trans k18).trans k27).trans k28).trans k29).trans k30) (by have h9 : _ = _ := HZ0.out; omega) (by omega))) _⟩
          · obtain rfl : g = f := by omega
            have HE : Hid ((g, false) = N) := by have h9 : _ = N := HE.out; rw [← h9]; show _ = _; simp
            go_wp2_with (go_at_call 102; refine (HD.out g g false _ h29 hfb.2 HG.out (decide_eq_false hgf)).mono ?_)
            rintro e w31 ⟨rfl, h31, k31⟩
            have cA31 : w31.cell? ⟨w.heap.size + 1, 0, none⟩ = some (.int .i64 ((g : Nat) : Int)) := by rw [Lib.cell_of_heap h31.a]; rfl
            have cX31 : w31.cell? ⟨w.heap.size, 0, none⟩ = some (.pointer (some ⟨R, 0, none⟩)) := by rw [Lib.cell_of_heap h31.x]; rfl
            have cR31 : w31.cell? ⟨R, 1, none⟩ = some (.int .i64 k) := by rw [Lib.cell_of_heap h31.r]; rfl
            have hjb : k ≤ g ∧ g ≤ s.size := ⟨by omega, hgb.2⟩
            go_wp2_with fail
            go_quiet (fail)
            go_wp2
            go_ret2
            have e1 : nn = ((g : Nat) : Int) - k := by have h9 : _ = nn := HNN.out; have h8 : _ = N := HE.out; rw [← h9, ← h8]
            have e2 : er = 143 := by have h9 : _ = er := HER.out; have h8 : _ = N := HE.out; rw [← h9, ← h8]; rfl
            exact ⟨by rw [e1, e2]; rfl, below_drewN (HB0.out.trans (Kp.below (B := w.heap.size) (((((((k1).trans k17).trans k18).trans k27).trans k28).trans k29).trans k31) (by have h9 : _ = _ := HZ0.out; omega) (by omega))) _⟩
        · have hxb : (decide (Js.nx s c = 101) || decide (Js.nx s c = 69)) = false := by simp; omega
          have HE : Hid ((c, true) = N) := by have h9 : Js.numX s c = N := HT.out; unfold Js.numX at h9; rw [if_neg hx] at h9; exact h9
          have HO2 := Lib.hid (fun w' (h : Js.NAt (w.heap.size + 1) w.heap.size R s k o b c w') => HO.out ⟨#[101, 69]⟩ false c c w' h (by omega) ((Js.ix_two (UInt8.ofNat (Js.nx s c)) 101 69).trans ((congr (congrArg or (Js.u8_eq _ 101 (Js.nx_lt s _) (by omega))) (Js.u8_eq _ 69 (Js.nx_lt s _) (by omega))).trans hxb)) (fun _ => rfl) rfl)
          clear hx hxb
          go_wp2_with (go_at_call 103; refine (HO2.out _ h27).mono ?_)
          rintro e w32 ⟨rfl, h32, k32⟩
          have cA32 : w32.cell? ⟨w.heap.size + 1, 0, none⟩ = some (.int .i64 ((c : Nat) : Int)) := by rw [Lib.cell_of_heap h32.a]; rfl
          have cX32 : w32.cell? ⟨w.heap.size, 0, none⟩ = some (.pointer (some ⟨R, 0, none⟩)) := by rw [Lib.cell_of_heap h32.x]; rfl
          have cR32 : w32.cell? ⟨R, 1, none⟩ = some (.int .i64 k) := by rw [Lib.cell_of_heap h32.r]; rfl
          have hjb : k ≤ c ∧ c ≤ s.size := ⟨by omega, hcb.2⟩
          go_wp2_with fail
          go_quiet (fail)
          go_wp2
          go_ret2
          have e1 : nn = ((c : Nat) : Int) - k := by have h9 : _ = nn := HNN.out; have h8 : _ = N := HE.out; rw [← h9, ← h8]
          have e2 : er = 0 := by have h9 : _ = er := HER.out; have h8 : _ = N := HE.out; rw [← h9, ← h8]; rfl
          exact ⟨by rw [e1, e2]; rfl, below_drewN (HB0.out.trans (Kp.below (B := w.heap.size) (((((k1).trans k17).trans k18).trans k27).trans k32) (by have h9 : _ = _ := HZ0.out; omega) (by omega))) _⟩
    · obtain rfl : c = a := by omega
      have HE : Hid ((c, false) = N) := by have h9 : _ = N := HF2.out; rw [if_pos rfl] at h9; exact h9
      go_wp2_with (go_at_call 102; refine (HD.out c c false _ h17 hale.1 HC.out (decide_eq_false hac)).mono ?_)
      rintro e w33 ⟨rfl, h33, k33⟩
      have cA33 : w33.cell? ⟨w.heap.size + 1, 0, none⟩ = some (.int .i64 ((c : Nat) : Int)) := by rw [Lib.cell_of_heap h33.a]; rfl
      have cX33 : w33.cell? ⟨w.heap.size, 0, none⟩ = some (.pointer (some ⟨R, 0, none⟩)) := by rw [Lib.cell_of_heap h33.x]; rfl
      have cR33 : w33.cell? ⟨R, 1, none⟩ = some (.int .i64 k) := by rw [Lib.cell_of_heap h33.r]; rfl
      have hjb : k ≤ c ∧ c ≤ s.size := ⟨by omega, hcb.2⟩
      go_wp2_with fail
      go_quiet (fail)
      go_wp2
      go_ret2
      have e1 : nn = ((c : Nat) : Int) - k := by have h9 : _ = nn := HNN.out; have h8 : _ = N := HE.out; rw [← h9, ← h8]
      have e2 : er = 143 := by have h9 : _ = er := HER.out; have h8 : _ = N := HE.out; rw [← h9, ← h8]; rfl
      exact ⟨by rw [e1, e2]; rfl, below_drewN (HB0.out.trans (Kp.below (B := w.heap.size) (((k1).trans k17).trans k33) (by have h9 : _ = _ := HZ0.out; omega) (by omega))) _⟩
end Go.Proofs.YtmmijebekipdeaaDoor
