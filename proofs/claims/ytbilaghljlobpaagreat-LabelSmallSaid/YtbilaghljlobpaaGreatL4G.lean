/- Contracts of label: Get, Set, Merge. -/
import Derived.Test.YtbilaghljlobpaaGreatL4T
import Derived.BigQuiet
namespace Go.Proofs.YtbilaghljlobpaaGreat
open Go.RowKit Go.Maps

theorem Lab.get_cons (x : Lab.L) (r : List Lab.L) (n : ByteArray) : Lab.get (x :: r) n = if Lab.bs x.n = Lab.bs n then x.v else Lab.get r n := by
  unfold Lab.get
  rw [List.find?_cons]
  by_cases h : Lab.bs x.n = Lab.bs n
  · rw [if_pos h, beq_iff_eq.2 h]
  · rw [if_neg h, beq_eq_false_iff_ne.2 h]
theorem Lab.get_drop (ls : List Lab.L) (n : ByteArray) (k : Nat) (h : k < ls.length) : Lab.get (ls.drop k) n = if Lab.bs ls[k].n = Lab.bs n then ls[k].v else Lab.get (ls.drop (k + 1)) n := by
  rw [List.drop_eq_getElem_cons h, Lab.get_cons]

set_option maxHeartbeats 1600000 in
set_option maxRecDepth 100000 in
theorem lget_is (p : Option Addr) (ls : List Lab.L) (n c : Nat) (name r : ByteArray) (h : Lab.get ls name = r) (w : World) (hn : ls.length = n) (hA : Lab.At p ls w) (hl : n ≤ 100000) :
    Calls Tryz.prog 22 #[.slice p n c, .string name] w fun e w' => e = .returned (.string r) ∧ Below w.heap.size w w' := by
  have HN := Lib.hid hn
  have HD := Lib.hid (fun k h => Lab.get_drop ls name k h)
  have H0 : Hid (Lab.get (ls.drop 0) name = r) := h
  have HA := Lib.hid hA
  clear hn h hA
  go_enter Tryz.func22, Tryz.ntmps22
  go_wp2_with fail
  go_loopw [9] (fun i wr => ∃ k : Nat, k ≤ n ∧ i = .int .i64 (k : Int) ∧ Hid (Lab.get (ls.drop k) name = r) ∧ Below w.heap.size w wr) (fun i _ => n - (intOf i).toNat)
  case atStart => exact ⟨0, Nat.zero_le _, rfl, H0, Below.refl _ _⟩
  case round =>
    obtain ⟨k, hk, rfl, HK, hb⟩ := hrel
    by_cases hlt : k < n
    · have hkl : k < ls.length := by rw [HN.out]; exact hlt
      obtain ⟨b, o, rfl, hc⟩ := (HA.out.below hb (Nat.le_refl _)).open k hkl
      have hst := HK.out
      rw [HD.out k hkl] at hst
      obtain ⟨x, hx⟩ : ∃ x, ls[k] = x := ⟨_, rfl⟩
      have c0 := (hc k hkl).1
      have c1 := (hc k hkl).2
      rw [hx] at c0 c1 hst
      have hbx : b < wr.heap.size := World.block_lt_of_cell? _ _ c0
      obtain ⟨bq, hbq⟩ : ∃ bq, decide (Lab.bs x.n = Lab.bs name) = bq := ⟨_, rfl⟩
      have q1 : (x.n.toList == name.toList) = bq := by rw [← hbq]; exact Lab.bytes_beq _ _
      have n1 : (0 : Int) ≤ (k : Int) := by omega
      have n2 : (k : Int) < (n : Int) := by omega
      have hb2 := hb.alloc hb.size (.cells #[.string x.n, .string x.v] 31)
      clear hx hc HK
      cases bq
      · rw [if_neg (of_decide_eq_false hbq)] at hst
        have HG := Lib.hid hst
        clear hst hbq
        go_wp2_with fail
        go_roundw
        case rel => exact ⟨k + 1, by omega, by go_num, HG, hb2⟩
        case measure => simp [intOf]; omega
      · rw [if_pos (of_decide_eq_true hbq)] at hst
        subst hst
        clear hbq
        go_wp2_with fail
        go_ret
        exact ⟨rfl, hb2⟩
    · have hst := HK.out
      rw [List.drop_eq_nil_iff.2 (by rw [HN.out]; omega)] at hst
      have n2 : (n : Int) ≤ (k : Int) := by omega
      subst hst
      clear HK H0
      go_wp2_with fail
      go_ret
      exact ⟨rfl, hb⟩

def Lab.tabL (l e : List Lab.L) : List Lab.L := Lab.srt (Lab.puts (Lab.puts [] l) e)
def Lab.cut64 (l : List Lab.L) : List Lab.L × Int := if 64 < l.length then ([], 5) else (l, 0)
def Lab.set (l e : List Lab.L) : List Lab.L × Int := if Lab.right l = true then (if Lab.oneAll e = 0 then Lab.cut64 (Lab.tabL l e) else ([], Lab.oneAll e)) else ([], 44)
theorem Lab.tabL_length (l e : List Lab.L) : (Lab.tabL l e).length ≤ l.length + e.length := by
  unfold Lab.tabL
  rw [Lab.srt_length]
  have h1 := Lab.puts_length e (Lab.puts [] l)
  have h2 := Lab.puts_length l []
  rw [List.length_nil] at h2
  omega
theorem Lab.size_le (x : Lab.L) (h : Lab.one x = 0) : x.n.size ≤ 1000000 ∧ x.v.size ≤ 1000000 := by
  unfold Lab.one at h
  split at h
  · rename_i h1
    split at h
    · rename_i h2
      unfold Lab.named at h1
      unfold Lab.value at h2
      simp only [Bool.and_eq_true, decide_eq_true_eq] at h1 h2
      have e1 : (Lab.bs x.n).length = x.n.size := Array.length_toList
      have e2 : (Lab.bs x.v).length = x.v.size := Array.length_toList
      omega
    · simp at h
  · simp at h

set_option maxHeartbeats 3200000 in
set_option maxRecDepth 100000 in
theorem lset_is (p q : Option Addr) (ls es : List Lab.L) (n c n2 c2 : Nat) (r : List Lab.L) (er : Int) (h : Lab.set ls es = (r, er)) (w : World) (hn : ls.length = n) (hn2 : es.length = n2) (hA : Lab.At p ls w) (hB : Lab.At q es w) (hF : Lab.Fit maxLen ls) (hF2 : Lab.Fit maxLen es) (hl : n ≤ 10000) (hl2 : n2 ≤ 10000) :
    Calls Tryz.prog 33 #[.slice p n c, .slice q n2 c2] w fun e w' => (∃ v, e = .returned (.tuple #[v, .int .i64 er]) ∧ OwnLabels w.heap.size v r w') ∧ Below w.heap.size w w' := by
  obtain ⟨rt, hrt⟩ : ∃ rt, Lab.right ls = rt := ⟨_, rfl⟩
  have HRT := Lib.hid (right_is p ls n c rt hrt w hn hA hF (by unfold maxLen; omega))
  have HN := Lib.hid hn
  have HN2 := Lib.hid hn2
  have HA := Lib.hid hA
  have HB := Lib.hid hB
  have HF2 := Lib.hid hF2
  unfold Lab.set at h
  cases rt
  · rw [if_neg (by rw [hrt]; simp)] at h
    simp only [Prod.mk.injEq] at h
    obtain ⟨rfl, rfl⟩ := h
    clear hrt hn hn2 hA hB hF hF2
    go_enter Tryz.func33, Tryz.ntmps33
    go_wp2_with (go_at_call 20; refine HRT.out.mono ?_)
    first | rintro e w1 rfl hb1 | rintro e w1 ⟨rfl, hb1⟩
    go_wp2_with fail
    go_ret2
    exact ⟨⟨_, rfl, OwnLabels.nil _ _⟩, hb1⟩
  rw [if_pos hrt] at h
  have hfl : Lab.Fit 1000000 ls := fun x hx => Lab.size_le x ((Lab.right_parts ls hrt).2 x hx)
  obtain ⟨e1, he1⟩ : ∃ e1, Lab.oneAll es = e1 := ⟨_, rfl⟩
  have H0 : Hid (Lab.oneAll (es.drop 0) = e1) := he1
  have HE0 : Hid (e1 = 0 → Lab.Fit 1000000 es) := by
    show e1 = 0 → _
    intro h0 x hx
    exact Lab.size_le x (Lab.oneAll_one es (he1.trans h0) x hx)
  rw [he1] at h
  have HH := Lib.hid h
  have HFL := Lib.hid hfl
  have hmm := @run_makeMap Tryz.prog
  clear hrt hn hn2 hA hB hF hF2 he1 h hfl
  go_enter Tryz.func33, Tryz.ntmps33
  go_wp2_with (go_at_call 20; refine HRT.out.mono ?_)
  first | rintro e w1 rfl hb1 | rintro e w1 ⟨rfl, hb1⟩
  clear HRT
  go_wp2_with fail
  go_loopw [15] (fun i wr => ∃ k : Nat, k ≤ n2 ∧ i = .int .i64 (k : Int) ∧ Hid (Lab.oneAll (es.drop k) = e1) ∧ Below w.heap.size w wr) (fun i _ => n2 - (intOf i).toNat)
  case atStart => exact ⟨0, Nat.zero_le _, rfl, H0, hb1⟩
  case round =>
    obtain ⟨k, hk, rfl, HK, hb⟩ := hrel
    have hsz := hb.size
    by_cases hlt : k < n2
    · have hkl : k < es.length := by rw [HN2.out]; exact hlt
      obtain ⟨b, o, rfl, hc⟩ := (HB.out.below hb (Nat.le_refl _)).open k hkl
      have hst := HK.out
      rw [Lab.oneAll_drop es k hkl] at hst
      obtain ⟨x, hx⟩ : ∃ x, es[k] = x := ⟨_, rfl⟩
      have hfx := HF2.out x (by rw [← hx]; exact List.getElem_mem _)
      have c0 := (hc k hkl).1
      have c1 := (hc k hkl).2
      rw [hx] at c0 c1 hst
      have hbx : b < wr.heap.size := World.block_lt_of_cell? _ _ c0
      obtain ⟨e0, he0⟩ : ∃ e0, Lab.one x = e0 := ⟨_, rfl⟩
      have HE := Lib.hid (fun w => one_is x e0 he0 w hfx.1 hfx.2)
      rw [he0] at hst
      have n1 : (0 : Int) ≤ (k : Int) := by omega
      have n3 : (k : Int) < (n2 : Int) := by omega
      clear hx hc he0 hfx HK
      by_cases h0 : e0 = 0
      · subst h0
        rw [if_pos rfl] at hst
        have HG := Lib.hid hst
        clear hst
        go_wp2_with (go_at_call 50; refine (HE.out _).mono ?_)
        first | rintro e w2 rfl hb2 | rintro e w2 ⟨rfl, hb2⟩
        have hb3 : Below w.heap.size w w2 := (hb.alloc hsz _).trans (hb2.mono (by simp; omega))
        go_wp2_with fail
        go_roundw
        case rel => exact ⟨k + 1, by omega, by go_num, HG, hb3⟩
        case measure => simp [intOf]; omega
      · rw [if_neg h0] at hst
        subst hst
        have hh := HH.out
        rw [if_neg h0] at hh
        simp only [Prod.mk.injEq] at hh
        obtain ⟨rfl, rfl⟩ := hh
        have q1 : (e0 != 0) = true := by simpa using h0
        clear h0 HH
        go_wp2_with (go_at_call 50; refine (HE.out _).mono ?_)
        first | rintro e w2 rfl hb2 | rintro e w2 ⟨rfl, hb2⟩
        have hb3 : Below w.heap.size w w2 := (hb.alloc hsz _).trans (hb2.mono (by simp; omega))
        go_wp2_with fail
        go_ret2
        exact ⟨⟨_, rfl, OwnLabels.nil _ _⟩, hb3⟩
    · have he : e1 = 0 := by
        rw [← HK.out, List.drop_eq_nil_iff.2 (by rw [HN2.out]; omega)]; rfl
      have hfe := HE0.out he
      have hh := HH.out
      rw [if_pos he] at hh
      have n3 : (n2 : Int) ≤ (k : Int) := by omega
      obtain ⟨R, hR⟩ : ∃ R, Lab.tabL ls es = R := ⟨_, rfl⟩
      have hRl := Lab.tabL_length ls es
      rw [hR, HN.out, HN2.out] at hRl
      rw [hR] at hh
      have HHH := Lib.hid hh
      have HR := Lib.hid hR
      have hmade := World.ownsMap_made (H := Unit) wr Tryz.prog 9 Lab.elem
      have hbm : Below w.heap.size w (wr.alloc (.map #[] 0)) := hb.alloc hb.size _
      have hT0 : Lab.Tab wr.heap.size 0 [] (wr.alloc (.map #[] 0)) := ⟨_, hmade, Lab.MapIs.empty⟩
      have P1 := Lib.hid (put_is w wr.heap.size 0 [] p ls n c (wr.alloc (.map #[] 0)) HN.out HA.out HFL.out (by omega) (by omega) hbm hsz (by simp) hT0)
      clear hR hh he HK HH hmade hT0 H0 HE0
      go_wp2_with (go_at_call 72; refine P1.out.mono ?_)
      first | rintro e w2 rfl nn1 hnn1 hT1 hs2 hb2 | rintro e w2 ⟨rfl, ⟨nn1, hnn1, hT1⟩, hs2, hb2⟩
      simp only [World.size_alloc] at hs2
      have P2 := Lib.hid (put_is w wr.heap.size nn1 (Lab.puts [] ls) q es n2 c2 w2 HN2.out HB.out hfe (by omega) (by omega) hb2 hsz (by omega) hT1)
      clear P1 hT1 hfe
      go_wp2_with (go_at_call 72; refine P2.out.mono ?_)
      first | rintro e w3 rfl nn2 hnn2 hT2 hs3 hb3 | rintro e w3 ⟨rfl, ⟨nn2, hnn2, hT2⟩, hs3, hb3⟩
      have hpl : (Lab.puts (Lab.puts [] ls) es).length ≤ 100000 := by
        have h1 := Lab.puts_length es (Lab.puts [] ls)
        have h2 := Lab.puts_length ls []
        rw [List.length_nil, HN.out] at h2
        rw [HN2.out] at h1
        omega
      have P3 := Lib.hid (labels_is wr.heap.size nn2 _ R HR.out w3 hpl (by omega) hT2)
      clear P2 hT2 hpl
      go_wp2_with (go_at_call 73; refine P3.out.mono ?_)
      first | rintro e w4 u rfl hu hb4 | rintro e w4 ⟨⟨u, rfl, hu⟩, hb4⟩
      obtain ⟨pu, cu, rfl, _⟩ := OwnLabels.open hu
      have hb5 : Below w.heap.size w w4 := hb3.trans (hb4.mono hb3.size)
      obtain ⟨N, hN⟩ : ∃ N, R.length = N := ⟨_, rfl⟩
      rw [hN] at hRl hu ⊢
      have HU := Lib.hid (row_lift hu hb3.size)
      have hhh := HHH.out
      unfold Lab.cut64 at hhh
      rw [hN] at hhh
      have HBD := Lib.hid (fun w => bound_is pu N cu w (by omega))
      clear P3 hu hb4 hN
      by_cases h64 : 64 < N
      · rw [if_pos h64] at hhh HBD
        simp only [Prod.mk.injEq] at hhh
        obtain ⟨rfl, rfl⟩ := hhh
        go_wp2_with (go_at_call 56; refine (HBD.out _).mono ?_)
        try rintro _ _ ⟨rfl, rfl⟩
        go_wp2_with fail
        go_ret2
        exact ⟨⟨_, rfl, OwnLabels.nil _ _⟩, hb5⟩
      · rw [if_neg h64] at hhh HBD
        simp only [Prod.mk.injEq] at hhh
        obtain ⟨rfl, rfl⟩ := hhh
        go_wp2_with (go_at_call 56; refine (HBD.out _).mono ?_)
        try rintro _ _ ⟨rfl, rfl⟩
        go_wp2_with fail
        go_ret2
        exact ⟨⟨_, rfl, HU.out⟩, hb5⟩
end Go.Proofs.YtbilaghljlobpaaGreat
