/- The walk of CanonFirst: the law returns true for every input. -/
import Derived.Test.YthnaninhbofeoaaDoorSortT
import Derived.Test.YthnaninhbofeoaaDoorSame
import Derived.Test.YthnaninhbofeoaaDoorAwk
import Derived.Test.YthnaninhbofeoaaDoorCanRow
import Derived.BigQuiet
import Derived.Deep.RegionHeld3
namespace Go.Proofs.YthnaninhbofeoaaDoor
open Go.RowKit

set_option maxHeartbeats 800000 in
theorem keys_none (w : World) :
    Calls Tryd.prog 40 #[.slice none 0 0] w fun e w' => e = .returned (.tuple #[.slice none 0 0, .int .i64 0]) ∧ Below w.heap.size w w' := by
  go_enter Tryd.func40, Tryd.ntmps40
  go_wp2_with fail
  go_loopw [4, 11] (fun v i wr => v = .slice none 0 0 ∧ i = .int .i64 0 ∧ Below w.heap.size w wr) (fun _ i _ => 0)
  case atStart => exact ⟨rfl, rfl, Below.refl _ _⟩
  case round =>
    obtain ⟨rfl, rfl, hb⟩ := hrel
    go_wp2_with fail
    go_ret2
    exact ⟨rfl, hb⟩
set_option maxHeartbeats 800000 in
theorem first_none (w : World) :
    Calls Tryd.prog 12 #[.slice none 0 0] w fun e w' => e = .returned (.tuple #[.slice none 0 0, .int .i64 0]) ∧ Below w.heap.size w w' := by
  have HK := Lib.hid (keys_none w)
  go_enter Tryd.func12, Tryd.ntmps12
  go_wp2_with (go_at_call 40; refine HK.out.mono ?_)
  first | rintro e w1 rfl hb1 | rintro e w1 ⟨rfl, hb1⟩
  have hmm := @run_makeMap Tryd.prog
  have hs1 := hb1.size
  go_wp2_with fail
  go_loopw [7, 23] (fun u i wr => u = .slice none 0 0 ∧ i = .int .i64 0 ∧ Below w.heap.size w wr) (fun _ i _ => 0)
  case atStart => exact ⟨rfl, rfl, hb1.alloc hs1 _⟩
  case round =>
    obtain ⟨rfl, rfl, hb⟩ := hrel
    go_wp2_with fail
    go_ret2
    exact ⟨rfl, hb⟩
set_option maxHeartbeats 800000 in
theorem sort_none (w : World) :
    Calls Tryd.prog 13 #[.slice none 0 0] w fun e w' => e = .returned (.tuple #[.slice none 0 0, .int .i64 0]) ∧ Below w.heap.size w w' := by
  have HK := Lib.hid (keys_none w)
  have HF := Lib.hid (fun w => first_none w)
  have HS := Lib.hid (fun fv w => show Calls Tryd.prog 41 #[.slice none 0 0, fv] w (fun e w' => e = .returned (.tuple #[]) ∧ w' = w) from AnyF.slices_SortFunc_none { Tryd.sortI with } none 0 fv w)
  go_enter Tryd.func13, Tryd.ntmps13
  go_wp2_with (go_at_call 40; refine HK.out.mono ?_)
  first | rintro e w1 rfl hb1 | rintro e w1 ⟨rfl, hb1⟩
  have hs1 := hb1.size
  go_wp2_with (go_at_call 12; refine (HF.out _).mono ?_)
  first | rintro e w2 rfl hb2 | rintro e w2 ⟨rfl, hb2⟩
  have hB2 : Below w.heap.size w w2 := (hb1.alloc hs1 _).trans (hb2.mono (by simp; omega))
  go_wp2_with (go_at_call 41; refine (HS.out _ _).mono ?_)
  first | rintro e w3 rfl rfl | rintro e w3 ⟨rfl, rfl⟩
  go_wp2_with fail
  go_loopw [7, 31] (fun u i wr => u = .slice none 0 0 ∧ i = .int .i64 0 ∧ Below w.heap.size w wr) (fun _ i _ => 0)
  case atStart => exact ⟨rfl, rfl, hB2⟩
  case round =>
    obtain ⟨rfl, rfl, hb⟩ := hrel
    go_wp2_with fail
    go_ret2
    exact ⟨rfl, hb⟩

/-- a target's key -/
def Can.kb (t : Can.T) : ByteArray := ByteArray.mk (Lab.bs t.job ++ [254] ++ Can.raw t.ls).toArray
theorem Can.kb_bs (t : Can.T) : Lab.bs (Can.kb t) = Lab.bs t.job ++ [254] ++ Can.raw t.ls := rfl
/-- what all makes is right -/
def Can.Fine (t : Can.T) : Prop := t.ls.length = t.n ∧ Can.job (Lab.bs t.job) = true ∧ Lab.right t.ls = true
theorem Can.fine_of (ts : List Can.T) (zs : List Lab.St) (h : ts.map Can.jl = zs.map Lab.St.jl) (hl : ∀ t ∈ ts, t.ls.length = t.n) : ∀ t ∈ ts, Can.Fine t := by
  intro t ht
  have h1 : Can.jl t ∈ zs.map Lab.St.jl := by rw [← h]; exact List.mem_map.2 ⟨t, ht, rfl⟩
  obtain ⟨z, _, e⟩ := List.mem_map.1 h1
  unfold Can.jl Lab.St.jl at e
  simp only [Prod.mk.injEq] at e
  refine ⟨hl t ht, ?_, ?_⟩
  · rw [← e.1]
    exact Lab.job_ok _ (Nat.mod_lt _ (by omega))
  · rw [← e.2]
    exact Lab.tl_right _
theorem Can.fine_ok (t : Can.T) (h : Can.Fine t) : Can.TOk t (Can.kb t) := by
  obtain ⟨h1, h2, h3⟩ := h
  obtain ⟨f1, f2⟩ := Lab.right_fit t.ls h3
  have := Can.job_size t.job h2
  exact ⟨h1, by omega, f1, by omega, h2, _, Can.bytes_right t.ls h3, rfl⟩
theorem Can.kb_size (t : Can.T) (h : Can.Fine t) : (Can.kb t).size ≤ 1000000 := by
  obtain ⟨h1, h2, h3⟩ := h
  have e1 := Can.job_size t.job h2
  have e2 := Can.raw_bound t.ls h3
  have : (Can.kb t).size = (Lab.bs t.job ++ [254] ++ Can.raw t.ls).length := by rw [← Can.kb_bs]; exact Array.length_toList.symm
  have e : (Lab.bs t.job).length = t.job.size := Array.length_toList
  rw [this, List.length_append, List.length_append, e]
  simp only [List.length_cons, List.length_nil]
  omega
theorem Can.kb_inj (t u : Can.T) (ht : Can.Fine t) (hu : Can.Fine u) : Lab.bs (Can.kb t) = Lab.bs (Can.kb u) ↔ (t.job = u.job ∧ t.ls = u.ls) := by
  rw [Can.kb_bs, Can.kb_bs]
  exact ⟨fun h => Can.key_inj _ _ _ _ ht.2.1 hu.2.1 ht.2.2 hu.2.2 h, fun h => by rw [h.1, h.2]⟩
end Go.Proofs.YthnaninhbofeoaaDoor
namespace Go.Proofs.YthnaninhbofeoaaDoor
open Go.RowKit

theorem chainB {B : Nat} {W w1 w2 : World} (h : Below B W w1) (hB : B ≤ W.heap.size) (k : Below w1.heap.size w1 w2) : Below B W w2 := h.trans (k.mono (Nat.le_trans hB h.size))
theorem Can.count_next (fs : List Nat) (p : Nat → Bool) (k : Nat) (hk : k < fs.length) : (fs.take (k + 1)).countP p = (fs.take k).countP p + (if p fs[k] = true then 1 else 0) := by
  rw [List.take_add_one, List.getElem?_eq_getElem hk, List.countP_append]
  show _ + List.countP p [fs[k]] = _
  rw [List.countP_singleton]

set_option maxHeartbeats 6400000 in
set_option maxRecDepth 100000 in
/-- the loops of the law, over the targets at an address -/
theorem walk_CanonFirst (a0 : Option Addr) (zs : List Lab.St) (n c : Nat) (m : Int) (w : World) (hn : zs.length = n) (hA : Lab.StAt a0 zs w) (hF : ∀ z ∈ zs, Lab.StFit z) (hlc : n ≤ c) (_hmax : c ≤ maxLen) (hm : w.cell? ⟨0, 0, none⟩ = some (.int .i64 m)) :
    Calls Tryd.prog 5 #[.slice a0 n c] w fun e w' => e = .returned (.bool true) ∧ Below w.heap.size w w' := by
  have HW := Lib.hid (awake_true m w hm)
  have HALL := Lib.hid (fun w hA => all_is a0 zs n c w hn hA hF hlc)
  clear hn hF hm
  go_enter Tryd.func5, Tryd.ntmps5
  go_wp2_with (go_at_call 9; refine HW.out.mono ?_)
  first | rintro e w1 rfl hb1 | rintro e w1 ⟨rfl, hb1⟩
  have hA1 := hA.below hb1 (Nat.le_refl _)
  go_wp2_with (go_at_call 11; refine (HALL.out _ hA1).mono ?_)
  first | rintro e w2 v ts rfl hv hts hb2 | rintro e w2 ⟨⟨v, ts, rfl, hv, hts⟩, hb2⟩
  have hB2 := below_next hb1 hb2
  have hfine := Can.fine_of ts _ hts (fun t ht => (hv.2 t ht).1)
  have hlen : ts.length ≤ 12 := by
    have := congrArg List.length hts
    rw [List.length_map, List.length_map, List.length_take] at this
    omega
  clear hts hA1 hA HALL HW hb1 hb2
  rcases hv.open with ⟨rfl, hnil⟩ | ⟨b, cb, rfl, hbB, hb0, hlcb, hcm, hT⟩
  · have F0 := Lib.hid (fun w => first_none w)
    have S0 := Lib.hid (fun w => sort_none w)
    go_wp2_with (go_at_call 12; refine (F0.out _).mono ?_)
    first | rintro e w3 rfl hb3 | rintro e w3 ⟨rfl, hb3⟩
    have hB3 := below_next hB2 hb3
    go_wp2_with (go_at_call 13; refine (S0.out _).mono ?_)
    first | rintro e w4 rfl hb4 | rintro e w4 ⟨rfl, hb4⟩
    have hB4 := below_next hB3 hb4
    go_wp2_with fail
    go_loopw [48] (fun i wr => i = .int .i64 0 ∧ Below w.heap.size w wr) (fun i _ => 0)
    case atStart => exact ⟨rfl, hB4⟩
    case round =>
      obtain ⟨rfl, hb⟩ := hrel
      go_wp2_with fail
      go_ret
      exact ⟨rfl, hb⟩
  obtain ⟨ks, hks⟩ : ∃ ks, ts.map Can.kb = ks := ⟨_, rfl⟩
  have hkl : ks.length = ts.length := by rw [← hks, List.length_map]
  have hkg : ∀ i (h1 : i < ts.length) (h2 : i < ks.length), ks[i] = Can.kb ts[i] := fun i h1 h2 => by simp [← hks]
  have hok : ∀ i (h1 : i < ts.length) (h2 : i < ks.length), Can.TOk ts[i] ks[i] := fun i h1 h2 => by rw [hkg i h1 h2]; exact Can.fine_ok _ (hfine _ (List.getElem_mem _))
  have hsz0 : ∀ x ∈ ks, x.size ≤ 1000000 := fun x hx => by
    rw [← hks, List.mem_map] at hx
    obtain ⟨t, ht, rfl⟩ := hx
    exact Can.kb_size t (hfine t ht)
  have HFI := Lib.hid (fun w hb0 hT => first_ok b 0 cb ts ks ts.length w hb0 rfl hkl hT hok (by omega) hsz0 _ rfl)
  have hseen := (Can.seen_is ks ts.length (by omega)).1
  rw [hseen] at HFI
  have HSO := Lib.hid (fun w hb0 hT => csort_is b 0 cb ts ks ts.length w hb0 rfl hkl hT hok (by omega) hsz0)
  have hml : (ks.map Lab.bs).length = ts.length := by rw [List.length_map, hkl]
  have hme : ∀ i (h1 : i < ts.length) (h2 : i < (ks.map Lab.bs).length), (ks.map Lab.bs)[i] = Lab.bs (Can.kb ts[i]) := fun i h1 h2 => by
    rw [List.getElem_map, hkg i h1 (by omega)]
  have hfm : ∀ i ∈ Can.firsts (ks.map Lab.bs) ts.length, i < ts.length := fun i hi => ((Can.firsts_mem _ _ i).1 hi).1
  have hfasc := Can.firsts_asc (ks.map Lab.bs) ts.length
  have hfsome := Can.firsts_some (ks.map Lab.bs) ts.length hml.symm
  have hfcount := Can.firsts_count (ks.map Lab.bs) ts.length hml.symm
  have hfone := Can.firsts_one (ks.map Lab.bs) ts.length
  have hfl := Can.firsts_length (ks.map Lab.bs) ts.length
  obtain ⟨kk, hkk⟩ : ∃ kk, ks.map Lab.bs = kk := ⟨_, rfl⟩
  rw [hkk] at HFI HSO hml hme hfm hfasc hfsome hfcount hfone hfl
  obtain ⟨N, hN⟩ : ∃ N, ts.length = N := ⟨_, rfl⟩
  rw [hN] at HFI HSO hml hfm hfasc hfsome hfcount hfone hfl hlen hlcb ⊢
  obtain ⟨fs, hfs⟩ : ∃ fs, Can.firsts kk N = fs := ⟨_, rfl⟩
  rw [hfs] at HFI HSO hfm hfasc hfsome hfcount hfone hfl
  -- what is asked of two targets
  have HEQ : Hid (∀ i j (hi : i < ts.length) (hj : j < ts.length), (kk.getD i [] == kk.getD j []) = true ↔ (ts[i].job = ts[j].job ∧ ts[i].ls = ts[j].ls)) := by
    show ∀ i j (hi : i < ts.length) (hj : j < ts.length), _
    intro i j hi hj
    rw [← Can.kb_inj _ _ (hfine _ (List.getElem_mem hi)) (hfine _ (List.getElem_mem hj))]
    have e1 : kk.getD i [] = Lab.bs (Can.kb ts[i]) := by
      rw [← hme i hi (by omega)]
      simp [List.getD, List.getElem?_eq_getElem (show i < kk.length by omega)]
    have e2 : kk.getD j [] = Lab.bs (Can.kb ts[j]) := by
      rw [← hme j hj (by omega)]
      simp [List.getD, List.getElem?_eq_getElem (show j < kk.length by omega)]
    rw [e1, e2, beq_iff_eq]
  have HCNT : Hid (∀ i, i < N → fs.countP (fun j => kk.getD j [] == kk.getD i []) = 1) := by
    show ∀ i, _
    intro i hi
    have := hfcount i (by omega)
    have e : kk.getD i [] = kk[i] := by simp [List.getD, List.getElem?_eq_getElem (show i < kk.length by omega)]
    rw [e]
    exact this
  have HFST : Hid (∀ i a, i < N → a ∈ fs → (kk.getD a [] == kk.getD i []) = true → a ≤ i) := by
    show ∀ i a, _
    intro i a hi ha he
    obtain ⟨j, hj, h1, h2, h3⟩ := hfsome i (by omega)
    have ha2 := hfm a ha
    have e1 : kk.getD a [] = kk[a] := by simp [List.getD, List.getElem?_eq_getElem (show a < kk.length by omega)]
    have e2 : kk.getD i [] = kk[i] := by simp [List.getD, List.getElem?_eq_getElem (show i < kk.length by omega)]
    rw [e1, e2, beq_iff_eq] at he
    have := hfone a j ha h1 (by omega) hj (he.trans h3.symm)
    omega
  have HFM := Lib.hid hfm
  have HASC : Hid (∀ k (h1 : k + 1 < fs.length), fs[k] < fs[k + 1]) := fun k h1 => (List.pairwise_iff_getElem.1 hfasc) k (k + 1) (by omega) h1 (by omega)
  have HTS := Lib.hid hN
  have HT := Lib.hid hT
  have HFN := Lib.hid (fun i (hi : i < ts.length) => hfine ts[i] (List.getElem_mem hi))
  have HV := Lib.hid hv
  clear hfine hks hkl hkg hok hsz0 hseen hml hme hfasc hfsome hfcount hfone hkk hfs hfm hv hN hT
  go_wp2_with (go_at_call 12; refine (HFI.out _ hb0 HT.out).mono ?_)
  first | rintro e w3 v3 rfl hv3 hb3 | rintro e w3 ⟨⟨v3, rfl, hv3⟩, hb3⟩
  obtain ⟨p3, c3, e3, hl3, hc3⟩ := OwnInts.form hv3
  rw [List.length_map] at e3 hl3
  subst e3
  have hT3 := HT.out.belowT hb3 (Nat.le_refl _)
  have hB3 := below_next hB2 hb3
  have hb03 : b < w3.heap.size := Nat.lt_of_lt_of_le hb0 hb3.size
  go_wp2_with (go_at_call 13; refine (HSO.out _ hb03 hT3).mono ?_)
  first | rintro e w4 v4 r d rfl hp _ hr hv4 hb4 | rintro e w4 ⟨⟨v4, r, d, rfl, hp, _, hr, hv4⟩, hb4⟩
  have hrl : r.length = fs.length := by
    have := congrArg List.length hr
    rw [List.length_map, List.length_map] at this
    rw [this]
    exact hp.length_eq
  obtain ⟨p4, c4, e4⟩ : ∃ p4 c4, v4 = .slice p4 r.length c4 := by
    rcases hv4.open with ⟨rfl, hx⟩ | ⟨g4, c4, rfl, _⟩
    · exact ⟨none, 0, by rw [hx]; rfl⟩
    · exact ⟨_, c4, rfl⟩
  subst e4
  have hT4 := hT3.belowT hb4 (Nat.le_refl _)
  have hB4 := below_next hB3 hb4
  have HT4 := Lib.hid hT4
  have HC4 : Hid (∀ k (hk : k < fs.length), ∃ g, p3 = some ⟨g, 0, none⟩ ∧ w4.cell? ⟨g, k, none⟩ = some (.int .i64 ((fs[k] : Nat) : Int))) := fun k hk => by
    obtain ⟨g, h1, h2⟩ := hc3 k (by rw [List.length_map]; exact hk)
    exact ⟨g, h1, cell_later hb4 (by simpa using h2) (Nat.le_refl _)⟩
  have hb04 : b < w4.heap.size := Nat.lt_of_lt_of_le hb03 hb4.size
  obtain ⟨L, hL⟩ : ∃ L, fs.length = L := ⟨_, rfl⟩
  rw [hrl, hL]
  rw [hL] at hfl hl3
  have HL := Lib.hid hL
  clear hp hr hv4 hrl hv3 hc3 hT3 hT4 hb3 hb4 HFI HSO HT HV hB3 hB2 hb0 hb03 hL
  go_wp2_with fail
  go_loopw [48] (fun i wr => ∃ k : Nat, k ≤ N ∧ i = .int .i64 k ∧ Below w4.heap.size w4 wr) (fun i _ => N - (intOf i).toNat)
  case atStart => exact ⟨0, Nat.zero_le _, rfl, Below.refl _ _⟩
  case round =>
    obtain ⟨i, hi, rfl, hb⟩ := hrel
    have hsz := hb.size
    by_cases hlt : i < N
    · have hit : i < ts.length := by rw [HTS.out]; exact hlt
      obtain ⟨x0, x1, x2⟩ := HT4.out i hit
      have x0r := cell_later hb x0 (Nat.le_refl _)
      have x1r := cell_later hb x1 (Nat.le_refl _)
      obtain ⟨q1, _, q3⟩ := HFN.out i hit
      obtain ⟨q4, q5⟩ := Lab.right_fit _ q3
      have HQ : Hid (∀ j (hj : j < ts.length), (kk.getD j [] == kk.getD i []) = true ↔ (ts[j].job = ts[i].job ∧ ts[j].ls = ts[i].ls)) := fun j hj => HEQ.out j i hj hit
      obtain ⟨t, ht⟩ : ∃ t, ts[i] = t := ⟨_, rfl⟩
      rw [ht] at x0 x1 x2 x0r x1r q1 q3 q4 q5
      have HQ2 : Hid (∀ j (hj : j < ts.length), (kk.getD j [] == kk.getD i []) = true ↔ (ts[j].job = t.job ∧ ts[j].ls = t.ls)) := fun j hj => by
        have := HQ.out j hj
        rw [ht] at this
        exact this
      obtain ⟨tj, tp, tn, tc, tl⟩ := t
      dsimp only at x0 x1 x2 x0r x1r q1 q3 q4 q5
      have hbr : b < wr.heap.size := by omega
      clear HQ ht q3
      rw [Nat.zero_add] at x0 x1 x0r x1r
      go_wp2_with fail
      have HCNI := Lib.hid (HCNT.out i hlt)
      have hbI : Below w4.heap.size w4 (wr.alloc (.cells #[.string tj, .slice tp tn tc] 27)) := hb.alloc hsz _
      have hbox : (wr.alloc (.cells #[.string tj, .slice tp tn tc] 27)).heap[wr.heap.size]? = some (.cells #[.string tj, .slice tp tn tc] 27) := alloc_new wr _
      have hzI : (wr.alloc (.cells #[.string tj, .slice tp tn tc] 27)).heap.size = wr.heap.size + 1 := by simp
      obtain ⟨WI, hWI⟩ : ∃ W, wr.alloc (.cells #[.string tj, .slice tp tn tc] 27) = W := ⟨_, rfl⟩
      rw [hWI] at hbI hbox hzI ⊢
      have HZI := Lib.hid hzI
      have hXI : wr.heap.size < WI.heap.size := by omega
      obtain ⟨X, hX⟩ : ∃ X, wr.heap.size = X := ⟨_, rfl⟩
      rw [hX] at hbox hXI ⊢
      clear hWI hzI x0r x1r hX hb hsz hbr HZI
      go_loopw [11, 55] (fun cn i2 wq => ∃ k : Nat, k ≤ L ∧ cn = .int .i64 (((fs.take k).countP (fun j => kk.getD j [] == kk.getD i []) : Nat) : Int) ∧ i2 = .int .i64 k ∧ Below WI.heap.size WI wq) (fun _ i2 _ => L - (intOf i2).toNat)
      case atStart => exact ⟨0, Nat.zero_le _, by simp, rfl, Below.refl _ _⟩
      case round =>
        obtain ⟨k, hk, rfl, rfl, hbx⟩ := hrel
        have hszx := hbx.size
        by_cases hk2 : k < L
        · have hka : k < fs.length := by rw [HL.out]; exact hk2
          obtain ⟨g, rfl, hc0⟩ := HC4.out k hka
          have hb4x : Below w4.heap.size w4 wr := hbI.trans (hbx.mono (by have := hbI.size; omega))
          have hc := cell_later hb4x hc0 (Nat.le_refl _)
          have haN := HFM.out fs[k] (List.getElem_mem _)
          have hat : fs[k] < ts.length := by rw [HTS.out]; exact haN
          obtain ⟨y0, y1, y2⟩ := HT4.out fs[k] hat
          obtain ⟨f1, f2, f3⟩ := HFN.out fs[k] hat
          clear f2
          obtain ⟨f4, f5⟩ := Lab.right_fit _ f3
          have hq := HQ2.out fs[k] hat
          have hnext := Can.count_next fs (fun j => kk.getD j [] == kk.getD i []) k hka
          have hle := HFST.out i fs[k] hlt (List.getElem_mem _)
          have hcl : (fs.take k).countP (fun j => kk.getD j [] == kk.getD i []) ≤ k := Nat.le_trans List.countP_le_length (by rw [List.length_take]; omega)
          obtain ⟨u, hu⟩ : ∃ u, ts[fs[k]] = u := ⟨_, rfl⟩
          rw [hu] at y0 y1 y2 f1 f3 f4 f5 hq
          obtain ⟨a, ha⟩ : ∃ a, fs[k] = a := ⟨_, rfl⟩
          rw [ha] at hc haN y0 y1 hle hq
          obtain ⟨uj, up, un, uc, ul⟩ := u
          dsimp only at y0 y1 y2 f1 f3 f4 f5 hq
          obtain ⟨rr, hrr⟩ : ∃ rr, (kk.getD a [] == kk.getD i []) = rr := ⟨_, rfl⟩
          have hnext' : (fs.take (k + 1)).countP (fun j => kk.getD j [] == kk.getD i []) = (fs.take k).countP (fun j => kk.getD j [] == kk.getD i []) + (if rr = true then 1 else 0) := by
            rw [hnext, ha, hrr]
          rw [hrr] at hle hq
          obtain ⟨cn, hcn⟩ : ∃ cn, (fs.take k).countP (fun j => kk.getD j [] == kk.getD i []) = cn := ⟨_, rfl⟩
          rw [hcn] at hnext' hcl ⊢
          have T1 := Lib.hid (fun w hA hB => sametarget_is uj tj up tp ul tl un tn uc tc rr hq w f1 q1 hA hB (by unfold maxLen; omega) (by unfold maxLen; omega))
          rw [Nat.zero_add] at y0 y1
          have HKS : Hid (∀ w', Below wr.heap.size wr w' → w'.cell? ⟨b, a * 2, none⟩ = some (.string uj) ∧ w'.cell? ⟨b, a * 2 + 1, none⟩ = some (.slice up un uc) ∧ w'.cell? ⟨X, 0, none⟩ = some (.string tj) ∧ w'.cell? ⟨X, 1, none⟩ = some (.slice tp tn tc)) := by
            show ∀ w', _
            intro w' hw
            have h1 := cell_later hb4x y0 (Nat.le_refl _)
            have h2 := cell_later hb4x y1 (Nat.le_refl _)
            have h3 := below_kept hbx hbox hXI
            have h4 : wr.cell? ⟨X, 0, none⟩ = some (.string tj) := by rw [Lib.cell_of_heap h3]; rfl
            have h5 : wr.cell? ⟨X, 1, none⟩ = some (.slice tp tn tc) := by rw [Lib.cell_of_heap h3]; rfl
            exact ⟨cell_later hw h1 (Nat.le_refl _), cell_later hw h2 (Nat.le_refl _), cell_later hw h4 (Nat.le_refl _), cell_later hw h5 (Nat.le_refl _)⟩
          have l1 : Lab.At up ul wr.drew := y2.below (hb4x.drew) (Nat.le_refl _)
          have l2 : Lab.At tp tl wr.drew := x2.below (hb4x.drew) (Nat.le_refl _)
          have n1 : (0 : Int) ≤ (a : Int) := by omega
          have n2 : (a : Int) < (N : Int) := by omega
          have n3 : ¬ ((a : Int) < 0) := by omega
          have n4 : ¬ ((N : Int) ≤ (a : Int)) := by omega
          have n5 : (0 : Int) ≤ (k : Int) := by omega
          have n6 : (k : Int) < (L : Int) := by omega
          obtain ⟨k0, k1, k2, k3⟩ := HKS.out _ (Below.refl _ wr)
          clear hu hcn hnext hc0 y0 y1 y2 f1 f3 f4 hq hrr hat
          have main : ∀ (Q : Prop), Q → Q := fun _ h => h
          cases k with
          | zero =>
            clear main
            go_wp2_with fail
            go_region_held3 (fun w' => w'.cell? ⟨b, a * 2, none⟩ = some (.string uj) ∧ w'.cell? ⟨b, a * 2 + 1, none⟩ = some (.slice up un uc) ∧ w'.cell? ⟨X, 0, none⟩ = some (.string tj) ∧ w'.cell? ⟨X, 1, none⟩ = some (.slice tp tn tc))
              (first | exact HKS.out _ ((Below.refl _ wr).drew.trans hby) | exact HKS.out _ (Below.refl _ wr).drew | go_keep)
              ((go_at_call 14; refine (T1.out _ l1 l2).mono ?_; rintro e wy ⟨rfl, hby⟩))
            have hby' : Below WI.heap.size WI wy := hbx.drew.trans (hby.mono hszx)
            cases rr with
            | true =>
              rw [if_pos rfl] at hnext'
              have hle' := hle rfl
              have n7 : ¬ ((i : Int) < (a : Int)) := by omega
              have n8 : IntKind.i64.wrap ((cn : Int) + 1) = (cn : Int) + 1 := by rw [IntKind.wrap_i64]; omega
              go_wp2_with fail
              go_roundw
              case rel => exact ⟨1, by omega, by rw [hnext']; congr 1, by go_num, hby'⟩
              case measure => simp [intOf]; omega
            | false =>
              rw [if_neg (by simp)] at hnext'
              go_wp2_with fail
              go_roundw
              case rel => exact ⟨1, by omega, by rw [hnext']; rfl, by go_num, hby'⟩
              case measure => simp [intOf]; omega
          | succ k' =>
            clear main
            have hk1 : k' < fs.length := by have := HL.out; omega
            obtain ⟨g', hg', hcp0⟩ := HC4.out k' hk1
            simp only [Option.some.injEq, Addr.mk.injEq, and_true] at hg'
            subst hg'
            have hcp := cell_later hb4x hcp0 (Nat.le_refl _)
            have hasc := HASC.out k' hka
            obtain ⟨pr, hpr⟩ : ∃ pr, fs[k'] = pr := ⟨_, rfl⟩
            rw [hpr] at hcp hasc
            rw [ha] at hasc
            have m1 : IntKind.i64.wrap (((k' + 1 : Nat) : Int) - 1) = (k' : Int) := by rw [IntKind.wrap_i64]; omega
            have m1b : IntKind.i64.wrap ((k' : Int) + 1 - 1) = (k' : Int) := by rw [IntKind.wrap_i64]; omega
            have m2 : (0 : Int) < ((k' + 1 : Nat) : Int) := by omega
            have m3 : ¬ ((a : Int) ≤ (pr : Int)) := by omega
            have m4 : (0 : Int) ≤ (k' : Int) := by omega
            have m5 : (k' : Int) < (L : Int) := by omega
            clear hcp0 hpr hk1
            go_wp2_with fail
            go_region_held3 (fun w' => w'.cell? ⟨b, a * 2, none⟩ = some (.string uj) ∧ w'.cell? ⟨b, a * 2 + 1, none⟩ = some (.slice up un uc) ∧ w'.cell? ⟨X, 0, none⟩ = some (.string tj) ∧ w'.cell? ⟨X, 1, none⟩ = some (.slice tp tn tc))
              (first | exact HKS.out _ ((Below.refl _ wr).drew.trans hby) | exact HKS.out _ (Below.refl _ wr).drew | go_keep)
              ((go_at_call 14; refine (T1.out _ l1 l2).mono ?_; rintro e wy ⟨rfl, hby⟩))
            have hby' : Below WI.heap.size WI wy := hbx.drew.trans (hby.mono hszx)
            cases rr with
            | true =>
              rw [if_pos rfl] at hnext'
              have hle' := hle rfl
              have n7 : ¬ ((i : Int) < (a : Int)) := by omega
              have n8 : IntKind.i64.wrap ((cn : Int) + 1) = (cn : Int) + 1 := by rw [IntKind.wrap_i64]; omega
              go_wp2_with fail
              go_roundw
              case rel => exact ⟨k' + 1 + 1, by omega, by rw [hnext']; congr 1, by go_num, hby'⟩
              case measure => simp [intOf]; omega
            | false =>
              rw [if_neg (by simp)] at hnext'
              go_wp2_with fail
              go_roundw
              case rel => exact ⟨k' + 1 + 1, by omega, by rw [hnext']; rfl, by go_num, hby'⟩
              case measure => simp [intOf]; omega
        · have hkL : k = L := by omega
          subst hkL
          have h1 := HCNI.out
          rw [← List.take_of_length_le (l := fs) (i := k) (by have := HL.out; omega)] at h1
          rw [h1]
          go_wp2_with fail
          go_roundw
          case rel => exact ⟨i + 1, by omega, by go_num, hbI.trans (hbx.mono (by have := hbI.size; omega))⟩
          case measure => simp [intOf]; omega
    · have : i = N := by omega
      subst this
      go_wp2_with fail
      go_ret
      exact ⟨rfl, hB4.trans (hb.mono hB4.size)⟩
end Go.Proofs.YthnaninhbofeoaaDoor
