/- Contracts of the library at labels: slices.Clone, SortFunc (by names), IndexFunc and DeleteFunc (of empty values). -/
import Derived.Test.YthnaninhbofeoaaGreatDoorSortL
import Derived.Test.YthnaninhbofeoaaGreatDoorShelfL
import Derived.Test.YthnaninhbofeoaaGreatDoorOfP
import Derived.Test.YthnaninhbofeoaaGreatDoorKitB
import Derived.Test.YthnaninhbofeoaaGreatDoorKeyC
import Derived.Lib.SliceRun
namespace Go.Proofs.YthnaninhbofeoaaGreatDoor
open Go.RowKit Go.Sort Go.Shelf

set_option maxHeartbeats 1600000 in
set_option maxRecDepth 100000 in
theorem clone_is (p : Option Addr) (ls : List Lab.L) (n c : Nat) (w : World) (hn : ls.length = n) (hA : Lab.At p ls w) (hl : n ≤ 100000) :
    Calls Tryz.prog 77 #[.slice p n c] w fun e w' => (∃ v, e = .returned v ∧ OwnLabels w.heap.size v ls w') ∧ Below w.heap.size w w' := by
  obtain ⟨i0, hi, hz0, hz1, hz2⟩ := info_parts infoLab
  have HI := Lib.hid hi
  have HN := Lib.hid hn
  have q22 : ∀ (w : World) (a : Option Addr) (n c n' c' : Nat), (binOp .eql 34 (.slice a n c) (.slice none n' c')).run Tryz.prog w = .ok (.bool a.isNone) w := fun w a n c n' c' => Lib.run_eql_slice_nil w _ _ a n c n' c' Tryz.underlying34
  rcases hA.cases with ⟨rfl, hls⟩ | ⟨ad, rfl, hnews0⟩
  · obtain rfl : n = 0 := by rw [← hn, hls]; rfl
    clear hi hn hA
    go_enter Tryz.func77, Tryz.ntmps77
    go_wp2_with fail
    go_ret
    exact ⟨⟨_, rfl, by rw [hls]; exact OwnLabels.nil _ _⟩, Below.refl _ _⟩
  · clear hi hn hA
    go_enter Tryz.func77, Tryz.ntmps77
    go_wp2_with (at_builtin; refine wpList_append_own _ rfl _ _ 34 rfl w.heap.size 46 i0 _ 2 32 Tryz.underlying34 HI.out hz0 hz1 hz2 rfl (by decide) _ 0 _ rfl (World.ownsRow_made w #[] 0 (Nat.le_refl _) (Nat.zero_le _) (by simp)) ad n c (Lab.cells ls) rfl ?b1 ?b2 (Lab.cells_one _) ?b4 ?b5 ?b6 ?_)
    case b1 => rw [Lab.cells_length, HN.out]
    case b2 =>
      intro j u hj
      exact Lib.cell?_alloc_some _ (hnews0 j u hj)
    case b4 => unfold maxLen; omega
    case b5 => omega
    case b6 => simp
    intro v' w1 hown hgrow _
    go_wp2_with fail
    go_ret
    refine ⟨⟨v', rfl, ?_⟩, ((Below.refl _ w).alloc (Nat.le_refl _) _).grown hgrow (by simp) (by intro k hk; simp [Value.ownBlock] at hk; omega)⟩
    unfold OwnLabels
    rw [HN.out]
    simpa using hown

/-- how names are compared -/
def Lab.cf (x y : Lab.L) : Int := Lib.compareBytes (Lab.bs x.n) (Lab.bs y.n)
theorem Lab.cf_lt (x y : Lab.L) : ltOf Lab.cf x y = decide (Lab.bs x.n < Lab.bs y.n) := by
  unfold ltOf Lab.cf
  rw [Can.cmp_law]
  by_cases h1 : Lab.bs x.n < Lab.bs y.n
  · rw [if_pos h1, decide_eq_true h1]; rfl
  · rw [if_neg h1, decide_eq_false h1]
    by_cases h2 : Lab.bs x.n = Lab.bs y.n
    · rw [if_pos h2]; rfl
    · rw [if_neg h2]; rfl
theorem Lab.swo : SWO (ltOf Lab.cf) where
  irrefl x := by rw [Lab.cf_lt]; exact decide_eq_false (List.lt_irrefl _)
  trans x y z h1 h2 := by
    rw [Lab.cf_lt, decide_eq_true_eq] at *
    exact List.lt_trans h1 h2
  ntrans x y z h1 h2 := by
    rw [Lab.cf_lt, decide_eq_false_iff_not, List.not_lt] at *
    exact List.le_trans h2 h1

set_option maxHeartbeats 800000 in
theorem byName_lays (x y : Lab.L) (W : World) : Calls Tryz.prog 79 #[.agg #[.string x.n, .string x.v], .agg #[.string y.n, .string y.v]] W fun e w' => e = .returned (.int .i64 (Lab.cf x y)) ∧ ∃ q os', w' = grow (W.drewN q) os' := by
  have HS := Lib.hid (fun w => Tryz.strings_Compare x.n y.n w)
  have HR : Hid (Lib.compareBytes x.n.data.toList y.n.data.toList = Lab.cf x y) := rfl
  rw [HR.out] at HS
  obtain ⟨r, hr⟩ : ∃ r, Lab.cf x y = r := ⟨_, rfl⟩
  rw [hr] at HS ⊢
  clear hr HR
  go_enter Tryz.func79, Tryz.ntmps79
  go_wp2_with (go_at_call 36; refine (HS.out _).mono ?_)
  first | rintro e w1 rfl rfl | rintro e w1 ⟨rfl, rfl⟩
  go_wp2_with fail
  go_ret
  exact ⟨rfl, 0, _, by rw [alloc_eq_grow, alloc_eq_grow, grow_grow]; rfl⟩

set_option maxHeartbeats 1600000 in
set_option maxRecDepth 100000 in
theorem sortL_is (B : Nat) (v : Value) (ls : List Lab.L) (n : Nat) (w : World) (hn : ls.length = n) (h : OwnLabels B v ls w) (hB : B ≤ w.heap.size) (hl : n ≤ 100000) :
    Calls Tryz.prog 78 #[v, .func (.func 79) #[] #[]] w fun e w' => e = .returned (.tuple #[]) ∧ ∃ d, (d.Perm ls ∧ Lab.Asc d) ∧ OwnLabels B v d w' ∧ Below B w w' := by
  rcases h.2 with ⟨rfl, h0⟩ | ⟨g, cap, cur, rfl, hg, hh, _⟩
  · have hcon := AnyF.slices_SortFunc_none Tryz.sortL none 0 (.func (.func 79) #[] #[]) w
    change Calls Tryz.prog 78 _ _ _ at hcon
    have hls : ls = [] := List.length_eq_zero_iff.1 h0
    refine hcon.mono fun e w' ⟨h1, h2⟩ => ⟨h1, [], ⟨by rw [hls], List.Pairwise.nil⟩, OwnLabels.nil _ _, by rw [h2]; exact Below.refl _ _⟩
  · have eg : ∀ args w, (callFunc 79 args).run Tryz.prog w = .ok (.enter 79 args) w := enters_of Tryz.func79 (by kernel_rfl) rfl
    have hlt := lt_of_heap hh
    have hsz : ls.toArray.size = ls.length := List.size_toArray
    have hcon := AnyQ.slices_SortFunc Tryz.sortL 2 Tryz.isAgg46 Tryz.sizeOf46 Lab.enc (fun _ => rfl) (fun x u hu => by simp [Lab.enc] at hu; rcases hu with rfl | rfl <;> rfl) Lab.cf Lab.swo 79 #[] g 0 cap ls.toArray w eg (fun _ _ _ _ x y => byName_lays x y _) (h.holds rfl) hlt (by rw [hsz]; omega)
    change Calls Tryz.prog 78 _ _ _ at hcon
    rw [hsz] at hcon
    refine hcon.mono fun e w' ⟨h1, d', q, os, hp, hs, hw⟩ => ?_
    obtain ⟨p1, _, p3⟩ := hp
    have hd : d'.size = ls.length := by rw [p1, hsz]
    have hdl : d'.toList.length = ls.length := by rw [Array.length_toList]; exact hd
    have e1 : (d'.extract 0 ls.length).toList = d'.toList := by rw [← hd, Array.extract_size]
    have e2 : (ls.toArray.extract 0 ls.length).toList = ls := by rw [← hsz, Array.extract_size]
    rw [e1, e2] at p3
    refine ⟨h1, d'.toList, ⟨p3, ?_⟩, ?_, ?_⟩
    · unfold Lab.Asc
      rw [List.pairwise_iff_getElem]
      intro i j hi hj hij
      have := hs i j (Nat.zero_le _) hij (by omega)
      rw [Lab.cf_lt, decide_eq_false_iff_not, List.not_lt] at this
      rw [getElem!_pos d' i (by omega), getElem!_pos d' j (by omega)] at this
      simpa using this
    · rw [hw]
      have := h.sorted (l' := d'.toList) (q := q) (os := os) rfl hdl
      rw [Array.toArray_toList] at this
      exact this
    · rw [hw]; exact sorted_below d' (Below.refl _ _) hB hg

set_option maxHeartbeats 800000 in
theorem del_is (x : Lab.L) (b : Bool) (h : (Lab.bs x.v).isEmpty = b) (w : World) :
    Calls Tryz.prog 82 #[.agg #[.string x.n, .string x.v]] w fun e w' => e = .returned (.bool b) ∧ Below w.heap.size w w' := by
  have h2 : x.v.toList.isEmpty = b := by rw [← h, ByteArray.toList_eq]; rfl
  clear h
  go_enter Tryz.func82, Tryz.ntmps82
  go_wp2_with fail
  go_ret
  exact ⟨rfl, (Below.refl _ _).alloc (Nat.le_refl _) _⟩

def Lab.firstEmpty : Nat → List Lab.L → Int
  | _, [] => -1
  | k, x :: r => if (Lab.bs x.v).isEmpty = true then (k : Int) else Lab.firstEmpty (k + 1) r
theorem Lab.firstEmpty_spec (l : List Lab.L) : ∀ (m k : Nat), m = l.length - k → k ≤ l.length → (Lab.firstEmpty k (l.drop k) = -1 ∧ Lab.full (l.drop k) = l.drop k) ∨ ∃ j, k ≤ j ∧ j < l.length ∧ Lab.firstEmpty k (l.drop k) = (j : Int) ∧ Lab.full ((l.drop k).take (j - k)) = (l.drop k).take (j - k) ∧ ∀ h : j < l.length, (Lab.bs l[j].v).isEmpty = true := by
  intro m
  induction m with
  | zero =>
    intro k hm hk
    have : l.drop k = [] := List.drop_eq_nil_iff.2 (by omega)
    rw [this]
    exact .inl ⟨rfl, rfl⟩
  | succ m ih =>
    intro k hm hk
    have hlt : k < l.length := by omega
    rw [List.drop_eq_getElem_cons hlt]
    by_cases he : (Lab.bs l[k].v).isEmpty = true
    · refine .inr ⟨k, Nat.le_refl _, hlt, if_pos he, ?_, fun _ => he⟩
      rw [Nat.sub_self]; rfl
    · have h1 : Lab.firstEmpty k (l[k] :: l.drop (k + 1)) = Lab.firstEmpty (k + 1) (l.drop (k + 1)) := if_neg he
      have he2 : (Lab.bs l[k].v).isEmpty = false := Bool.eq_false_iff.2 he
      have hf : ∀ r, Lab.full (l[k] :: r) = l[k] :: Lab.full r := fun r => by
        unfold Lab.full
        rw [List.filter_cons_of_pos (by rw [he2]; rfl)]
      rw [h1]
      rcases ih (k + 1) (by omega) (by omega) with ⟨a1, a2⟩ | ⟨j, b1, b2, b3, b4, b5⟩
      · exact .inl ⟨a1, by rw [hf, a2]⟩
      · refine .inr ⟨j, by omega, b2, b3, ?_, b5⟩
        obtain ⟨t, ht⟩ : ∃ t, j - k = t + 1 := ⟨j - k - 1, by omega⟩
        have ht2 : j - (k + 1) = t := by omega
        rw [ht2] at b4
        rw [ht, List.take_succ_cons, hf, b4]

set_option maxHeartbeats 1600000 in
set_option maxRecDepth 100000 in
theorem idx_is (p : Option Addr) (ls : List Lab.L) (n c : Nat) (r : Int) (h : Lab.firstEmpty 0 ls = r) (w : World) (hn : ls.length = n) (hA : Lab.At p ls w) (hl : n ≤ 100000) :
    Calls Tryz.prog 112 #[.slice p n c, .func (.func 82) #[] #[]] w fun e w' => e = .returned (.int .i64 r) ∧ Below w.heap.size w w' := by
  have H0 : Hid (Lab.firstEmpty 0 (ls.drop 0) = r) := h
  have HN := Lib.hid hn
  clear h hn
  go_enter Tryz.func112, Tryz.ntmps112
  go_wp2_with fail
  go_loopw [8] (fun i wr => ∃ k : Nat, k ≤ n ∧ i = .int .i64 k ∧ Hid (Lab.firstEmpty k (ls.drop k) = r) ∧ Below w.heap.size w wr) (fun i _ => n - (intOf i).toNat)
  case atStart => exact ⟨0, Nat.zero_le _, rfl, H0, Below.refl _ _⟩
  case round =>
    obtain ⟨k, hk, rfl, HK, hb⟩ := hrel
    have hsz := hb.size
    by_cases hlt : k < n
    · have hkl : k < ls.length := by rw [HN.out]; exact hlt
      have hA2 := hA.below hb (Nat.le_refl _)
      obtain ⟨b, o, rfl, hc⟩ := hA2.open k hkl
      have hst := HK.out
      rw [List.drop_eq_getElem_cons hkl] at hst
      obtain ⟨x, hx⟩ : ∃ x, ls[k] = x := ⟨_, rfl⟩
      have c0 := (hc k hkl).1
      have c1 := (hc k hkl).2
      rw [hx] at c0 c1 hst
      have hbx : b < wr.heap.size := World.block_lt_of_cell? _ _ c0
      obtain ⟨bv, hbv⟩ : ∃ bv, (Lab.bs x.v).isEmpty = bv := ⟨_, rfl⟩
      have HD := Lib.hid (fun w => del_is x bv hbv w)
      have hst2 : (if bv = true then (k : Int) else Lab.firstEmpty (k + 1) (ls.drop (k + 1))) = r := by rw [← hbv]; exact hst
      clear hst hx hc hbv HK
      cases bv
      · have HG : Hid (Lab.firstEmpty (k + 1) (ls.drop (k + 1)) = r) := hst2
        clear hst2
        go_wp2_with (go_at_call 82; refine (HD.out _).mono ?_)
        first | rintro e w1 rfl hb1 | rintro e w1 ⟨rfl, hb1⟩
        go_wp2_with fail
        go_roundw
        case rel => exact ⟨k + 1, by omega, by go_num, HG, below_next hb hb1⟩
        case measure => simp [intOf]; omega
      · have HG : Hid ((k : Int) = r) := hst2
        clear hst2
        go_wp2_with (go_at_call 82; refine (HD.out _).mono ?_)
        first | rintro e w1 rfl hb1 | rintro e w1 ⟨rfl, hb1⟩
        go_wp2_with fail
        go_ret
        exact ⟨by rw [← HG.out]; rfl, below_next hb hb1⟩
    · have HG : Hid (r = -1) := by
        show r = -1
        rw [← HK.out, List.drop_eq_nil_iff.2 (by rw [HN.out]; omega)]; rfl
      clear HK
      go_wp2_with fail
      go_ret
      exact ⟨by rw [HG.out]; rfl, hb⟩
end Go.Proofs.YthnaninhbofeoaaGreatDoor
