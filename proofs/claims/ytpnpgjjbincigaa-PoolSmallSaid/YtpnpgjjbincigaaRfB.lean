/- Contracts of the reference's pool: index, least, End. (Printed by gen_rfb.py.) -/
import Derived.Test.YtpnpgjjbincigaaRfA
import Derived.Test.YtpnpgjjbincigaaPoD
import Derived.Deep.RegionHeld3
namespace Go.Proofs.Ytpnpgjjbincigaa
open Go.RowKit
set_option linter.unusedVariables false

/-- rows of the reference's slots and moves -/
def rsR : Rec Sl := ⟨128, 5, 64, .agg #[.string ByteArray.empty, .slice none 0 0, .int .i64 0, .int .i64 0, .bool false], Sl.enc⟩
theorem rsOk : Rec.Ok rsR where
  len _ := rfl
  one x v hv := slOk.one x v hv
  pos := by decide
  small := by decide
  info := by kernel_rfl
  zs := rfl
def rmR : Rec Mv := ⟨76, 3, 48, .agg #[.int .u8 0, .string ByteArray.empty, .slice none 0 0], Mv.enc⟩
theorem rmOk : Rec.Ok rmR where
  len _ := rfl
  one x v hv := mvOk.one x v hv
  pos := by decide
  small := by decide
  info := by kernel_rfl
  zs := rfl
/-- a part of a row, cell by cell -/
theorem Rec.newsAt {α : Type} {R : Rec α} (ok : R.Ok) {b o i0 m : Nat} {l : List α} {w : World} (hc : ∀ i (h : i < l.length), ∀ j, j < R.k → w.cell? ⟨b, o + i * R.k + j, none⟩ = (R.enc l[i])[j]?) (hm : i0 + m ≤ l.length) :
    ∀ j u, (R.cells ((l.drop i0).take m))[j]? = some u → w.cell? ((⟨b, o + i0 * R.k, none⟩ : Addr).add j) = some u := by
  intro j u hj
  have hk := ok.pos
  have hlen : ((l.drop i0).take m).length = m := by rw [List.length_take, List.length_drop]; omega
  have hlt : j < m * R.k := by
    have := (List.getElem?_eq_some_iff.1 hj).1
    rw [ok.length, hlen] at this
    exact this
  obtain ⟨q, r, hq, hr⟩ : ∃ q r, j = q * R.k + r ∧ r < R.k := ⟨j / R.k, j % R.k, (Nat.div_add_mod' j R.k).symm, Nat.mod_lt _ hk⟩
  have hqm : q < m := by
    refine Nat.lt_of_mul_lt_mul_right (a := R.k) ?_
    omega
  have hg := ok.get ((l.drop i0).take m) q (by omega) r hr
  have hyq : ((l.drop i0).take m)[q]'(by omega) = l[i0 + q]'(by omega) := by rw [List.getElem_take, List.getElem_drop]
  rw [hyq] at hg
  have h1 := hc (i0 + q) (by omega) r hr
  have ha : (⟨b, o + i0 * R.k, none⟩ : Addr).add j = ⟨b, o + i0 * R.k + j, none⟩ := by unfold Addr.add; split <;> simp_all
  rw [ha, hq, show o + i0 * R.k + (q * R.k + r) = o + (i0 + q) * R.k + r by rw [Nat.add_mul]; omega, h1, ← hg, ← hq, hj]
/-- 'append(v, x...)' of a part of a row, at a step of a region that draws its order -/
theorem step_appRec {α : Type} {R : Rec α} {ops : Array Oper} {o : Oper} {a : Act} {K : Act → World → Prop} {Q : Exit → Act → World → Prop} {E : Prop} {w : World} (ok : R.Ok) (T : TypeId) (hT : Try.prog.underlying T = some (.slice R.T)) (hgd : o.guard = none) (s x : Operand)
    (ho : o.op = .call { callee := .builtin .append, args := #[s, x], argTypes := #[T, T] })
    (B : Nat) (v : Value) (l : List α) (hs : a.eval s = v) (hown : OwnR R B v l w) (y : List α) (ad : Addr) (m c : Nat) (hx : a.eval x = .slice (some ad) m c) (hm : y.length = m)
    (hnews : ∀ j u, (R.cells y)[j]? = some u → w.cell? (ad.add j) = some u) (hlen : l.length + m ≤ 1000000000) (hB : B ≤ w.heap.size)
    (h : ∀ v' w', OwnR R B v' (l ++ y) w' → w.grownBy w' v.ownBlock → K (a.put o.dst v') w') :
    if Region.wanted o (yielded ops a.tmps) = true then Oper.wp Try.prog o a w K Q else E := by
  obtain ⟨i0, hi, hz0, hz1, hz2⟩ := info_parts ok.info
  have hby : (l.length + m) * R.bytes ≤ 140737488355328 := Nat.le_trans (Nat.mul_le_mul hlen ok.small) (by decide)
  have hw : Region.wanted o (yielded ops a.tmps) = true := by simp [Region.wanted, hgd]
  rw [if_pos hw]
  refine wp_append_own w s x T ho B R.T i0 R.z R.k R.bytes hT hi hz0 hz1 hz2 ok.zs ok.pos v l.length (R.cells l) hs hown ad m c (R.cells y) hx (by rw [ok.length, hm]) hnews (ok.ones _) (by unfold maxLen; omega) hby hB ?_
  intro v' w' h1 h2 _
  refine h v' w' ?_ h2
  unfold OwnR
  rw [Rec.cells_append, List.length_append, hm]
  exact h1

theorem map_eraseIdx35 {α β : Type} (f : α → β) (l : List α) (k : Nat) : (l.eraseIdx k).map f = (l.map f).eraseIdx k := by
  rw [List.eraseIdx_eq_take_drop_succ, List.eraseIdx_eq_take_drop_succ, List.map_append, List.map_take, List.map_drop]
/-- the first place of a key -/
def Po.ixOf (l : List ByteArray) (k : ByteArray) : Int := match l.findIdx? (fun x => decide (x = k)) with
  | some i => (i : Int)
  | none => -1
theorem Po.ixOf_some {l : List ByteArray} {k : ByteArray} {i : Nat} (hi : i < l.length) (h : l[i] = k) (hn : ∀ j (hj : j < i), l[j]'(by omega) ≠ k) : Po.ixOf l k = (i : Int) := by
  unfold Po.ixOf
  rw [List.findIdx?_eq_some_iff_getElem.2 ⟨hi, by simpa using h, fun j hj => by simpa using hn j hj⟩]
theorem Po.ixOf_none {l : List ByteArray} {k : ByteArray} (h : ∀ x ∈ l, x ≠ k) : Po.ixOf l k = -1 := by
  unfold Po.ixOf
  rw [List.findIdx?_eq_none_iff.2 (fun x hx => decide_eq_false (h x hx))]
theorem Po.ixOf_cases (l : List ByteArray) (k : ByteArray) : (Po.ixOf l k = -1 ∧ ∀ x ∈ l, x ≠ k) ∨ ∃ i : Nat, Po.ixOf l k = (i : Int) ∧ ∃ hi : i < l.length, l[i] = k ∧ ∀ j (hj : j < i), l[j]'(by omega) ≠ k := by
  unfold Po.ixOf
  cases hx : l.findIdx? (fun x => decide (x = k)) with
  | none => exact .inl ⟨rfl, fun x h => of_decide_eq_false (List.findIdx?_eq_none_iff.1 hx x h)⟩
  | some i =>
    obtain ⟨h1, h2, h3⟩ := List.findIdx?_eq_some_iff_getElem.1 hx
    exact .inr ⟨i, rfl, h1, by simpa using h2, fun j hj => by simpa using h3 j hj⟩

set_option maxHeartbeats 1600000 in
set_option maxRecDepth 100000 in
theorem rindex_is (B n c : Nat) (p : Option Addr) (l : List ByteArray) (k : ByteArray) (w : World) (h : OwnTexts B (.slice p n c) l w) (hl : n ≤ 1000000) :
    Calls Try.prog 74 #[.slice p n c, .string k] w fun e w' => e = .returned (.int .i64 (Po.ixOf l k)) ∧ Below w.heap.size w w' := by
  have hn : l.length = n := by
    obtain ⟨p', c', e, _⟩ := h.shp
    simp only [Value.slice.injEq] at e
    exact e.2.1.symm
  have HN := Lib.hid hn
  have HO := Lib.hid h
  clear h hn
  obtain ⟨r, hr⟩ : ∃ r, Po.ixOf l k = r := ⟨_, rfl⟩
  rw [hr]
  have HR := Lib.hid hr
  clear hr
  go_enter Try.func74, Try.ntmps74
  go_wp2_with fail
  go_loopw [5] (fun i wr => ∃ k0 : Nat, k0 ≤ n ∧ i = .int .i64 (k0 : Int) ∧ Hid (∀ j (hj : j < l.length), j < k0 → l[j] ≠ k) ∧ Hid (Below w.heap.size w wr)) (fun i _ => n - (intOf i).toNat)
  case atStart => exact ⟨0, Nat.zero_le _, rfl, fun j _ hj => absurd hj (Nat.not_lt_zero _), Below.refl _ _⟩
  case round =>
    obtain ⟨wj, rfl⟩ : ∃ wo : World, wo = wr := ⟨_, rfl⟩
    obtain ⟨k0, hk, rfl, HF, HB⟩ := hrel
    by_cases hlt : k0 < n
    · have hk1 : k0 < l.length := by rw [HN.out]; exact hlt
      have m1 : (0 : Int) ≤ (k0 : Int) := by omega
      have m2 : (k0 : Int) < (n : Int) := by omega
      rcases (HO.out.below HB.out (Nat.le_refl _)).open with ⟨_, h0⟩ | ⟨g, c', e, hg, _, _, hcl⟩
      · rw [h0] at hk1; cases hk1
      simp only [Value.slice.injEq] at e
      obtain ⟨rfl, en1, en2⟩ := e
      clear en1 en2
      have d0 := hcl k0 l[k0] (List.getElem?_eq_getElem hk1)
      obtain ⟨x, hx⟩ : ∃ x, l[k0] = x := ⟨_, rfl⟩
      rw [hx] at d0
      obtain ⟨q, hq⟩ : ∃ q, (x.toList == k.toList) = q := ⟨_, rfl⟩
      have hqx : q = true ↔ x = k := by
        rw [← hq, ByteArray.toList_eq, ByteArray.toList_eq, beq_iff_eq]
        exact ⟨fun h => ByteArray.ext (Array.toList_inj.1 h), fun h => by rw [h]⟩
      have HX := Lib.hid hx
      have HQX := Lib.hid hqx
      clear hx hcl hqx
      cases q
      · have HF2 : Hid (∀ j (hj : j < l.length), j < k0 + 1 → l[j] ≠ k) := fun j hj h2 e => by
          by_cases hjk : j = k0
          · subst hjk
            rw [HX.out] at e
            exact absurd (HQX.out.2 e) (by simp)
          · exact HF.out j hj (by omega) e
        go_wp2_with fail
        go_roundw
        case rel => exact ⟨k0 + 1, by omega, by go_num, HF2.out, HB.out⟩
        case measure => simp [intOf]; omega
      · have hr2 : (k0 : Int) = r := by rw [← HR.out]; exact (Po.ixOf_some hk1 (HX.out.trans (HQX.out.1 rfl)) (fun j hj => HF.out j (by omega) hj)).symm
        subst hr2
        go_wp2_with fail
        go_ret
        exact ⟨rfl, HB.out⟩
    · have n2 : (n : Int) ≤ (k0 : Int) := by omega
      have hr2 : -1 = r := by
        rw [← HR.out]
        refine (Po.ixOf_none (fun x hx => ?_)).symm
        obtain ⟨j, hj, rfl⟩ := List.getElem_of_mem hx
        exact HF.out j hj (by have := HN.out; omega)
      subst hr2
      go_wp2_with fail
      go_ret
      exact ⟨rfl, HB.out⟩

/-- the least key beyond another one -/
def Po.better (a : ByteArray) (f : Bool) (cur : Option ByteArray) (x : ByteArray) : Option ByteArray :=
  if ((f || decide (Lab.bs a < Lab.bs x)) && (match cur with | none => true | some b => decide (Lab.bs x < Lab.bs b))) = true then some x else cur
def Po.lst (l : List ByteArray) (a : ByteArray) (f : Bool) : Option ByteArray := l.foldl (Po.better a f) none
theorem Po.lst_take (l : List ByteArray) (a : ByteArray) (f : Bool) (k : Nat) (h : k < l.length) : Po.lst (l.take (k + 1)) a f = Po.better a f (Po.lst (l.take k) a f) l[k] := by
  unfold Po.lst
  rw [List.take_add_one, List.getElem?_eq_getElem h, List.foldl_append]
  rfl
theorem Po.better_or (a : ByteArray) (f : Bool) (cur : Option ByteArray) (x : ByteArray) : Po.better a f cur x = some x ∨ Po.better a f cur x = cur :=
  (Classical.em _).elim (fun h => .inl (if_pos h)) (fun h => .inr (if_neg h))
theorem Po.lst_mem (l : List ByteArray) (a : ByteArray) (f : Bool) (k : Nat) : ∀ b, Po.lst (l.take k) a f = some b → b ∈ l := by
  induction k with
  | zero => intro b h; cases h
  | succ k ih =>
    intro b h
    by_cases hk : k < l.length
    · rw [Po.lst_take l a f k hk] at h
      rcases Po.better_or a f (Po.lst (l.take k) a f) l[k] with h2 | h2
      · rw [h2] at h; cases h; exact List.getElem_mem _
      · rw [h2] at h; exact ih b h
    · rw [List.take_of_length_le (by omega), ← List.take_of_length_le (show l.length ≤ k by omega)] at h
      exact ih b h

set_option maxHeartbeats 3200000 in
set_option maxRecDepth 100000 in
theorem rleast_is (B n c : Nat) (p : Option Addr) (l : List ByteArray) (a : ByteArray) (f : Bool) (w : World) (h : OwnTexts B (.slice p n c) l w) (hl : n ≤ 1000000) (ha : a.size ≤ 1000000) (hs : ∀ x ∈ l, x.size ≤ 1000000) :
    Calls Try.prog 73 #[.slice p n c, .string a, .bool f] w fun e w' => e = .returned (.tuple #[.string ((Po.lst l a f).getD ⟨#[]⟩), .bool (Po.lst l a f).isSome]) ∧ Below w.heap.size w w' := by
  have hn : l.length = n := by
    obtain ⟨p', c', e, _⟩ := h.shp
    simp only [Value.slice.injEq] at e
    exact e.2.1.symm
  have HN := Lib.hid hn
  have HO := Lib.hid h
  have HSZ := Lib.hid hs
  have HAZ := Lib.hid ha
  clear h hn hs ha
  go_enter Try.func73, Try.ntmps73
  go_wp2_with fail
  go_loopw [8, 9, 10] (fun bv tv i wr => ∃ (k : Nat) (b : ByteArray) (t : Bool), k ≤ n ∧ i = .int .i64 (k : Int) ∧ bv = .string b ∧ tv = .bool t ∧ Hid ((Po.lst (l.take k) a f).getD ⟨#[]⟩ = b) ∧ Hid ((Po.lst (l.take k) a f).isSome = t) ∧ Hid (Below w.heap.size w wr)) (fun _ _ i _ => n - (intOf i).toNat)
  case atStart => exact ⟨0, ⟨#[]⟩, false, Nat.zero_le _, rfl, rfl, rfl, rfl, rfl, Below.refl _ _⟩
  case round =>
    obtain ⟨wj, rfl⟩ : ∃ wo : World, wo = wr := ⟨_, rfl⟩
    obtain ⟨k, b, t, hk, rfl, rfl, rfl, HBE, HTH, HB⟩ := hrel
    by_cases hlt : k < n
    · have hk1 : k < l.length := by rw [HN.out]; exact hlt
      have m1 : (0 : Int) ≤ (k : Int) := by omega
      have m2 : (k : Int) < (n : Int) := by omega
      rcases (HO.out.below HB.out (Nat.le_refl _)).open with ⟨_, h0⟩ | ⟨g, c', e, hg, _, _, hcl⟩
      · rw [h0] at hk1; cases hk1
      simp only [Value.slice.injEq] at e
      obtain ⟨rfl, en1, en2⟩ := e
      clear en1 en2
      have d0 := hcl k l[k] (List.getElem?_eq_getElem hk1)
      have hxs := HSZ.out l[k] (List.getElem_mem _)
      have hst := Po.lst_take l a f k hk1
      obtain ⟨x, hx⟩ : ∃ x, l[k] = x := ⟨_, rfl⟩
      rw [hx] at d0 hxs hst
      obtain ⟨cu, hcu⟩ : ∃ cu, Po.lst (l.take k) a f = cu := ⟨_, rfl⟩
      rw [hcu] at HBE HTH hst
      obtain ⟨p1, hp1⟩ : ∃ p1, decide (Lab.bs a < Lab.bs x) = p1 := ⟨_, rfl⟩
      obtain ⟨p2, hp2⟩ : ∃ p2, decide (Lab.bs x < Lab.bs b) = p2 := ⟨_, rfl⟩
      have HL1 := Lib.hid (fun w => less_is a x p1 hp1 w (Nat.le_trans HAZ.out (by decide)))
      have HL2 := Lib.hid (fun w => less_is x b p2 hp2 w (Nat.le_trans hxs (by decide)))
      have HDG := Lib.hid (show _ ∧ g < wj.heap.size from ⟨d0, hg⟩)
      unfold Po.better at hst
      rw [hp1] at hst
      have HST := Lib.hid hst
      have HP2 := Lib.hid hp2
      clear hx hcl hxs hst hcu hp1 hp2
      cases f
      · cases p1
        · cases t
          · obtain rfl : cu = none := by cases cu with | none => rfl | some bb => exact absurd HTH.out (by simp)
            have HS2 : Hid (Po.lst (l.take (k + 1)) a false = none) := by show _ = _; rw [HST.out]; rfl
            have d0 := HDG.out.1
            have hg := HDG.out.2
            go_wp2_with (go_at_call 75; refine (HL1.out _).mono ?_)
            first | rintro e w1 rfl q1 rfl | rintro e w1 q1 rfl rfl | rintro e w1 ⟨rfl, q1, rfl⟩
            go_wp2_with fail
            go_roundw
            case rel => exact ⟨k + 1, b, false, by omega, by go_num, rfl, rfl, (by show _ = _; rw [HS2.out]; exact HBE.out), (by show _ = _; rw [HS2.out]; rfl), (by first | exact (below_drewN HB.out q1) | exact below_drewN HB.out _)⟩
            case measure => simp [intOf]; omega
          · obtain ⟨bb, rfl⟩ : ∃ bb, cu = some bb := by cases cu with | none => exact absurd HTH.out (by simp) | some bb => exact ⟨bb, rfl⟩
            have hbb : bb = b := HBE.out
            have HBB := Lib.hid hbb
            clear hbb
            have HS2 : Hid (Po.lst (l.take (k + 1)) a false = some bb) := by show _ = _; rw [HST.out]; rfl
            have d0 := HDG.out.1
            have hg := HDG.out.2
            go_wp2_with (go_at_call 75; refine (HL1.out _).mono ?_)
            first | rintro e w1 rfl q1 rfl | rintro e w1 q1 rfl rfl | rintro e w1 ⟨rfl, q1, rfl⟩
            go_wp2_with fail
            go_roundw
            case rel => exact ⟨k + 1, b, true, by omega, by go_num, rfl, rfl, (by show _ = _; rw [HS2.out]; exact HBE.out), (by show _ = _; rw [HS2.out]; rfl), (by first | exact (below_drewN HB.out q1) | exact below_drewN HB.out _)⟩
            case measure => simp [intOf]; omega
        · cases t
          · obtain rfl : cu = none := by cases cu with | none => rfl | some bb => exact absurd HTH.out (by simp)
            have HS2 : Hid (Po.lst (l.take (k + 1)) a false = some x) := by show _ = _; rw [HST.out]; rfl
            have d0 := HDG.out.1
            have hg := HDG.out.2
            go_wp2_with (go_at_call 75; refine (HL1.out _).mono ?_)
            first | rintro e w1 rfl q1 rfl | rintro e w1 q1 rfl rfl | rintro e w1 ⟨rfl, q1, rfl⟩
            go_wp2_with fail
            go_roundw
            case rel => exact ⟨k + 1, x, true, by omega, by go_num, rfl, rfl, (by show _ = _; rw [HS2.out]; rfl), (by show _ = _; rw [HS2.out]; rfl), (by first | exact (below_drewN HB.out q1) | exact below_drewN HB.out _)⟩
            case measure => simp [intOf]; omega
          · cases p2
            · obtain ⟨bb, rfl⟩ : ∃ bb, cu = some bb := by cases cu with | none => exact absurd HTH.out (by simp) | some bb => exact ⟨bb, rfl⟩
              have hbb : bb = b := HBE.out
              have HBB := Lib.hid hbb
              clear hbb
              have HS2 : Hid (Po.lst (l.take (k + 1)) a false = some bb) := by show _ = _; rw [HST.out]; dsimp only; rw [HBB.out, if_neg (by rw [HP2.out]; simp)]
              have d0 := HDG.out.1
              have hg := HDG.out.2
              go_wp2_with (go_at_call 75; refine (HL1.out _).mono ?_)
              first | rintro e w1 rfl q1 rfl | rintro e w1 q1 rfl rfl | rintro e w1 ⟨rfl, q1, rfl⟩
              go_wp2_with (go_at_call 75; refine (HL2.out _).mono ?_)
              first | rintro e w2 rfl q2 rfl | rintro e w2 q2 rfl rfl | rintro e w2 ⟨rfl, q2, rfl⟩
              go_wp2_with fail
              go_roundw
              case rel => exact ⟨k + 1, b, true, by omega, by go_num, rfl, rfl, (by show _ = _; rw [HS2.out]; exact HBE.out), (by show _ = _; rw [HS2.out]; rfl), (by first | exact (below_drewN (below_drewN HB.out q1) q2) | exact below_drewN HB.out _)⟩
              case measure => simp [intOf]; omega
            · obtain ⟨bb, rfl⟩ : ∃ bb, cu = some bb := by cases cu with | none => exact absurd HTH.out (by simp) | some bb => exact ⟨bb, rfl⟩
              have hbb : bb = b := HBE.out
              have HBB := Lib.hid hbb
              clear hbb
              have HS2 : Hid (Po.lst (l.take (k + 1)) a false = some x) := by show _ = _; rw [HST.out]; dsimp only; rw [HBB.out, if_pos (by rw [HP2.out]; simp)]
              have d0 := HDG.out.1
              have hg := HDG.out.2
              go_wp2_with (go_at_call 75; refine (HL1.out _).mono ?_)
              first | rintro e w1 rfl q1 rfl | rintro e w1 q1 rfl rfl | rintro e w1 ⟨rfl, q1, rfl⟩
              go_wp2_with (go_at_call 75; refine (HL2.out _).mono ?_)
              first | rintro e w2 rfl q2 rfl | rintro e w2 q2 rfl rfl | rintro e w2 ⟨rfl, q2, rfl⟩
              go_wp2_with fail
              go_roundw
              case rel => exact ⟨k + 1, x, true, by omega, by go_num, rfl, rfl, (by show _ = _; rw [HS2.out]; rfl), (by show _ = _; rw [HS2.out]; rfl), (by first | exact (below_drewN (below_drewN HB.out q1) q2) | exact below_drewN HB.out _)⟩
              case measure => simp [intOf]; omega
      · cases t
        · obtain rfl : cu = none := by cases cu with | none => rfl | some bb => exact absurd HTH.out (by simp)
          have HS2 : Hid (Po.lst (l.take (k + 1)) a true = some x) := by show _ = _; rw [HST.out]; rfl
          have d0 := HDG.out.1
          have hg := HDG.out.2
          go_wp2_with fail
          go_roundw
          case rel => exact ⟨k + 1, x, true, by omega, by go_num, rfl, rfl, (by show _ = _; rw [HS2.out]; rfl), (by show _ = _; rw [HS2.out]; rfl), (by first | exact HB.out | exact below_drewN HB.out _)⟩
          case measure => simp [intOf]; omega
        · cases p2
          · obtain ⟨bb, rfl⟩ : ∃ bb, cu = some bb := by cases cu with | none => exact absurd HTH.out (by simp) | some bb => exact ⟨bb, rfl⟩
            have hbb : bb = b := HBE.out
            have HBB := Lib.hid hbb
            clear hbb
            have HS2 : Hid (Po.lst (l.take (k + 1)) a true = some bb) := by show _ = _; rw [HST.out]; dsimp only; rw [HBB.out, if_neg (by rw [HP2.out]; simp)]
            have d0 := HDG.out.1
            have hg := HDG.out.2
            go_wp2_with (go_at_call 75; refine (HL2.out _).mono ?_)
            first | rintro e w1 rfl q1 rfl | rintro e w1 q1 rfl rfl | rintro e w1 ⟨rfl, q1, rfl⟩
            go_wp2_with fail
            go_roundw
            case rel => exact ⟨k + 1, b, true, by omega, by go_num, rfl, rfl, (by show _ = _; rw [HS2.out]; exact HBE.out), (by show _ = _; rw [HS2.out]; rfl), (by first | exact (below_drewN HB.out q1) | exact below_drewN HB.out _)⟩
            case measure => simp [intOf]; omega
          · obtain ⟨bb, rfl⟩ : ∃ bb, cu = some bb := by cases cu with | none => exact absurd HTH.out (by simp) | some bb => exact ⟨bb, rfl⟩
            have hbb : bb = b := HBE.out
            have HBB := Lib.hid hbb
            clear hbb
            have HS2 : Hid (Po.lst (l.take (k + 1)) a true = some x) := by show _ = _; rw [HST.out]; dsimp only; rw [HBB.out, if_pos (by rw [HP2.out]; simp)]
            have d0 := HDG.out.1
            have hg := HDG.out.2
            go_wp2_with (go_at_call 75; refine (HL2.out _).mono ?_)
            first | rintro e w1 rfl q1 rfl | rintro e w1 q1 rfl rfl | rintro e w1 ⟨rfl, q1, rfl⟩
            go_wp2_with fail
            go_roundw
            case rel => exact ⟨k + 1, x, true, by omega, by go_num, rfl, rfl, (by show _ = _; rw [HS2.out]; rfl), (by show _ = _; rw [HS2.out]; rfl), (by first | exact (below_drewN HB.out q1) | exact below_drewN HB.out _)⟩
            case measure => simp [intOf]; omega
    · have n2 : (n : Int) ≤ (k : Int) := by omega
      have h1 := HBE.out
      have h2 := HTH.out
      rw [List.take_of_length_le (by rw [HN.out]; omega)] at h1 h2
      have HH := Lib.hid (show _ ∧ _ from ⟨h1, h2⟩)
      clear h1 h2
      go_wp2_with fail
      go_ret2
      exact ⟨by rw [HH.out.1, HH.out.2]; rfl, HB.out⟩

set_option maxHeartbeats 3200000 in
set_option maxRecDepth 100000 in
theorem rend_is (p : Option Addr) (ss : List Sl) (t : Can.T) (n c : Nat) (er : Int) (S : List Po.V) (h : Po.endS (ss.map Sl.view) (Po.tv t) = (er, S)) (w : World) (hn : ss.length = n) (hA : Po.At p ss w) (hB : Lab.At t.p t.ls w) (hF : ∀ s ∈ ss, Can.TAny s.t) (hG : Can.TAny t) (hl : n ≤ 1000000) (hnc : n ≤ c) (hcm : c ≤ 9223372036854775807) :
    Calls Try.prog 44 #[.slice p n c, .agg #[.string t.job, .slice t.p t.n t.c]] w fun e w' => (∃ v o1, e = .returned (.tuple #[v, .int .i64 er]) ∧ OwnR rsR w.heap.size v o1 w' ∧ o1.map Sl.view = S ∧ ∀ s ∈ o1, s ∈ ss) ∧ Below w.heap.size w w' := by
  have hb0 : Below w.heap.size w (w.alloc (.cells #[.string t.job, .slice t.p t.n t.c] 29)) := (Below.refl _ _).alloc (Nat.le_refl _) _
  have kx := alloc_new w (.cells #[.string t.job, .slice t.p t.n t.c] 29)
  have HB0 := Lib.hid hb0
  have KX := Lib.hid kx
  have HN := Lib.hid hn
  have HA := Lib.hid hA
  have HLB := Lib.hid hB
  obtain ⟨b, hok⟩ : ∃ b, Po.okVs (ss.map Sl.view) = b := ⟨_, rfl⟩
  have HRI := Lib.hid (rright35_is p ss n c b hok _ hn (hA.below hb0 (Nat.le_refl _)) hF hl)
  unfold Po.endS at h
  rw [hok] at h
  cases b
  · rw [if_neg (by simp)] at h
    simp only [Prod.mk.injEq] at h
    obtain ⟨rfl, rfl⟩ := h
    clear hn hA hB hF hG hb0 kx hok
    go_enter Try.func44, Try.ntmps44
    go_wp2_with (go_at_call 42; refine HRI.out.mono ?_)
    first | rintro e w1 rfl hb1 | rintro e w1 ⟨rfl, hb1⟩
    have hbz : Below w.heap.size w w1 := HB0.out.trans (hb1.mono (by simp))
    clear hb1
    go_wp2_with fail
    go_ret2
    exact ⟨⟨_, [], rfl, OwnR.nil _ _ _, rfl, fun s h => (nomatch h)⟩, hbz⟩
  · rw [if_pos rfl] at h
    obtain ⟨⟨i0, q⟩, hfi⟩ : ∃ x, Po.find (ss.map Sl.view) (Po.tv t) = x := ⟨_, rfl⟩
    have HFI := Lib.hid (fun w h1 h2 => rfind_is p ss t n c i0 q hfi w hn h1 h2 hF hG hl)
    have hcs : (q = false ∧ er = 6 ∧ S = []) ∨ ∃ k : Nat, q = true ∧ i0 = (k : Int) ∧ ∃ hk : k < ss.length, (ss[k].en = false ∧ er = 6 ∧ S = []) ∨ (ss[k].en = true ∧ er = 0 ∧ S = (ss.map Sl.view).eraseIdx k) := by
      unfold Po.find at hfi
      cases hx : Po.fx (ss.map Sl.view) (Po.tv t) with
      | none =>
        rw [hx] at h hfi
        simp only [Prod.mk.injEq] at h hfi
        exact .inl ⟨hfi.2.symm, h.1.symm, h.2.symm⟩
      | some k =>
        rw [hx] at h hfi
        simp only [Prod.mk.injEq] at hfi
        obtain ⟨h1, _, _⟩ := (Po.fx_facts _ _).1 k hx
        have hk : k < ss.length := by rw [List.length_map] at h1; exact h1
        refine .inr ⟨k, hfi.2.symm, hfi.1.symm, hk, ?_⟩
        simp only [List.getElem?_eq_getElem h1, List.getElem_map] at h
        cases he : ss[k].en with
        | false =>
          rw [if_neg (by show ¬ ss[k].en = true; rw [he]; simp)] at h
          simp only [Prod.mk.injEq] at h
          exact .inl ⟨rfl, h.1.symm, h.2.symm⟩
        | true =>
          rw [if_pos (by show ss[k].en = true; exact he)] at h
          simp only [Prod.mk.injEq] at h
          exact .inr ⟨rfl, h.1.symm, h.2.symm⟩
    obtain ⟨tj, tp, tn, tc, tl⟩ := t
    dsimp only at HB0 KX HLB HRI HFI
    clear h hn hA hB hF hG hb0 kx hok hfi
    go_enter Try.func44, Try.ntmps44
    go_wp2_with (go_at_call 42; refine HRI.out.mono ?_)
    first | rintro e w1 rfl hb1 | rintro e w1 ⟨rfl, hb1⟩
    have hk1 := below_kept hb1 KX.out (by simp)
    have x0 : w1.cell? ⟨w.heap.size, 0, none⟩ = some (.string tj) := by rw [Lib.cell_of_heap hk1]; rfl
    have x1 : w1.cell? ⟨w.heap.size, 1, none⟩ = some (.slice tp tn tc) := by rw [Lib.cell_of_heap hk1]; rfl
    have hlt1 : w.heap.size < w1.heap.size := lt_of_heap hk1
    have HB1 : Hid (Below w.heap.size w w1) := HB0.out.trans (hb1.mono (by simp))
    clear hb1 hk1 HRI
    go_wp2_with (go_at_call 46; refine (HFI.out _ (HA.out.below HB1.out (Nat.le_refl _)) (HLB.out.below HB1.out (Nat.le_refl _))).mono ?_)
    first | rintro e w2 rfl hb2 | rintro e w2 ⟨rfl, hb2⟩
    have HB2 : Hid (Below w.heap.size w w2) := below_next HB1.out hb2
    clear hb2 HFI x0 x1
    rcases hcs with ⟨rfl, rfl, rfl⟩ | ⟨k, rfl, rfl, hk, hcs⟩
    · go_wp2_with fail
      go_ret2
      exact ⟨⟨_, [], rfl, OwnR.nil _ _ _, rfl, fun s h => (nomatch h)⟩, HB2.out⟩
    · have hAt := HA.out.below HB2.out (Nat.le_refl _)
      obtain ⟨b0, o0, rfl, hcells⟩ := hAt.cells (by omega)
      have hcl := hAt.1
      obtain ⟨_, _, _, _, d4⟩ := hcells k hk
      have hgb : b0 < w2.heap.size := World.block_lt_of_cell? _ _ d4
      have m1 : (0 : Int) ≤ (k : Int) := by omega
      have m2 : (k : Int) < (n : Int) := by have := HN.out; omega
      rcases hcs with ⟨he, rfl, rfl⟩ | ⟨he, rfl, rfl⟩
      · rw [he] at d4
        clear hcl hcells hAt he
        go_wp2_with fail
        go_ret2
        exact ⟨⟨_, [], rfl, OwnR.nil _ _ _, rfl, fun s h => (nomatch h)⟩, HB2.out⟩
      · rw [he] at d4
        have hcc : ∀ i (h : i < ss.length), ∀ j, j < rsR.k → w2.cell? ⟨b0, o0 + i * rsR.k + j, none⟩ = (rsR.enc ss[i])[j]? := by
          rcases hcl with h0 | ⟨b', o', e', h1⟩
          · rw [h0] at hk; cases hk
          · simp only [Option.some.injEq, Addr.mk.injEq, and_true] at e'
            obtain ⟨rfl, rfl⟩ := e'
            exact h1
        have HCC := Lib.hid hcc
        have m3 : (k : Int) ≤ (n : Int) := by omega
        have m4 : (k : Int) ≤ (c : Int) := by omega
        have m5 : (n : Int) ≤ (c : Int) := by omega
        have m6 : (k : Int) + 1 ≤ (n : Int) := by omega
        have m7 : IntKind.i64.wrap ((k : Int) + 1) = (k : Int) + 1 := by rw [IntKind.wrap_i64]; omega
        have m8 : (0 : Int) ≤ (k : Int) + 1 := by omega
        have m9 : ((k : Int) + 1).toNat = k + 1 := by omega
        have HK := Lib.hid hk
        clear hcl hcells hAt he hcc
        go_wp2_with fail
        by_cases hck : c = k + 1
        · have hckT := eq_true hck
          have HCK := Lib.hid hck
          clear hck
          refine wp_region_held_drew (S := (fun _ => True)) (by kernel_rfl) trivial (fun hHeld => ?_)
          refine Rnd.take (i := 1) (v := ?_) rfl (by kernel_rfl) (by kernel_rfl) (by kernel_rfl) (fun _ _ _ h => h) (.inl ⟨by rfl, ?_⟩) (by assumption) ?_
          rotate_left
          · (intro w9 hS9; (try dsimp only at hS9); go_simp; try with_reducible rfl)
          try simp only [Act.put, List.setIfInBounds_toArray, List.set_cons_zero, List.set_cons_succ]
          refine Rnd.take (i := 2) (v := ?_) rfl (by kernel_rfl) (by kernel_rfl) (by kernel_rfl) (fun _ _ _ h => h) (.inl ⟨by rfl, ?_⟩) (by assumption) ?_
          rotate_left
          · (intro w9 hS9; (try dsimp only at hS9); go_simp; try with_reducible rfl)
          try simp only [Act.put, List.setIfInBounds_toArray, List.set_cons_zero, List.set_cons_succ]
          refine Rnd.take (i := 3) (v := ?_) rfl (by kernel_rfl) (by kernel_rfl) (by kernel_rfl) (fun _ _ _ h => h) (.inl ⟨by rfl, ?_⟩) (by assumption) ?_
          rotate_left
          · (intro w9 hS9; (try dsimp only at hS9); go_simp; try with_reducible rfl)
          try simp only [Act.put, List.setIfInBounds_toArray, List.set_cons_zero, List.set_cons_succ]
          refine Rnd.take (i := 5) (v := ?_) rfl (by kernel_rfl) (by kernel_rfl) (by kernel_rfl) (fun _ _ _ h => h) (.inl ⟨by rfl, ?_⟩) (by assumption) ?_
          rotate_left
          · (intro w9 hS9; (try dsimp only at hS9); go_simp; try with_reducible rfl)
          try simp only [Act.put, List.setIfInBounds_toArray, List.set_cons_zero, List.set_cons_succ]
          refine Rnd.take (i := 6) (v := ?_) rfl (by kernel_rfl) (by kernel_rfl) (by kernel_rfl) (fun _ _ _ h => h) (.inl ⟨by rfl, ?_⟩) (by assumption) ?_
          rotate_left
          · (intro w9 hS9; (try dsimp only at hS9); go_simp; try with_reducible rfl)
          try simp only [Act.put, List.setIfInBounds_toArray, List.set_cons_zero, List.set_cons_succ]
          refine Rnd.take (i := 7) (v := ?_) rfl (by kernel_rfl) (by kernel_rfl) (by kernel_rfl) (fun _ _ _ h => h) (.inl ⟨by rfl, ?_⟩) (by assumption) ?_
          rotate_left
          · (intro w9 hS9; (try dsimp only at hS9); go_simp; try with_reducible rfl)
          try simp only [Act.put, List.setIfInBounds_toArray, List.set_cons_zero, List.set_cons_succ]
          refine Rnd.take (i := 8) (v := ?_) rfl (by kernel_rfl) (by kernel_rfl) (by kernel_rfl) (fun _ _ _ h => h) (.inl ⟨by rfl, ?_⟩) (by assumption) ?_
          rotate_left
          · (intro w9 hS9; (try dsimp only at hS9); go_simp; try with_reducible rfl)
          try simp only [Act.put, List.setIfInBounds_toArray, List.set_cons_zero, List.set_cons_succ]
          refine wpAnyH_ready (rs := [0]) (by kernel_rfl) (by simp) ?_
          refine AllReadyH.cons rfl (fun K hK => ?_) AllReadyH.nil
          go_simp
          refine hK.out _ _ trivial (fun hHeld => ?_)
          clear hK K
          try simp only [Act.put, List.setIfInBounds_toArray, List.set_cons_zero, List.set_cons_succ]
          have ho1 : OwnR rsR w2.heap.size (.slice (some ⟨w2.heap.size, 0, none⟩) 0 0) [] ((w2.alloc (.cells #[] 128)).drew) := ⟨rfl, .inr ⟨w2.heap.size, 0, #[], rfl, Nat.le_refl _, alloc_new w2 _, Nat.le_refl _, Nat.zero_le _, rfl, rfl⟩⟩
          have hbd : Below w2.heap.size w2 ((w2.alloc (.cells #[] 128)).drew) := ((Below.refl _ _).alloc (Nat.le_refl _) _).drew
          have hc1 := fun (W : World) (hb : Below w2.heap.size w2 W) => fun i (h : i < ss.length) j (hj : j < rsR.k) => (hb.cell (p := ⟨b0, o0 + i * rsR.k + j, none⟩) hgb).trans (HCC.out i h j hj)
          have hn9 := HN.out
          have hk9 := HK.out
          refine wpAnyH_ready (rs := [4]) (by kernel_rfl) (by simp) ?_
          refine AllReadyH.cons rfl (fun K hK => ?_) AllReadyH.nil
          refine step_appRec rsOk 71 Try.underlying71 rfl _ _ rfl w2.heap.size _ [] (by rfl) (by exact ho1) ((ss.drop 0).take k) ⟨b0, o0 + 0 * rsR.k, none⟩ k c (by first | rfl | (simp; done)) (by rw [List.drop_zero, List.length_take]; omega) (Rec.newsAt rsOk (hc1 _ hbd) (by omega)) (by simp; omega) (by exact hbd.size) ?_
          intro v1 W1 ho2 hg2
          have hbW1 : Below w2.heap.size w2 W1 := hbd.grown hg2 hbd.size (fun j hj => (World.ownsRow.lt ho1 j hj).1)
          refine hK.out _ _ trivial (fun hHeld => ?_)
          clear hK K
          simp only [List.getElem_toArray, List.getElem_cons_succ, List.getElem_cons_zero]
          try simp only [Act.put, List.setIfInBounds_toArray, List.set_cons_zero, List.set_cons_succ]
          refine wpAnyH_ready (rs := [9]) (by kernel_rfl) (by simp) ?_
          refine AllReadyH.cons rfl (fun K hK => ?_) AllReadyH.nil
          refine step_appRec rsOk 71 Try.underlying71 rfl _ _ rfl w2.heap.size _ _ (by rfl) (by exact ho2) ((ss.drop (k + 1)).take (n - (k + 1))) ⟨b0, o0, none⟩ (n - (k + 1)) (c - (k + 1)) (by first | rfl | (simp; done)) (by rw [List.length_take, List.length_drop]; omega) (fun j u hj => by rw [List.drop_eq_nil_of_le (by have := HCK.out; omega)] at hj; simp [Rec.cells] at hj) (by simp; omega) (by exact hbW1.size) ?_
          intro v2 W2 ho3 hg3
          have hbW2 : Below w2.heap.size w2 W2 := hbW1.grown hg3 hbW1.size (fun j hj => (World.ownsRow.lt ho2 j hj).1)
          refine hK.out _ _ trivial (fun hHeld => ?_)
          clear hK K
          simp only [List.getElem_toArray, List.getElem_cons_succ, List.getElem_cons_zero]
          try simp only [Act.put, List.setIfInBounds_toArray, List.set_cons_zero, List.set_cons_succ]
          refine Rnd.take (i := 10) (v := ?_) rfl (by kernel_rfl) (by kernel_rfl) (by kernel_rfl) (fun _ _ _ h => h) (.inl ⟨by rfl, ?_⟩) (by assumption) ?_
          rotate_left
          · (intro w9 hS9; (try dsimp only at hS9); go_simp; try with_reducible rfl)
          try simp only [Act.put, List.setIfInBounds_toArray, List.set_cons_zero, List.set_cons_succ]
          refine Rnd.take (i := 11) (v := ?_) rfl (by kernel_rfl) (by kernel_rfl) (by kernel_rfl) (fun _ _ _ h => h) (.inl ⟨by rfl, ?_⟩) (by assumption) ?_
          rotate_left
          · (intro w9 hS9; (try dsimp only at hS9); go_simp; try with_reducible rfl)
          try simp only [Act.put, List.setIfInBounds_toArray, List.set_cons_zero, List.set_cons_succ]
          refine wpAnyH_done (by kernel_rfl) ?_ _
          clear hc1 ho1 hg2 hg3 ho2 hn9
          go_wp2_with fail
          go_ret2
          have e1 : (ss.drop (k + 1)).take (n - (k + 1)) = ss.drop (k + 1) := List.take_of_length_le (by rw [List.length_drop, HN.out]; exact Nat.le_refl _)
          have hls : [] ++ (ss.drop 0).take k ++ (ss.drop (k + 1)).take (n - (k + 1)) = ss.eraseIdx k := by rw [e1, List.drop_zero, List.nil_append, List.eraseIdx_eq_take_drop_succ]
          rw [hls] at ho3
          exact ⟨⟨v2, _, rfl, row_lift ho3 HB2.out.size, map_eraseIdx35 _ _ _, fun s hs => List.mem_of_mem_eraseIdx hs⟩, HB2.out.trans (hbW2.mono HB2.out.size)⟩
        · refine wp_region_held_drew (S := (fun _ => True)) (by kernel_rfl) trivial (fun hHeld => ?_)
          refine Rnd.take (i := 1) (v := ?_) rfl (by kernel_rfl) (by kernel_rfl) (by kernel_rfl) (fun _ _ _ h => h) (.inl ⟨by rfl, ?_⟩) (by assumption) ?_
          rotate_left
          · (intro w9 hS9; (try dsimp only at hS9); go_simp; try with_reducible rfl)
          try simp only [Act.put, List.setIfInBounds_toArray, List.set_cons_zero, List.set_cons_succ]
          refine Rnd.take (i := 2) (v := ?_) rfl (by kernel_rfl) (by kernel_rfl) (by kernel_rfl) (fun _ _ _ h => h) (.inl ⟨by rfl, ?_⟩) (by assumption) ?_
          rotate_left
          · (intro w9 hS9; (try dsimp only at hS9); go_simp; try with_reducible rfl)
          try simp only [Act.put, List.setIfInBounds_toArray, List.set_cons_zero, List.set_cons_succ]
          refine Rnd.take (i := 3) (v := ?_) rfl (by kernel_rfl) (by kernel_rfl) (by kernel_rfl) (fun _ _ _ h => h) (.inl ⟨by rfl, ?_⟩) (by assumption) ?_
          rotate_left
          · (intro w9 hS9; (try dsimp only at hS9); go_simp; try with_reducible rfl)
          try simp only [Act.put, List.setIfInBounds_toArray, List.set_cons_zero, List.set_cons_succ]
          refine Rnd.take (i := 5) (v := ?_) rfl (by kernel_rfl) (by kernel_rfl) (by kernel_rfl) (fun _ _ _ h => h) (.inl ⟨by rfl, ?_⟩) (by assumption) ?_
          rotate_left
          · (intro w9 hS9; (try dsimp only at hS9); go_simp; try with_reducible rfl)
          try simp only [Act.put, List.setIfInBounds_toArray, List.set_cons_zero, List.set_cons_succ]
          refine Rnd.take (i := 6) (v := ?_) rfl (by kernel_rfl) (by kernel_rfl) (by kernel_rfl) (fun _ _ _ h => h) (.inl ⟨by rfl, ?_⟩) (by assumption) ?_
          rotate_left
          · (intro w9 hS9; (try dsimp only at hS9); go_simp; try with_reducible rfl)
          try simp only [Act.put, List.setIfInBounds_toArray, List.set_cons_zero, List.set_cons_succ]
          refine Rnd.take (i := 7) (v := ?_) rfl (by kernel_rfl) (by kernel_rfl) (by kernel_rfl) (fun _ _ _ h => h) (.inl ⟨by rfl, ?_⟩) (by assumption) ?_
          rotate_left
          · (intro w9 hS9; (try dsimp only at hS9); go_simp; try with_reducible rfl)
          try simp only [Act.put, List.setIfInBounds_toArray, List.set_cons_zero, List.set_cons_succ]
          refine Rnd.take (i := 8) (v := ?_) rfl (by kernel_rfl) (by kernel_rfl) (by kernel_rfl) (fun _ _ _ h => h) (.inl ⟨by rfl, ?_⟩) (by assumption) ?_
          rotate_left
          · (intro w9 hS9; (try dsimp only at hS9); go_simp; try with_reducible rfl)
          try simp only [Act.put, List.setIfInBounds_toArray, List.set_cons_zero, List.set_cons_succ]
          refine wpAnyH_ready (rs := [0]) (by kernel_rfl) (by simp) ?_
          refine AllReadyH.cons rfl (fun K hK => ?_) AllReadyH.nil
          go_simp
          refine hK.out _ _ trivial (fun hHeld => ?_)
          clear hK K
          try simp only [Act.put, List.setIfInBounds_toArray, List.set_cons_zero, List.set_cons_succ]
          have ho1 : OwnR rsR w2.heap.size (.slice (some ⟨w2.heap.size, 0, none⟩) 0 0) [] ((w2.alloc (.cells #[] 128)).drew) := ⟨rfl, .inr ⟨w2.heap.size, 0, #[], rfl, Nat.le_refl _, alloc_new w2 _, Nat.le_refl _, Nat.zero_le _, rfl, rfl⟩⟩
          have hbd : Below w2.heap.size w2 ((w2.alloc (.cells #[] 128)).drew) := ((Below.refl _ _).alloc (Nat.le_refl _) _).drew
          have hc1 := fun (W : World) (hb : Below w2.heap.size w2 W) => fun i (h : i < ss.length) j (hj : j < rsR.k) => (hb.cell (p := ⟨b0, o0 + i * rsR.k + j, none⟩) hgb).trans (HCC.out i h j hj)
          have hn9 := HN.out
          have hk9 := HK.out
          refine wpAnyH_ready (rs := [4]) (by kernel_rfl) (by simp) ?_
          refine AllReadyH.cons rfl (fun K hK => ?_) AllReadyH.nil
          refine step_appRec rsOk 71 Try.underlying71 rfl _ _ rfl w2.heap.size _ [] (by rfl) (by exact ho1) ((ss.drop 0).take k) ⟨b0, o0 + 0 * rsR.k, none⟩ k c (by first | rfl | (simp; done)) (by rw [List.drop_zero, List.length_take]; omega) (Rec.newsAt rsOk (hc1 _ hbd) (by omega)) (by simp; omega) (by exact hbd.size) ?_
          intro v1 W1 ho2 hg2
          have hbW1 : Below w2.heap.size w2 W1 := hbd.grown hg2 hbd.size (fun j hj => (World.ownsRow.lt ho1 j hj).1)
          refine hK.out _ _ trivial (fun hHeld => ?_)
          clear hK K
          simp only [List.getElem_toArray, List.getElem_cons_succ, List.getElem_cons_zero]
          try simp only [Act.put, List.setIfInBounds_toArray, List.set_cons_zero, List.set_cons_succ]
          refine wpAnyH_ready (rs := [9]) (by kernel_rfl) (by simp) ?_
          refine AllReadyH.cons rfl (fun K hK => ?_) AllReadyH.nil
          refine step_appRec rsOk 71 Try.underlying71 rfl _ _ rfl w2.heap.size _ _ (by rfl) (by exact ho2) ((ss.drop (k + 1)).take (n - (k + 1))) ⟨b0, o0 + (k + 1) * rsR.k, none⟩ (n - (k + 1)) (c - (k + 1)) (by first | rfl | (simp; done)) (by rw [List.length_take, List.length_drop]; omega) (Rec.newsAt rsOk (hc1 _ hbW1) (by omega)) (by simp; omega) (by exact hbW1.size) ?_
          intro v2 W2 ho3 hg3
          have hbW2 : Below w2.heap.size w2 W2 := hbW1.grown hg3 hbW1.size (fun j hj => (World.ownsRow.lt ho2 j hj).1)
          refine hK.out _ _ trivial (fun hHeld => ?_)
          clear hK K
          simp only [List.getElem_toArray, List.getElem_cons_succ, List.getElem_cons_zero]
          try simp only [Act.put, List.setIfInBounds_toArray, List.set_cons_zero, List.set_cons_succ]
          refine Rnd.take (i := 10) (v := ?_) rfl (by kernel_rfl) (by kernel_rfl) (by kernel_rfl) (fun _ _ _ h => h) (.inl ⟨by rfl, ?_⟩) (by assumption) ?_
          rotate_left
          · (intro w9 hS9; (try dsimp only at hS9); go_simp; try with_reducible rfl)
          try simp only [Act.put, List.setIfInBounds_toArray, List.set_cons_zero, List.set_cons_succ]
          refine Rnd.take (i := 11) (v := ?_) rfl (by kernel_rfl) (by kernel_rfl) (by kernel_rfl) (fun _ _ _ h => h) (.inl ⟨by rfl, ?_⟩) (by assumption) ?_
          rotate_left
          · (intro w9 hS9; (try dsimp only at hS9); go_simp; try with_reducible rfl)
          try simp only [Act.put, List.setIfInBounds_toArray, List.set_cons_zero, List.set_cons_succ]
          refine wpAnyH_done (by kernel_rfl) ?_ _
          clear hc1 ho1 hg2 hg3 ho2 hn9
          go_wp2_with fail
          go_ret2
          have e1 : (ss.drop (k + 1)).take (n - (k + 1)) = ss.drop (k + 1) := List.take_of_length_le (by rw [List.length_drop, HN.out]; exact Nat.le_refl _)
          have hls : [] ++ (ss.drop 0).take k ++ (ss.drop (k + 1)).take (n - (k + 1)) = ss.eraseIdx k := by rw [e1, List.drop_zero, List.nil_append, List.eraseIdx_eq_take_drop_succ]
          rw [hls] at ho3
          exact ⟨⟨v2, _, rfl, row_lift ho3 HB2.out.size, map_eraseIdx35 _ _ _, fun s hs => List.mem_of_mem_eraseIdx hs⟩, HB2.out.trans (hbW2.mono HB2.out.size)⟩
end Go.Proofs.Ytpnpgjjbincigaa
