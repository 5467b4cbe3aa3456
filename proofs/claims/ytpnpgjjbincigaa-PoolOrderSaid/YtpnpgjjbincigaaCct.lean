/- Contracts of slices.Grow (of nothing) and slices.Concat at targets. -/
import Derived.Test.YtpnpgjjbincigaaRws
import Derived.Test.YtpnpgjjbincigaaShelfG
namespace Go.Proofs.Ytpnpgjjbincigaa
open Go.RowKit
set_option linter.unusedVariables false

theorem growT_is (n : Nat) (w : World) (hn : n ≤ 100000) :
    Calls Try.prog 70 #[.slice none 0 0, .int .i64 (n : Int)] w fun e w' => (∃ v, e = .returned v ∧ OwnR tgR w.heap.size v [] w') ∧ Below w.heap.size w w' := by
  by_cases h0 : n = 0
  · subst h0
    refine (Any8.slices_Grow_room Try.growT none 0 0 0 w (Nat.le_refl _) (by decide) (by decide) (Nat.le_refl _)).mono ?_
    rintro e w' ⟨rfl, rfl⟩
    exact ⟨⟨_, rfl, OwnR.nil _ _ _⟩, Below.refl _ _⟩
  · obtain ⟨i0, hi, hz0, hz1, hz2⟩ := info_parts tgOk.info
    have hk : i0.size = 2 := hz1
    have hby : i0.bytes = 40 := hz2
    refine (Any8.slices_Grow_grow Try.growT i0 tgR.z hi hz0 (by omega) none 0 0 n [] w (Nat.le_refl _) (by omega) (by rw [hby]; omega) (by omega) (by simp) (fun _ => rfl) (fun a h => (nomatch h))).mono ?_
    rintro e w' ⟨rfl, rfl⟩
    refine ⟨⟨_, rfl, ?_⟩, (Below.refl _ _).drew.alloc (Nat.le_refl _) _⟩
    refine And.intro rfl (Or.inr ?_)
    refine ⟨w.heap.size, grownCap w (0 + n) 0 (Try.growT_ren.t 25), _, rfl, Nat.le_refl _, alloc_new w.drew _, Nat.zero_le _, ?_, ?_, rfl⟩
    · exact grownCap_le_maxLen _ _ _ _ (by unfold maxLen; omega)
    · have h1 := grownCap_ge w (0 + n) 0 (Try.growT_ren.t 25)
      have h2 : tgR.z.cells.size = 2 := rfl
      have h3 : tgR.k = 2 := rfl
      obtain ⟨G, hG⟩ : ∃ G, G = grownCap w (0 + n) 0 (Try.growT_ren.t 25) := ⟨_, rfl⟩
      rw [← hG] at h1 ⊢
      simp only [Array.size_append, Builtin.zeroCells, Array.size_map, Array.size_range, h2, h3, List.size_toArray, List.length_nil, Nat.sub_zero, Nat.zero_add] at h1 ⊢
      omega
/-- a row of rows of targets -/
abbrev Po.Src := Option Addr × Nat × Nat × List Can.T
def Po.SrcAt (b : Nat) (L : List Po.Src) (w : World) : Prop := ∀ i (h : i < L.length), w.cell? ⟨b, i, none⟩ = some (.slice L[i].1 L[i].2.1 L[i].2.2.1)
def Po.SrcOk (L : List Po.Src) (w : World) : Prop := ∀ x ∈ L, x.2.2.2.length = x.2.1 ∧ (x.1 = none → x.2.1 = 0 ∧ x.2.2.1 = 0) ∧ Po.TgAt x.1 x.2.2.2 w ∧ x.2.1 ≤ 1000
def Po.cat (L : List Po.Src) (k : Nat) : List Can.T := (L.take k).flatMap (·.2.2.2)
theorem Po.cat_succ (L : List Po.Src) (k : Nat) (h : k < L.length) : Po.cat L (k + 1) = Po.cat L k ++ L[k].2.2.2 := by
  unfold Po.cat
  rw [List.take_add_one, List.getElem?_eq_getElem h, List.flatMap_append]
  simp
theorem Po.cat_len (L : List Po.Src) (w : World) (h : Po.SrcOk L w) : ∀ k, (Po.cat L k).length ≤ k * 1000 := by
  intro k
  induction k with
  | zero => simp [Po.cat]
  | succ k ih =>
    by_cases hk : k < L.length
    · rw [Po.cat_succ L k hk, List.length_append]
      obtain ⟨h1, _, _, h2⟩ := h L[k] (List.getElem_mem _)
      omega
    · have : Po.cat L (k + 1) = Po.cat L k := by
        unfold Po.cat
        rw [List.take_of_length_le (by omega), List.take_of_length_le (by omega)]
      rw [this]
      exact Nat.le_trans ih (Nat.mul_le_mul_right _ (Nat.le_succ k))
theorem Po.TgAt.news {ad : Addr} {ts : List Can.T} {w : World} (h : Po.TgAt (some ad) ts w) : ∀ j u, (tgR.cells ts)[j]? = some u → w.cell? (ad.add j) = some u := by
  intro j u hj
  have hlt : j < ts.length * 2 := by
    have := (List.getElem?_eq_some_iff.1 hj).1
    rw [tgOk.length] at this; exact this
  have hi : j / 2 < ts.length := by omega
  have hg := tgOk.get ts (j / 2) hi (j % 2) (Nat.mod_lt _ (by decide))
  rw [show j / 2 * tgR.k + j % 2 = j by show j / 2 * 2 + j % 2 = j; omega] at hg
  rw [hg] at hj
  rcases h with h | ⟨b, o, hp, _, hc⟩
  · rw [h] at hi; simp at hi
  · simp only [Option.some.injEq] at hp
    subst hp
    obtain ⟨c0, c1, _⟩ := hc (j / 2) hi
    have ha : (⟨b, o, none⟩ : Addr).add j = ⟨b, o + j, none⟩ := by unfold Addr.add; split <;> simp_all
    rw [ha]
    rcases Nat.mod_two_eq_zero_or_one j with h2 | h2
    · rw [h2] at hj
      have hj' : some (Value.string ts[j / 2].job) = some u := hj
      rw [← hj', ← c0, show o + j / 2 * 2 = o + j by omega]
    · rw [h2] at hj
      have hj' : some (Value.slice ts[j / 2].p ts[j / 2].n ts[j / 2].c) = some u := hj
      rw [← hj', ← c1, show o + j / 2 * 2 + 1 = o + j by omega]
/-- a row of targets, seen at its place -/
theorem OwnR.tgAt {B n c : Nat} {p : Option Addr} {l : List Can.T} {w : World} (h : OwnR tgR B (.slice p n c) l w) (hL : ∀ t ∈ l, Lab.At t.p t.ls w) : Po.TgAt p l w := by
  rcases h.open tgOk with ⟨_, h2⟩ | ⟨g, c', e, h1, h2, h3, h4, hA⟩
  · exact .inl h2
  · simp only [Value.slice.injEq] at e
    obtain ⟨rfl, _⟩ := e
    by_cases h0 : l = []
    · exact .inl h0
    · have hl0 : 0 < l.length := List.length_pos_iff.2 h0
      have hb : g < w.heap.size := by
        have := hA 0 hl0 0 (by decide)
        exact World.block_lt_of_cell? _ _ this
      refine .inr ⟨g, 0, rfl, hb, fun i hi => ⟨?_, ?_, hL _ (List.getElem_mem _)⟩⟩
      · rw [Nat.zero_add]; exact hA i hi 0 (by decide)
      · rw [Nat.zero_add]; exact hA i hi 1 (by decide)
/-- 'append(v, x...)' of a row of targets -/
theorem wpList_appT {ops : Array Oper} {rest : List Oper} {o : Oper} {a : Act} {Q : Exit → Act → World → Prop} (hgd : o.guard = none) (s x : Operand)
    (ho : o.op = .call { callee := .builtin .append, args := #[s, x], argTypes := #[23, 23] })
    (B : Nat) (v : Value) (l : List Can.T) (w : World) (hs : a.eval s = v) (hown : OwnR tgR B v l w) (y : Po.Src) (hx : a.eval x = .slice y.1 y.2.1 y.2.2.1) (h1 : y.2.2.2.length = y.2.1) (h2 : y.1 = none → y.2.1 = 0 ∧ y.2.2.1 = 0) (h3 : Po.TgAt y.1 y.2.2.2 w)
    (hlen : l.length + y.2.1 ≤ 1000000) (hB : B ≤ w.heap.size)
    (h : ∀ v' w', OwnR tgR B v' (l ++ y.2.2.2) w' → w.grownBy w' v.ownBlock → wpList Try.prog ops Q rest (a.put o.dst v') w') :
    wpList Try.prog ops Q (o :: rest) a w := by
  obtain ⟨i0, hi, hz0, hz1, hz2⟩ := info_parts tgOk.info
  obtain ⟨p, n, c, ts⟩ := y
  dsimp only at hx h1 h2 h3 hlen h
  cases p with
  | none =>
    obtain ⟨rfl, rfl⟩ := h2 rfl
    obtain rfl : ts = [] := List.length_eq_zero_iff.1 h1
    refine wpList_append_own_none hgd s x 23 ho B tgR.T i0 2 Try.underlying23 hi v l.length (tgR.cells l) hs hown hx ?_
    exact h v w (by rw [List.append_nil]; exact hown) ⟨rfl, rfl, rfl, Nat.le_refl _, fun _ _ _ => rfl⟩
  | some ad =>
    refine wpList_append_own _ hgd s x 23 ho B tgR.T i0 tgR.z tgR.k tgR.bytes Try.underlying23 hi hz0 hz1 hz2 tgOk.zs tgOk.pos v l.length (tgR.cells l) hs hown ad n c (tgR.cells ts) hx (by rw [tgOk.length, h1]) ?_ (tgOk.ones _) ?_ ?_ hB ?_
    · exact h3.news
    · unfold maxLen; omega
    · have h9 : (l.length + n) * tgR.bytes ≤ 1000000 * 40 := Nat.mul_le_mul hlen (Nat.le_refl 40)
      exact Nat.le_trans h9 (by decide)
    · intro v' w' k1 k2 _
      refine h v' w' ?_ k2
      unfold OwnR
      rw [Rec.cells_append, List.length_append, h1]
      exact k1

set_option maxHeartbeats 1600000 in
set_option maxRecDepth 100000 in
theorem concatT_is (b : Nat) (L : List Po.Src) (m c : Nat) (w : World) (hm : L.length = m) (hm10 : m ≤ 10) (hA : Po.SrcAt b L w) (hO : Po.SrcOk L w) :
    Calls Try.prog 37 #[.slice (some ⟨b, 0, none⟩) m c] w fun e w' => (∃ v, e = .returned v ∧ OwnR tgR w.heap.size v (L.flatMap (·.2.2.2)) w') ∧ Below w.heap.size w w' := by
  have HM := Lib.hid hm
  have HA := Lib.hid hA
  have HO := Lib.hid hO
  have HCL := Lib.hid (Po.cat_len L w hO)
  clear hm hA hO
  go_enter Try.func37, Try.ntmps37
  go_wp2_with fail
  go_loopw [3, 11] (fun s i wr => ∃ k : Nat, k ≤ m ∧ i = .int .i64 (k : Int) ∧ s = .int .i64 ((Po.cat L k).length : Int) ∧ wr = w) (fun _ i _ => m - (intOf i).toNat)
  case atStart => exact ⟨0, Nat.zero_le _, rfl, rfl, rfl⟩
  case round =>
    obtain ⟨k, hk, rfl, rfl, rfl⟩ := hrel
    by_cases hlt : k < m
    · have hkl : k < L.length := by rw [HM.out]; exact hlt
      have d0 := HA.out k hkl
      obtain ⟨f1, f2, f3, f4⟩ := HO.out L[k] (List.getElem_mem _)
      have hsu := congrArg List.length (Po.cat_succ L k hkl)
      rw [List.length_append] at hsu
      obtain ⟨x, hx⟩ : ∃ x, L[k] = x := ⟨_, rfl⟩
      rw [hx] at d0 f1 f2 f3 f4 hsu
      obtain ⟨p, n, c', ts⟩ := x
      dsimp only at d0 f1 f2 f3 f4 hsu
      have hcl := HCL.out k
      obtain ⟨q, hq⟩ : ∃ q, (Po.cat L k).length = q := ⟨_, rfl⟩
      rw [hq] at hsu hcl ⊢
      have n1 : (0 : Int) ≤ (k : Int) := by omega
      have n2 : (k : Int) < (m : Int) := by omega
      have r1 : IntKind.i64.wrap ((q : Int) + (n : Int)) = (q : Int) + (n : Int) := by rw [IntKind.wrap_i64]; omega
      have n3 : (0 : Int) ≤ (q : Int) + (n : Int) := by omega
      have hq2 : ((Po.cat L (k + 1)).length : Int) = (q : Int) + (n : Int) := by omega
      have HQ2 := Lib.hid hq2
      clear hx hsu hq2 f3 hq
      go_wp2_with fail
      go_roundw
      case rel => exact ⟨k + 1, by omega, by go_num, (by rw [HQ2.out]), trivial⟩
      case measure => simp [intOf]; omega
    · obtain rfl : k = m := by omega
      have n2 : (k : Int) ≤ (k : Int) := Int.le_refl _
      have hcl := HCL.out k
      have HG := Lib.hid (growT_is (Po.cat L k).length wr (by omega))
      obtain ⟨q, hq⟩ : ∃ q, (Po.cat L k).length = q := ⟨_, rfl⟩
      rw [hq] at HG ⊢
      clear hq hcl
      go_wp2_with (go_at_call 70; refine HG.out.mono ?_)
      first | rintro e w1 v rfl hv hb1 | rintro e w1 ⟨⟨v, rfl, hv⟩, hb1⟩
      have HV1 := Lib.hid hv
      have HB1 := Lib.hid hb1
      clear hv hb1 HG
      go_wp2_with fail
      go_loopw [6, 27] (fun v i wj => ∃ j : Nat, j ≤ k ∧ i = .int .i64 (j : Int) ∧ Hid (OwnR tgR wr.heap.size v (Po.cat L j) wj) ∧ Hid (Below wr.heap.size wr wj)) (fun _ i _ => k - (intOf i).toNat)
      case atStart => exact ⟨0, Nat.zero_le _, rfl, HV1.out, HB1.out⟩
      case round =>
        obtain ⟨wj, rfl⟩ : ∃ wo : World, wo = wr := ⟨_, rfl⟩
        obtain ⟨j, hj, rfl, HV, HB⟩ := hrel
        have hsz := HB.out.size
        by_cases hlt : j < k
        · have hkl : j < L.length := by rw [HM.out]; exact hlt
          have d0 := HA.out j hkl
          have hb := World.block_lt_of_cell? _ _ d0
          replace d0 := (HB.out.cell (p := ⟨b, j, none⟩) hb).trans d0
          obtain ⟨f1, f2, f3, f4⟩ := HO.out L[j] (List.getElem_mem _)
          have f5 : Po.TgAt _ _ wj := f3.pos.below HB.out (Nat.le_refl _)
          have hsu := Po.cat_succ L j hkl
          have hcl := HCL.out j
          obtain ⟨x, hx⟩ : ∃ x, L[j] = x := ⟨_, rfl⟩
          rw [hx] at d0 f1 f2 f4 f5 hsu
          obtain ⟨p, n, c', ts⟩ := x
          dsimp only at d0 f1 f2 f4 f5 hsu
          have n1 : (0 : Int) ≤ (j : Int) := by omega
          have n2 : (j : Int) < (k : Int) := by omega
          have HSU := Lib.hid hsu
          have HF1 := Lib.hid f1
          have HF2 := Lib.hid f2
          have HF5 := Lib.hid f5
          clear hx hsu f1 f2 f3 f5
          go_wp2_with (at_builtin; refine wpList_appT rfl _ _ rfl wr.heap.size _ (Po.cat L j) wj rfl (by exact HV.out) (p, n, c', ts) rfl HF1.out HF2.out HF5.out ?_ ?_ ?_)
          · show _ + n ≤ _; omega
          rintro v' w4 ho hg
          have hb4 : Below wr.heap.size wr w4 := HB.out.grown hg hsz (fun q hq => (World.ownsRow.lt HV.out q hq).1)
          go_wp2_with fail
          go_roundw
          case rel => exact ⟨j + 1, by omega, by go_num, (by show OwnR _ _ _ _ _; rw [HSU.out]; exact ho), hb4⟩
          case measure => simp [intOf]; omega
        · obtain rfl : j = k := by omega
          have n2 : (j : Int) ≤ (j : Int) := Int.le_refl _
          have he : Po.cat L j = L.flatMap (·.2.2.2) := by
            unfold Po.cat
            rw [List.take_of_length_le (by rw [HM.out]; exact Nat.le_refl _)]
          have hv := HV.out
          rw [he] at hv
          clear he
          go_wp2_with fail
          go_ret
          exact ⟨⟨_, rfl, hv⟩, HB.out⟩
end Go.Proofs.Ytpnpgjjbincigaa
