/- Contracts of the reference's Set and Merge. -/
import Derived.Test.YtflmojjpdmbnaaaL5C
import Derived.Test.YtflmojjpdmbnaaaL5Q
namespace Go.Proofs.Ytflmojjpdmbnaaa
open Go.RowKit

theorem run_append_types' {P : Program} {w : World} (t t2 ty e e2 : TypeId) (i : TypeInfo) (ht : P.underlying t = some (.slice e)) (ht2 : P.underlying t2 = some (.slice e2)) (hi : P.info? e = some i) (b : Option Addr) (n c : Nat) (x : Value) :
    (Builtin.append_ #[t, t2] ty #[.slice b n c, x]).run P w = (Builtin.append_ #[t, t] ty #[.slice b n c, x]).run P w := by
  unfold Builtin.append_
  simp [run_underlying ht, run_underlying ht2, sizeOf, typeInfo, hi]
/-- 'append(v, labels..)' of labels at whatever address -/
theorem wpList_catG {ops : Array Oper} {rest : List Oper} {o : Oper} {a : Act} {w : World} {Q : Exit → Act → World → Prop} (hgd : o.guard = none) (s x : Operand) (T T2 : TypeId) (hT : Try.prog.underlying T = some (.slice 36)) (hT2 : Try.prog.underlying T2 = some (.slice 36))
    (ho : o.op = .call { callee := .builtin .append, args := #[s, x], argTypes := #[T, T2] })
    (B : Nat) (b : Option Addr) (vn vc : Nat) (l : List Lab.L) (hs : a.eval s = .slice b vn vc) (hown : OwnLabels B (.slice b vn vc) l w) (r : List Lab.L) (p : Option Addr) (n c : Nat) (hx : a.eval x = .slice p n c) (hn : r.length = n) (hp : p = none → c = 0)
    (hA : Lab.At p r w) (hlen : l.length + n ≤ 100000) (hB : B ≤ w.heap.size)
    (h : ∀ v' w', OwnLabels B v' (l ++ r) w' → w.grownBy w' (Value.slice b vn vc).ownBlock → wpList Try.prog ops Q rest (a.put o.dst v') w') : wpList Try.prog ops Q (o :: rest) a w := by
  obtain ⟨i0, hi, hz0, hz1, hz2⟩ := info_parts infoLab
  refine wpList_plain hgd fun K hK => ?_
  have key : ∃ v' w', (Builtin.append_ #[T, T2] o.type #[.slice b vn vc, .slice p n c]).run Try.prog w = .ok v' w' ∧ OwnLabels B v' (l ++ r) w' ∧ w.grownBy w' (Value.slice b vn vc).ownBlock := by
    rcases hA.cases with ⟨rfl, rfl⟩ | ⟨ad, rfl, hnews⟩
    · obtain rfl := hp rfl
      obtain rfl : n = 0 := hn.symm
      have hrun := run_append_owned_none (P := Try.prog) (w := w) B T o.type 36 i0 2 hT hi (.slice b vn vc) l.length (Lab.cells l) hown
      exact ⟨_, w, (run_append_types' T T2 o.type _ _ i0 hT hT2 hi b vn vc _).trans hrun, by rw [List.append_nil]; exact hown, rfl, rfl, rfl, Nat.le_refl _, fun _ _ _ => rfl⟩
    · subst hn
      obtain ⟨v', w', h1, h2, h3, _⟩ := run_append_own (P := Try.prog) w B T o.type 36 i0 _ 2 32 hT hi hz0 hz1 hz2 rfl (by decide) (.slice b vn vc) l.length (Lab.cells l) hown ad r.length c (Lab.cells r) (Lab.cells_length r) hnews (Lab.cells_one _) (by unfold maxLen; omega) (by omega) hB
      refine ⟨v', w', (run_append_types' T T2 o.type _ _ i0 hT hT2 hi b vn vc _).trans h1, ?_, h3⟩
      unfold OwnLabels
      rw [Lab.cells_append, List.length_append]
      exact h2
  obtain ⟨v', w', hr, h2, h3⟩ := key
  unfold Oper.wp
  simp [execOp, ho, resolve, invoke, builtin, hs, hx, hr, Result.andThen]
  exact hK _ _ (h v' w' h2 h3)
/-- what goes on from labels of one's own, put by put -/
structure Lab.Going (B k : Nat) (goal : List Lab.L) (todo : List Lab.L) (q : Option Addr) (m d : Nat) (out : List Lab.L) (wr : World) : Prop where
  n : out.length = m
  o : OwnLabels B (.slice q m d) out wr
  r : Lab.rputs out todo = goal
  f : ∀ x ∈ out, x.n.size ≤ maxLen ∧ x.v.size ≤ maxLen
  l : m ≤ k
theorem Lab.rput1_len (l : List Lab.L) (x : Lab.L) : (Lab.rput1 l x).length ≤ l.length + 1 := Lab.rput_length x l _

set_option maxHeartbeats 6400000 in
set_option maxRecDepth 100000 in
theorem rset_contract (p p2 : Option Addr) (ls es : List Lab.L) (n c n2 c2 : Nat) (r : List Lab.L) (er : Int) (h : Lab.set ls es = (r, er)) (w : World) (hn : ls.length = n) (hn2 : es.length = n2) (hA : Lab.At p ls w) (hB : Lab.At p2 es w) (hF : Lab.Fit maxLen ls) (hF2 : Lab.Fit maxLen es) (hp : p = none → c = 0) (hl : n ≤ 5000) (hl2 : n2 ≤ 5000) :
    Calls Try.prog 68 #[.slice p n c, .slice p2 n2 c2] w fun e w' => (∃ v, e = .returned (.tuple #[v, .int .i64 er]) ∧ OwnLabels w.heap.size v r w') ∧ Below w.heap.size w w' := by
  obtain ⟨b, hb⟩ : ∃ b, Lab.right ls = b := ⟨_, rfl⟩
  have HRT := Lib.hid (rright_is p ls n c b hb w hn hA hF (by unfold maxLen; omega))
  cases b
  · unfold Lab.set at h
    rw [hb, if_neg (by simp)] at h
    simp only [Prod.mk.injEq] at h
    obtain ⟨rfl, rfl⟩ := h
    clear hb hn hn2 hA hB hF hF2 hp
    go_enter Try.func68, Try.ntmps68
    go_wp2_with (go_at_call 102; refine HRT.out.mono ?_)
    first | rintro e w1 rfl hb1 | rintro e w1 ⟨rfl, hb1⟩
    go_wp2_with fail
    go_ret2
    exact ⟨⟨_, rfl, OwnLabels.nil _ _⟩, hb1⟩
  have hst := Lab.rset_is ls es hb
  have HSET := Lib.hid h
  have HRI := Lib.hid hb
  have HN2 := Lib.hid hn2
  have HN := Lib.hid hn
  have HA := Lib.hid hA
  have HB := Lib.hid hB
  have HFT := Lib.hid hF2
  have HFL := Lib.hid hF
  have HD := Lib.hid (Lab.oneAll_drop es)
  have HRD := Lib.hid (fun m k h => Lab.rputs_drop m es k h)
  obtain ⟨goal, hgoal⟩ : ∃ g, Lab.tabL ls es = g := ⟨_, rfl⟩
  rw [hgoal] at hst
  have HST := Lib.hid hst
  have HGO := Lib.hid hgoal
  clear h hb hn hn2 hA hB hF hF2 hst hgoal
  go_enter Try.func68, Try.ntmps68
  go_wp2_with (go_at_call 102; refine HRT.out.mono ?_)
  first | rintro e w1 rfl hb1 | rintro e w1 ⟨rfl, hb1⟩
  have hown0 := OwnLabels.made w1 w.heap.size hb1.size
  have HA1 := Lib.hid ((HA.out.below hb1 (Nat.le_refl _)).alloc (.cells #[] 36))
  clear HRT
  go_wp2_with (at_builtin; refine wpList_catG rfl _ _ 22 22 Try.underlying22 Try.underlying22 rfl w.heap.size _ _ _ [] rfl hown0 ls _ _ _ rfl HN.out hp HA1.out (by simp only [List.length_nil]; omega) (by have := hb1.size; simp; omega) ?_)
  intro v2 w2 hown2 hg2
  have hb2 : Below w.heap.size w w2 := (hb1.alloc hb1.size _).grown hg2 (by have := hb1.size; simp; omega) (fun j hj => (World.ownsRow.lt hown0 j hj).1)
  obtain ⟨q0, d0, hv0, _⟩ := OwnLabels.open hown2
  have hgo0 : ∃ d, v2 = .slice q0 n d ∧ Lab.Going w.heap.size (n + 0) goal (es.drop 0) q0 n d ls w2 := by
    have e : ls.length = n := HN.out
    try simp only [List.nil_append] at hv0 hown2
    rw [e] at hv0
    exact ⟨d0, hv0, ⟨e, by rw [← hv0]; exact hown2, HST.out, HFL.out, by omega⟩⟩
  obtain ⟨d0', rfl, hgo⟩ := hgo0
  have HG0 := Lib.hid hgo
  clear hown0 hg2 hown2 hv0 hgo HA1 hb1
  go_wp2_with fail
  go_loopw [7, 6] (fun i v wr => ∃ (k : Nat) (q : Option Addr) (out : List Lab.L) (m d : Nat), k ≤ n2 ∧ i = .int .i64 (k : Int) ∧ v = .slice q m d ∧ Hid (Lab.Going w.heap.size (n + k) goal (es.drop k) q m d out wr) ∧ Hid (Lab.oneAll (es.drop k) = Lab.oneAll es) ∧ Below w.heap.size w wr) (fun i _ _ => n2 - (intOf i).toNat)
  case atStart => exact ⟨0, q0, ls, n, d0', Nat.zero_le _, rfl, rfl, HG0, rfl, hb2⟩
  case round =>
    clear HG0 hb2
    obtain ⟨k, q, out, m, d, hk, rfl, rfl, HG, HK, hb⟩ := hrel
    have hgl := HG.out.l
    by_cases hlt : k < n2
    · have hkl : k < es.length := by rw [HN2.out]; exact hlt
      have hBw := HB.out.below hb (Nat.le_refl _)
      obtain ⟨b, o, rfl, hc⟩ := hBw.open k hkl
      have c0 := (hc k hkl).1
      have c1 := (hc k hkl).2
      have hst := HK.out
      rw [HD.out k hkl] at hst
      have hrp := HG.out.r
      rw [HRD.out out k hkl] at hrp
      have hfx := HFT.out es[k] (List.getElem_mem _)
      obtain ⟨x, hx⟩ : ∃ x, es[k] = x := ⟨_, rfl⟩
      rw [hx] at c0 c1 hst hfx hrp
      obtain ⟨e1, he1⟩ : ∃ e, Lab.one x = e := ⟨_, rfl⟩
      have HW := Lib.hid (fun w => wrong_is x e1 he1 w hfx.1 hfx.2)
      rw [he1] at hst
      have n1 : (0 : Int) ≤ (k : Int) := by omega
      have n3 : (k : Int) < (n2 : Int) := by omega
      obtain ⟨r2, hr2⟩ : ∃ r2, Lab.rput1 out x = r2 := ⟨_, rfl⟩
      rw [hr2] at hrp
      have hlen2 : r2.length ≤ m + 1 := by
        rw [← hr2, ← HG.out.n]
        exact Lab.rput1_len out x
      have hfr2 : ∀ y ∈ r2, y.n.size ≤ maxLen ∧ y.v.size ≤ maxLen := fun y hy => by
        rw [← hr2] at hy
        rcases Lab.rput1_mem hy with h1 | rfl
        · exact HG.out.f y h1
        · exact hfx
      have HP := Lib.hid (fun w hA => rput_is q out m d x r2 hr2 w HG.out.n hA HG.out.f hfx.1 (by omega))
      have HRP := Lib.hid hrp
      have HF2 := Lib.hid hfr2
      have HAT := Lib.hid HG.out.o.at
      clear hc hx hfx he1 HK hr2 hrp hfr2
      go_wp2_with (go_at_call 88; refine (HW.out _).mono ?_)
      first | rintro e w1 rfl hb1 | rintro e w1 ⟨rfl, hb1⟩
      have hb2 := below_next hb hb1
      have HAT2 := Lib.hid (HAT.out.below hb1 (Nat.le_refl _))
      have d0 := cell_later hb1 c0 (Nat.le_refl _)
      have d1 := cell_later hb1 c1 (Nat.le_refl _)
      clear hb1 HW c0 c1 HAT hBw
      by_cases hz : e1 = 0
      · rw [if_pos hz] at hst
        subst hz
        have HO2 := Lib.hid hst
        clear hst
        go_wp2_with (go_at_call 91; refine (HP.out _ HAT2.out).mono ?_)
        first | rintro e w3 v3 rfl hv3 hb3 | rintro e w3 ⟨⟨v3, rfl, hv3⟩, hb3⟩
        have hb4 := below_next hb2 hb3
        have hv4 := row_lift hv3 hb2.size
        obtain ⟨q4, d4, hve, _⟩ := OwnLabels.open hv3
        have HGN : Hid (v3 = .slice q4 r2.length d4 ∧ Lab.Going w.heap.size (n + (k + 1)) goal (es.drop (k + 1)) q4 r2.length d4 r2 w3) := ⟨hve, ⟨rfl, by rw [← hve]; exact hv4, HRP.out, HF2.out, by omega⟩⟩
        clear hv3 hv4 hb3 hve d0 d1
        go_wp2_with fail
        go_roundw
        case rel => exact ⟨k + 1, q4, r2, r2.length, d4, by omega, by go_num, HGN.out.1, HGN.out.2, HO2, hb4⟩
        case measure => simp [intOf]; omega
      · rw [if_neg hz] at hst
        have hof := HSET.out
        unfold Lab.set at hof
        rw [if_pos HRI.out, if_neg (by rw [← hst]; exact hz), ← hst] at hof
        simp only [Prod.mk.injEq] at hof
        obtain ⟨rfl, rfl⟩ := hof
        have q9 : (e1 != 0) = true := by simpa using hz
        clear hst hz d0 d1
        go_wp2_with fail
        go_ret2
        exact ⟨⟨_, rfl, OwnLabels.nil _ _⟩, hb2⟩
    · obtain rfl : k = n2 := by omega
      have n3 : (k : Int) ≤ (k : Int) := by omega
      have hst := HK.out
      rw [List.drop_eq_nil_iff.2 (by rw [HN2.out]; omega)] at hst
      have hz : Lab.oneAll es = 0 := hst.symm
      have hgr := HG.out.r
      rw [List.drop_eq_nil_iff.2 (by rw [HN2.out]; omega)] at hgr
      have hout : out = goal := hgr
      have hof := HSET.out
      unfold Lab.set Lab.cut64 at hof
      rw [if_pos HRI.out, if_pos hz, HGO.out, ← hout, HG.out.n] at hof
      have HB9 := Lib.hid (fun w => rbound_is q m d w (by omega))
      by_cases h64 : 64 < m
      · rw [if_pos h64] at hof HB9
        simp only [Prod.mk.injEq] at hof
        obtain ⟨rfl, rfl⟩ := hof
        clear hst hz hgr HK hout
        go_wp2_with (go_at_call 92; refine (HB9.out _).mono ?_)
        try rintro _ _ ⟨rfl, rfl⟩
        go_wp2_with fail
        go_ret2
        exact ⟨⟨_, rfl, OwnLabels.nil _ _⟩, hb⟩
      · rw [if_neg h64] at hof HB9
        simp only [Prod.mk.injEq] at hof
        obtain ⟨rfl, rfl⟩ := hof
        clear hst hz hgr HK hout
        go_wp2_with (go_at_call 92; refine (HB9.out _).mono ?_)
        try rintro _ _ ⟨rfl, rfl⟩
        go_wp2_with fail
        go_ret2
        exact ⟨⟨_, rfl, HG.out.o⟩, hb⟩
end Go.Proofs.Ytflmojjpdmbnaaa
