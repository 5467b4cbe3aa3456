/- Plain laws of the reference's Set, Merge and Export. No program in sight. Contracts of the reference's Set and Merge. -/
import Derived.Test.YtbilaghljlobpaaGreatL5P
import Derived.Test.YtbilaghljlobpaaGreatL5C
namespace Go.Proofs.YtbilaghljlobpaaGreat

theorem Lab.rset_is (ls es : List Lab.L) (h : Lab.right ls = true) : Lab.rputs ls es = Lab.tabL ls es := by
  unfold Lab.tabL
  rw [Lab.puts_nil ls h]
  exact (Lab.rputs_is es ls ls (List.Perm.refl _) (Lab.strict_right h) (Lab.right_nodup h)).1
theorem Lab.puts_mem (a : List Lab.L) : ∀ b : List Lab.L, (Lab.names a).Nodup → (∀ x ∈ a, Lab.bs x.v ≠ []) → ∀ x, x ∈ Lab.puts b a ↔ x ∈ a ∨ (x ∈ b ∧ Lab.bs x.n ∉ Lab.names a) := by
  induction a with
  | nil => intro b _ _ x; simp [Lab.puts, Lab.names]
  | cons y r ih =>
    intro b hn hv x
    unfold Lab.names at hn
    rw [List.map_cons, List.nodup_cons] at hn
    show x ∈ Lab.puts (Lab.put1 b y) r ↔ _
    rw [ih (Lab.put1 b y) hn.2 (fun z hz => hv z (List.mem_cons_of_mem _ hz)) x, Lab.put1_mem]
    unfold Lab.names
    rw [List.map_cons, List.mem_cons, List.mem_cons]
    constructor
    · rintro (h | ⟨⟨h1, h2⟩ | ⟨rfl, h2⟩, h3⟩)
      · exact .inl (.inr h)
      · exact .inr ⟨h1, fun q => q.elim h2 h3⟩
      · exact .inl (.inl rfl)
    · rintro ((rfl | h) | ⟨h1, h2⟩)
      · exact .inr ⟨.inr ⟨rfl, hv _ List.mem_cons_self⟩, hn.1⟩
      · exact .inl h
      · exact .inr ⟨.inl ⟨h1, fun e => h2 (.inl e)⟩, fun e => h2 (.inr e)⟩
theorem Lab.puts_names (a : List Lab.L) : ∀ b : List Lab.L, (Lab.names b).Nodup → (Lab.names (Lab.puts b a)).Nodup := by
  induction a with
  | nil => intro b h; exact h
  | cons y r ih => intro b h; exact ih _ (Lab.put1_nodup h y)
theorem Lab.perm_of_mem {a b : List Lab.L} (ha : (Lab.names a).Nodup) (hb : (Lab.names b).Nodup) (h : ∀ x, x ∈ a ↔ x ∈ b) : a.Perm b :=
  (List.perm_ext_iff_of_nodup (Lab.nodup_of _ ha) (Lab.nodup_of _ hb)).2 h
/-- those that the others have not -/
def Lab.rest (a b : List Lab.L) : List Lab.L := b.filter fun x => !(Lab.names a).contains (Lab.bs x.n)
theorem Lab.rest_mem (a b : List Lab.L) (x : Lab.L) : x ∈ Lab.rest a b ↔ x ∈ b ∧ Lab.bs x.n ∉ Lab.names a := by
  unfold Lab.rest
  rw [List.mem_filter]
  simp
theorem Lab.rest_names (a b : List Lab.L) (ha : (Lab.names a).Nodup) (hb : (Lab.names b).Nodup) : (Lab.names (a ++ Lab.rest a b)).Nodup := by
  unfold Lab.names
  rw [List.map_append, List.nodup_append]
  refine ⟨ha, List.Nodup.sublist (List.filter_sublist.map _) hb, fun u hu v hv e => ?_⟩
  subst e
  obtain ⟨x, hx, rfl⟩ := List.mem_map.1 hv
  exact ((Lab.rest_mem a b x).1 hx).2 hu
theorem Lab.rmerge_is (a b : List Lab.L) (ha : Lab.right a = true) (hb : Lab.right b = true) : Lab.rputs a (Lab.rest a b) = Lab.tabL b a := by
  have na := Lab.right_nodup ha
  have nb := Lab.right_nodup hb
  have hn := Lab.rest_names a b na nb
  rw [(Lab.rputs_is (Lab.rest a b) a a (List.Perm.refl _) (Lab.strict_right ha) na).1]
  unfold Lab.tabL
  rw [Lab.puts_nil b hb, Lab.puts_append _ a hn (fun x hx => Lab.right_full b hb x ((Lab.rest_mem a b x).1 hx).1)]
  refine Lab.srt_perm_eq (Lab.perm_of_mem hn (Lab.puts_names a b nb) fun x => ?_) hn
  rw [Lab.puts_mem a b na (Lab.right_full a ha) x, List.mem_append, Lab.rest_mem]
/-- the step of the reference's Merge -/
theorem Lab.rest_drop (a b : List Lab.L) (k : Nat) (h : k < b.length) : Lab.rest a (b.drop k) = if Lab.bs b[k].n ∈ Lab.names a then Lab.rest a (b.drop (k + 1)) else b[k] :: Lab.rest a (b.drop (k + 1)) := by
  rw [List.drop_eq_getElem_cons h]
  unfold Lab.rest
  rw [List.filter_cons]
  by_cases e : Lab.bs b[k].n ∈ Lab.names a
  · rw [if_pos e, if_neg (by simp [e])]
  · rw [if_neg e, if_pos (by simp [e])]

/-- exported names of right names -/
theorem Lab.exp_ok (n : List UInt8) (h : Lab.named 95 n = true) : Lab.named 95 ([101, 120, 112, 111, 114, 116, 101, 100, 95] ++ n) = decide (n.length ≤ 119) := by
  unfold Lab.named at h
  simp only [Bool.and_eq_true, decide_eq_true_eq] at h
  obtain ⟨⟨h1, h2⟩, h3⟩ := h
  have hb : Lab.bytesOk 95 false n = true := by
    cases n with
    | nil => rfl
    | cons c r =>
      unfold Lab.bytesOk at h3 ⊢
      rw [Bool.and_eq_true] at h3 ⊢
      refine ⟨?_, h3.2⟩
      have h4 := h3.1
      unfold Lab.okByte at h4 ⊢
      simp only [Bool.not_true, Bool.false_and, Bool.or_false] at h4
      rw [h4]
      rfl
  by_cases hl : n.length ≤ 119
  · rw [Lab.named_mid 95 _ (by rw [List.length_append]; simp only [List.length_cons, List.length_nil]; omega) (by rw [List.length_append]; simp only [List.length_cons, List.length_nil]; omega), decide_eq_true hl]
    show (Lab.okByte 95 true 101 && (Lab.okByte 95 false 120 && (Lab.okByte 95 false 112 && (Lab.okByte 95 false 111 && (Lab.okByte 95 false 114 && (Lab.okByte 95 false 116 && (Lab.okByte 95 false 101 && (Lab.okByte 95 false 100 && (Lab.okByte 95 false 95 && Lab.bytesOk 95 false n))))))))) = true
    rw [hb]
    decide
  · rw [Lab.named_short 95 _ (.inr (by rw [List.length_append]; simp only [List.length_cons, List.length_nil]; omega)), decide_eq_false hl]
theorem Lab.exp_right (t s : List Lab.L) (x : Lab.L) (ht : Lab.right t = true) (hs : Lab.right s = true) (hx : x ∈ s) :
    Lab.expo1 t s x = if Lab.bs x.n ∉ Lab.names t then some x else if x.n.size ≤ 119 ∧ Lab.bs (Lab.expName x.n) ∉ Lab.names t ∧ Lab.bs (Lab.expName x.n) ∉ Lab.names s then some ⟨Lab.expName x.n, x.v⟩ else none := by
  have h1 : Lab.one x = 0 := (Lab.right_parts s hs).2 x hx
  have hn : Lab.named 95 (Lab.bs x.n) = true := by
    unfold Lab.one at h1
    split at h1
    · assumption
    · simp at h1
  have hsz : (Lab.bs x.n).length = x.n.size := Array.length_toList
  unfold Lab.expo1
  by_cases hm : Lab.bs x.n ∈ Lab.names t
  · have h2 : ¬ Lab.bs (Lab.get t x.n) = [] := fun e => (Lab.get_empty_iff t ht _).1 e hm
    have h3 : ¬ (Lab.bs x.n ∉ Lab.names t) := fun h => h hm
    rw [if_neg h2, if_neg h3, Lab.exp_bs, Lab.exp_ok _ hn, Lab.bs_append, hsz]
    have e1 := Lab.get_empty_iff t ht (Lab.expName x.n)
    have e2 := Lab.get_empty_iff s hs (Lab.expName x.n)
    rw [Lab.exp_bs] at e1 e2
    simp only [decide_eq_true_eq, List.append_eq_nil_iff, e1, e2]
  · have h2 : Lab.bs (Lab.get t x.n) = [] := (Lab.get_empty_iff t ht _).2 hm
    rw [if_pos h2, if_pos hm]
theorem Lab.exp_names (t s : List Lab.L) (ht : Lab.right t = true) (hs : Lab.right s = true) : (Lab.names (Lab.expoM t s ++ t)).Nodup := by
  unfold Lab.names
  rw [List.map_append, List.nodup_append]
  refine ⟨?_, Lab.right_nodup ht, ?_⟩
  · have hp : s.Pairwise fun a b => Lab.bs a.n ≠ Lab.bs b.n := by
      have := Lab.right_nodup hs
      unfold Lab.names List.Nodup at this
      rw [List.pairwise_map] at this
      exact this
    unfold Lab.expoM List.Nodup
    rw [List.pairwise_map, List.pairwise_filterMap]
    refine hp.imp_of_mem fun {a b} ha hb hab y hy y' hy' => ?_
    have inS : ∀ z : Lab.L, z ∈ s → Lab.bs (Lab.get s z.n) ≠ [] := fun z hz => Lab.get_full_ne s hs z.n (List.mem_map.2 ⟨z, hz, rfl⟩)
    rcases Lab.expo_some hy with ⟨rfl, h1⟩ | ⟨rfl, h1, h2, h3⟩ <;> rcases Lab.expo_some hy' with ⟨rfl, k1⟩ | ⟨rfl, k1, k2, k3⟩
    · exact hab
    · intro e
      have e2 : y.n = Lab.expName b.n := Lab.bs_inj e
      rw [← e2] at k3
      exact inS y ha k3
    · intro e
      have e2 : Lab.expName a.n = y'.n := Lab.bs_inj e
      rw [e2] at h3
      exact inS y' hb h3
    · intro e
      have e2 : Lab.bs (Lab.expName a.n) = Lab.bs (Lab.expName b.n) := e
      rw [Lab.exp_bs, Lab.exp_bs] at e2
      exact hab (List.append_cancel_left e2)
  · intro z hz z' hz' e
    subst e
    obtain ⟨y, hy, rfl⟩ := List.mem_map.1 hz
    obtain ⟨x, hx, hxy⟩ := Lab.expoM_mem hy
    rcases hxy with ⟨rfl, h1⟩ | ⟨rfl, h1, h2, h3⟩
    · exact ((Lab.get_empty_iff t ht _).1 h1) hz'
    · exact ((Lab.get_empty_iff t ht _).1 h2) hz'
theorem Lab.expoM_full (t s : List Lab.L) (hs : Lab.right s = true) : ∀ y ∈ Lab.expoM t s, Lab.bs y.v ≠ [] := fun y hy => by
  obtain ⟨x, hx, hxy⟩ := Lab.expoM_mem hy
  have := Lab.right_full s hs x hx
  rcases hxy with ⟨rfl, _⟩ | ⟨rfl, _⟩ <;> exact this
theorem Lab.rexport_is (t s : List Lab.L) (ht : Lab.right t = true) (hs : Lab.right s = true) : Lab.rputs t (Lab.expoM t s) = Lab.srt (Lab.puts (Lab.expoF t s [] s) t) := by
  have hn := Lab.exp_names t s ht hs
  have hp : (Lab.expoM t s ++ t).Perm (t ++ Lab.expoM t s) := List.perm_append_comm
  have hn2 : (Lab.names (t ++ Lab.expoM t s)).Nodup := ((Lab.names_perm hp).nodup_iff).1 hn
  have hv := Lab.expoM_full t s hs
  have hv2 : ∀ y ∈ Lab.expoM t s ++ t, Lab.bs y.v ≠ [] := fun y hy => by
    rw [List.mem_append] at hy
    exact hy.elim (hv y) (Lab.right_full t ht y)
  rw [(Lab.rputs_is (Lab.expoM t s) t t (List.Perm.refl _) (Lab.strict_right ht) (Lab.right_nodup ht)).1, Lab.puts_append _ t hn2 hv, Lab.expoF_puts, ← Lab.puts_app]
  show _ = Lab.srt (Lab.puts [] (Lab.expoM t s ++ t))
  rw [Lab.puts_append (Lab.expoM t s ++ t) [] hn hv2, List.nil_append]
  exact Lab.srt_perm_eq hp.symm hn2
end Go.Proofs.YtbilaghljlobpaaGreat
namespace Go.Proofs.YtbilaghljlobpaaGreat
open Go.RowKit

theorem run_append_types' {P : Program} {w : World} (t t2 ty e e2 : TypeId) (i : TypeInfo) (ht : P.underlying t = some (.slice e)) (ht2 : P.underlying t2 = some (.slice e2)) (hi : P.info? e = some i) (b : Option Addr) (n c : Nat) (x : Value) :
    (Builtin.append_ #[t, t2] ty #[.slice b n c, x]).run P w = (Builtin.append_ #[t, t] ty #[.slice b n c, x]).run P w := by
  unfold Builtin.append_
  simp [run_underlying ht, run_underlying ht2, sizeOf, typeInfo, hi]
/-- 'append(v, labels..)' of labels at whatever address -/
theorem wpList_catG {ops : Array Oper} {rest : List Oper} {o : Oper} {a : Act} {w : World} {Q : Exit → Act → World → Prop} (hgd : o.guard = none) (s x : Operand) (T T2 : TypeId) (hT : Tryz.prog.underlying T = some (.slice 31)) (hT2 : Tryz.prog.underlying T2 = some (.slice 31))
    (ho : o.op = .call { callee := .builtin .append, args := #[s, x], argTypes := #[T, T2] })
    (B : Nat) (b : Option Addr) (vn vc : Nat) (l : List Lab.L) (hs : a.eval s = .slice b vn vc) (hown : OwnLabels B (.slice b vn vc) l w) (r : List Lab.L) (p : Option Addr) (n c : Nat) (hx : a.eval x = .slice p n c) (hn : r.length = n) (hp : p = none → c = 0)
    (hA : Lab.At p r w) (hlen : l.length + n ≤ 100000) (hB : B ≤ w.heap.size)
    (h : ∀ v' w', OwnLabels B v' (l ++ r) w' → w.grownBy w' (Value.slice b vn vc).ownBlock → wpList Tryz.prog ops Q rest (a.put o.dst v') w') : wpList Tryz.prog ops Q (o :: rest) a w := by
  obtain ⟨i0, hi, hz0, hz1, hz2⟩ := info_parts infoLab
  refine wpList_plain hgd fun K hK => ?_
  have key : ∃ v' w', (Builtin.append_ #[T, T2] o.type #[.slice b vn vc, .slice p n c]).run Tryz.prog w = .ok v' w' ∧ OwnLabels B v' (l ++ r) w' ∧ w.grownBy w' (Value.slice b vn vc).ownBlock := by
    rcases hA.cases with ⟨rfl, rfl⟩ | ⟨ad, rfl, hnews⟩
    · obtain rfl := hp rfl
      obtain rfl : n = 0 := hn.symm
      have hrun := run_append_owned_none (P := Tryz.prog) (w := w) B T o.type 31 i0 2 hT hi (.slice b vn vc) l.length (Lab.cells l) hown
      exact ⟨_, w, (run_append_types' T T2 o.type _ _ i0 hT hT2 hi b vn vc _).trans hrun, by rw [List.append_nil]; exact hown, rfl, rfl, rfl, Nat.le_refl _, fun _ _ _ => rfl⟩
    · subst hn
      obtain ⟨v', w', h1, h2, h3, _⟩ := run_append_own (P := Tryz.prog) w B T o.type 31 i0 _ 2 32 hT hi hz0 hz1 hz2 rfl (by decide) (.slice b vn vc) l.length (Lab.cells l) hown ad r.length c (Lab.cells r) (Lab.cells_length r) hnews (Lab.cells_one _) (by unfold maxLen; omega) (by omega) hB
      refine ⟨v', w', (run_append_types' T T2 o.type _ _ i0 hT hT2 hi b vn vc _).trans h1, ?_, h3⟩
      unfold OwnLabels
      rw [Lab.cells_append, List.length_append]
      exact h2
  obtain ⟨v', w', hr, h2, h3⟩ := key
  unfold Oper.wp
  simp [execOp, ho, resolve, invoke, builtin, hs, hx, hr, Result.andThen]
  exact hK _ _ (h v' w' h2 h3)
/-- what goes on from labels of one's own, put by put -/
structure Lab.Going (B k : Nat) (goal : List Lab.L) (todo : List Lab.L) (q : Option Addr) (m d : Nat) (out : List Lab.L) (wr : World) : Prop where
  n : out.length = m
  o : OwnLabels B (.slice q m d) out wr
  r : Lab.rputs out todo = goal
  f : ∀ x ∈ out, x.n.size ≤ maxLen ∧ x.v.size ≤ maxLen
  l : m ≤ k
theorem Lab.rput1_len (l : List Lab.L) (x : Lab.L) : (Lab.rput1 l x).length ≤ l.length + 1 := Lab.rput_length x l _

set_option maxHeartbeats 6400000 in
set_option maxRecDepth 100000 in
theorem rset_contract (p p2 : Option Addr) (ls es : List Lab.L) (n c n2 c2 : Nat) (r : List Lab.L) (er : Int) (h : Lab.set ls es = (r, er)) (w : World) (hn : ls.length = n) (hn2 : es.length = n2) (hA : Lab.At p ls w) (hB : Lab.At p2 es w) (hF : Lab.Fit maxLen ls) (hF2 : Lab.Fit maxLen es) (hp : p = none → c = 0) (hl : n ≤ 5000) (hl2 : n2 ≤ 5000) :
    Calls Tryz.prog 39 #[.slice p n c, .slice p2 n2 c2] w fun e w' => (∃ v, e = .returned (.tuple #[v, .int .i64 er]) ∧ OwnLabels w.heap.size v r w') ∧ Below w.heap.size w w' := by
  obtain ⟨b, hb⟩ : ∃ b, Lab.right ls = b := ⟨_, rfl⟩
  have HRT := Lib.hid (rright_is p ls n c b hb w hn hA hF (by unfold maxLen; omega))
  cases b
  · unfold Lab.set at h
    rw [hb, if_neg (by simp)] at h
    simp only [Prod.mk.injEq] at h
    obtain ⟨rfl, rfl⟩ := h
    clear hb hn hn2 hA hB hF hF2 hp
    go_enter Tryz.func39, Tryz.ntmps39
    go_wp2_with (go_at_call 79; refine HRT.out.mono ?_)
    first | rintro e w1 rfl hb1 | rintro e w1 ⟨rfl, hb1⟩
    go_wp2_with fail
    go_ret2
    exact ⟨⟨_, rfl, OwnLabels.nil _ _⟩, hb1⟩
  have hst := Lab.rset_is ls es hb
  have HSET := Lib.hid h
  have HRI := Lib.hid hb
  have HN2 := Lib.hid hn2
  have HN := Lib.hid hn
  have HA := Lib.hid hA
  have HB := Lib.hid hB
  have HFT := Lib.hid hF2
  have HFL := Lib.hid hF
  have HD := Lib.hid (Lab.oneAll_drop es)
  have HRD := Lib.hid (fun m k h => Lab.rputs_drop m es k h)
  obtain ⟨goal, hgoal⟩ : ∃ g, Lab.tabL ls es = g := ⟨_, rfl⟩
  rw [hgoal] at hst
  have HST := Lib.hid hst
  have HGO := Lib.hid hgoal
  clear h hb hn hn2 hA hB hF hF2 hst hgoal
  go_enter Tryz.func39, Tryz.ntmps39
  go_wp2_with (go_at_call 79; refine HRT.out.mono ?_)
  first | rintro e w1 rfl hb1 | rintro e w1 ⟨rfl, hb1⟩
  have hown0 := OwnLabels.made w1 w.heap.size hb1.size
  have HA1 := Lib.hid ((HA.out.below hb1 (Nat.le_refl _)).alloc (.cells #[] 31))
  clear HRT
  go_wp2_with (at_builtin; refine wpList_catG rfl _ _ 24 24 Tryz.underlying24 Tryz.underlying24 rfl w.heap.size _ _ _ [] rfl hown0 ls _ _ _ rfl HN.out hp HA1.out (by simp only [List.length_nil]; omega) (by have := hb1.size; simp; omega) ?_)
  intro v2 w2 hown2 hg2
  have hb2 : Below w.heap.size w w2 := (hb1.alloc hb1.size _).grown hg2 (by have := hb1.size; simp; omega) (fun j hj => (World.ownsRow.lt hown0 j hj).1)
  obtain ⟨q0, d0, hv0, _⟩ := OwnLabels.open hown2
  have hgo0 : ∃ d, v2 = .slice q0 n d ∧ Lab.Going w.heap.size (n + 0) goal (es.drop 0) q0 n d ls w2 := by
    have e : ls.length = n := HN.out
    try simp only [List.nil_append] at hv0 hown2
    rw [e] at hv0
    exact ⟨d0, hv0, ⟨e, by rw [← hv0]; exact hown2, HST.out, HFL.out, by omega⟩⟩
  obtain ⟨d0', rfl, hgo⟩ := hgo0
  have HG0 := Lib.hid hgo
  clear hown0 hg2 hown2 hv0 hgo HA1 hb1
  go_wp2_with fail
  go_loopw [7, 6] (fun i v wr => ∃ (k : Nat) (q : Option Addr) (out : List Lab.L) (m d : Nat), k ≤ n2 ∧ i = .int .i64 (k : Int) ∧ v = .slice q m d ∧ Hid (Lab.Going w.heap.size (n + k) goal (es.drop k) q m d out wr) ∧ Hid (Lab.oneAll (es.drop k) = Lab.oneAll es) ∧ Below w.heap.size w wr) (fun i _ _ => n2 - (intOf i).toNat)
  case atStart => exact ⟨0, q0, ls, n, d0', Nat.zero_le _, rfl, rfl, HG0, rfl, hb2⟩
  case round =>
    clear HG0 hb2
    obtain ⟨k, q, out, m, d, hk, rfl, rfl, HG, HK, hb⟩ := hrel
    have hgl := HG.out.l
    by_cases hlt : k < n2
    · have hkl : k < es.length := by rw [HN2.out]; exact hlt
      have hBw := HB.out.below hb (Nat.le_refl _)
      obtain ⟨b, o, rfl, hc⟩ := hBw.open k hkl
      have c0 := (hc k hkl).1
      have c1 := (hc k hkl).2
      have hst := HK.out
      rw [HD.out k hkl] at hst
      have hrp := HG.out.r
      rw [HRD.out out k hkl] at hrp
      have hfx := HFT.out es[k] (List.getElem_mem _)
      obtain ⟨x, hx⟩ : ∃ x, es[k] = x := ⟨_, rfl⟩
      rw [hx] at c0 c1 hst hfx hrp
      obtain ⟨e1, he1⟩ : ∃ e, Lab.one x = e := ⟨_, rfl⟩
      have HW := Lib.hid (fun w => wrong_is x e1 he1 w hfx.1 hfx.2)
      rw [he1] at hst
      have n1 : (0 : Int) ≤ (k : Int) := by omega
      have n3 : (k : Int) < (n2 : Int) := by omega
      obtain ⟨r2, hr2⟩ : ∃ r2, Lab.rput1 out x = r2 := ⟨_, rfl⟩
      rw [hr2] at hrp
      have hlen2 : r2.length ≤ m + 1 := by
        rw [← hr2, ← HG.out.n]
        exact Lab.rput1_len out x
      have hfr2 : ∀ y ∈ r2, y.n.size ≤ maxLen ∧ y.v.size ≤ maxLen := fun y hy => by
        rw [← hr2] at hy
        rcases Lab.rput1_mem hy with h1 | rfl
        · exact HG.out.f y h1
        · exact hfx
      have HP := Lib.hid (fun w hA => rput_is q out m d x r2 hr2 w HG.out.n hA HG.out.f hfx.1 (by omega))
      have HRP := Lib.hid hrp
      have HF2 := Lib.hid hfr2
      have HAT := Lib.hid HG.out.o.at
      clear hc hx hfx he1 HK hr2 hrp hfr2
      go_wp2_with (go_at_call 51; refine (HW.out _).mono ?_)
      first | rintro e w1 rfl hb1 | rintro e w1 ⟨rfl, hb1⟩
      have hb2 := below_next hb hb1
      have HAT2 := Lib.hid (HAT.out.below hb1 (Nat.le_refl _))
      have d0 := cell_later hb1 c0 (Nat.le_refl _)
      have d1 := cell_later hb1 c1 (Nat.le_refl _)
      clear hb1 HW c0 c1 HAT hBw
      by_cases hz : e1 = 0
      · rw [if_pos hz] at hst
        subst hz
        have HO2 := Lib.hid hst
        clear hst
        go_wp2_with (go_at_call 60; refine (HP.out _ HAT2.out).mono ?_)
        first | rintro e w3 v3 rfl hv3 hb3 | rintro e w3 ⟨⟨v3, rfl, hv3⟩, hb3⟩
        have hb4 := below_next hb2 hb3
        have hv4 := row_lift hv3 hb2.size
        obtain ⟨q4, d4, hve, _⟩ := OwnLabels.open hv3
        have HGN : Hid (v3 = .slice q4 r2.length d4 ∧ Lab.Going w.heap.size (n + (k + 1)) goal (es.drop (k + 1)) q4 r2.length d4 r2 w3) := ⟨hve, ⟨rfl, by rw [← hve]; exact hv4, HRP.out, HF2.out, by omega⟩⟩
        clear hv3 hv4 hb3 hve d0 d1
        go_wp2_with fail
        go_roundw
        case rel => exact ⟨k + 1, q4, r2, r2.length, d4, by omega, by go_num, HGN.out.1, HGN.out.2, HO2, hb4⟩
        case measure => simp [intOf]; omega
      · rw [if_neg hz] at hst
        have hof := HSET.out
        unfold Lab.set at hof
        rw [if_pos HRI.out, if_neg (by rw [← hst]; exact hz), ← hst] at hof
        simp only [Prod.mk.injEq] at hof
        obtain ⟨rfl, rfl⟩ := hof
        have q9 : (e1 != 0) = true := by simpa using hz
        clear hst hz d0 d1
        go_wp2_with fail
        go_ret2
        exact ⟨⟨_, rfl, OwnLabels.nil _ _⟩, hb2⟩
    · obtain rfl : k = n2 := by omega
      have n3 : (k : Int) ≤ (k : Int) := by omega
      have hst := HK.out
      rw [List.drop_eq_nil_iff.2 (by rw [HN2.out]; omega)] at hst
      have hz : Lab.oneAll es = 0 := hst.symm
      have hgr := HG.out.r
      rw [List.drop_eq_nil_iff.2 (by rw [HN2.out]; omega)] at hgr
      have hout : out = goal := hgr
      have hof := HSET.out
      unfold Lab.set Lab.cut64 at hof
      rw [if_pos HRI.out, if_pos hz, HGO.out, ← hout, HG.out.n] at hof
      have HB9 := Lib.hid (fun w => rbound_is q m d w (by omega))
      by_cases h64 : 64 < m
      · rw [if_pos h64] at hof HB9
        simp only [Prod.mk.injEq] at hof
        obtain ⟨rfl, rfl⟩ := hof
        clear hst hz hgr HK hout
        go_wp2_with (go_at_call 61; refine (HB9.out _).mono ?_)
        try rintro _ _ ⟨rfl, rfl⟩
        go_wp2_with fail
        go_ret2
        exact ⟨⟨_, rfl, OwnLabels.nil _ _⟩, hb⟩
      · rw [if_neg h64] at hof HB9
        simp only [Prod.mk.injEq] at hof
        obtain ⟨rfl, rfl⟩ := hof
        clear hst hz hgr HK hout
        go_wp2_with (go_at_call 61; refine (HB9.out _).mono ?_)
        try rintro _ _ ⟨rfl, rfl⟩
        go_wp2_with fail
        go_ret2
        exact ⟨⟨_, rfl, HG.out.o⟩, hb⟩
end Go.Proofs.YtbilaghljlobpaaGreat
