/- PoolSmall: what its loops keep. -/
import Derived.Test.YtpnpgjjbincigaaEnd
import Derived.ArgAppend
namespace Go.Proofs.Ytpnpgjjbincigaa
open Go.RowKit
set_option linter.unusedVariables false

/-- a target of the call's own, of no great size -/
def Sma.T (B : Nat) (t : Can.T) (w : World) : Prop := OwnT B t w ∧ Po.okU (Po.tv t)
theorem Sma.T.below {B C : Nat} {t : Can.T} {w w' : World} (h : Sma.T B t w) (hb : Below C w w') (hC : w.heap.size ≤ C) : Sma.T B t w' := ⟨h.1.below hb hC, h.2⟩
theorem Sma.T.lift {B B' : Nat} {t : Can.T} {w : World} (h : Sma.T B t w) (hB : B' ≤ B) : Sma.T B' t w := ⟨h.1.lift hB, h.2⟩
theorem Sma.T.any {B : Nat} {t : Can.T} {w : World} (h : Sma.T B t w) : Can.TAny t := Po.okU.any h.1 h.2
theorem Sma.T.n {B : Nat} {t : Can.T} {w : World} (h : Sma.T B t w) : t.n ≤ 4398046511104 := (Po.okU.n2 h.1 h.2).2
/-- slots, targets -/
def Sma.S (B : Nat) (v : Value) (ss : List Sl) (w : World) : Prop := OwnR slR B v ss w ∧ ∀ s ∈ ss, Sma.T B s.t w
def Sma.G (B : Nat) (v : Value) (ts : List Can.T) (w : World) : Prop := OwnR tgR B v ts w ∧ ∀ t ∈ ts, Sma.T B t w
theorem Sma.S.nil (B : Nat) (w : World) : Sma.S B (.slice none 0 0) [] w := ⟨OwnR.nil _ _ _, fun _ h => nomatch h⟩
theorem Sma.G.nil (B : Nat) (w : World) : Sma.G B (.slice none 0 0) [] w := ⟨OwnR.nil _ _ _, fun _ h => nomatch h⟩
theorem Sma.S.below {B C : Nat} {v : Value} {ss : List Sl} {w w' : World} (h : Sma.S B v ss w) (hb : Below C w w') (hC : w.heap.size ≤ C) : Sma.S B v ss w' := ⟨h.1.below hb hC, fun s hs => (h.2 s hs).below hb hC⟩
theorem Sma.G.below {B C : Nat} {v : Value} {ts : List Can.T} {w w' : World} (h : Sma.G B v ts w) (hb : Below C w w') (hC : w.heap.size ≤ C) : Sma.G B v ts w' := ⟨h.1.below hb hC, fun s hs => (h.2 s hs).below hb hC⟩
theorem Sma.S.lift {B B' : Nat} {v : Value} {ss : List Sl} {w : World} (h : Sma.S B v ss w) (hB : B' ≤ B) : Sma.S B' v ss w := ⟨h.1.lift hB, fun s hs => (h.2 s hs).lift hB⟩
theorem Sma.G.lift {B B' : Nat} {v : Value} {ts : List Can.T} {w : World} (h : Sma.G B v ts w) (hB : B' ≤ B) : Sma.G B' v ts w := ⟨h.1.lift hB, fun s hs => (h.2 s hs).lift hB⟩
/-- a slot is put behind the others; targets stay -/
theorem Sma.push {α : Type} {R : Rec α} {B B' : Nat} {v : Value} {l : List α} {t : Can.T} {W w4 : World} (hR : R.T ≠ 37) (h : OwnR R B' v l W) (ht : Sma.T B t W) (hg : W.grownBy w4 v.ownBlock) : Sma.T B t w4 := ⟨ht.1.grown hR h hg, ht.2⟩
theorem Sma.S.push {B : Nat} {v v' : Value} {ss : List Sl} {W w4 : World} (h : Sma.S B v ss W) (s : Sl) (ht : Sma.T B s.t W) (ho : OwnR slR B v' (ss ++ [s]) w4) (hg : W.grownBy w4 v.ownBlock) : Sma.S B v' (ss ++ [s]) w4 := by
  refine ⟨ho, fun x hx => ?_⟩
  rcases List.mem_append.1 hx with hx | hx
  · exact Sma.push (by decide) h.1 (h.2 x hx) hg
  · rw [List.mem_singleton] at hx
    subst hx
    exact Sma.push (by decide) h.1 ht hg
theorem Sma.G.push {B : Nat} {v v' : Value} {ts : List Can.T} {W w4 : World} (h : Sma.G B v ts W) (t : Can.T) (ht : Sma.T B t W) (ho : OwnR tgR B v' (ts ++ [t]) w4) (hg : W.grownBy w4 v.ownBlock) : Sma.G B v' (ts ++ [t]) w4 := by
  refine ⟨ho, fun x hx => ?_⟩
  rcases List.mem_append.1 hx with hx | hx
  · exact Sma.push (by decide) h.1 (h.2 x hx) hg
  · rw [List.mem_singleton] at hx
    subst hx
    exact Sma.push (by decide) h.1 ht hg
theorem Sma.G.keep {B B' : Nat} {v u : Value} {ts : List Can.T} {ss : List Sl} {W w4 : World} (h : Sma.G B v ts W) (hu : OwnR slR B' u ss W) (hg : W.grownBy w4 u.ownBlock) : Sma.G B v ts w4 :=
  ⟨h.1.grown2 (by decide) hu hg, fun t ht => Sma.push (by decide) hu (h.2 t ht) hg⟩
theorem Sma.S.at {B n c : Nat} {p : Option Addr} {ss : List Sl} {w : World} (h : Sma.S B (.slice p n c) ss w) : Po.At p ss w := ⟨h.1.lies slOk, fun s hs => (h.2 s hs).1.at⟩
theorem Sma.G.at {B n c : Nat} {p : Option Addr} {ts : List Can.T} {w : World} (h : Sma.G B (.slice p n c) ts w) : Po.TgAt p ts w := OwnR.tgAtE h.1 fun t ht => (h.2 t ht).1.at
theorem Sma.G.form {B : Nat} {v : Value} {ts : List Can.T} {w : World} (h : Sma.G B v ts w) : ∃ p c, v = .slice p ts.length c ∧ (p = none → ts.length = 0 ∧ c = 0) := by
  rcases h.1.open tgOk with ⟨e1, e2⟩ | ⟨g, c', e1, _⟩
  · exact ⟨none, 0, by rw [e1, e2]; rfl, fun _ => ⟨by rw [e2]; rfl, rfl⟩⟩
  · exact ⟨_, c', e1, fun h => nomatch h⟩
theorem Sma.G.cells {B g n c : Nat} {ts : List Can.T} {w : World} (h : Sma.G B (.slice (some ⟨g, 0, none⟩) n c) ts w) (i : Nat) (hi : i < ts.length) : w.cell? ⟨g, i * 2, none⟩ = some (.string ts[i].job) ∧ w.cell? ⟨g, i * 2 + 1, none⟩ = some (.slice ts[i].p ts[i].n ts[i].c) := by
  rcases h.1.lies tgOk with h0 | ⟨b, o, e, hc⟩
  · rw [h0] at hi; cases hi
  · simp only [Option.some.injEq, Addr.mk.injEq, and_true] at e
    obtain ⟨rfl, rfl⟩ := e
    have h1 := hc i hi 0 (by decide)
    have h2 := hc i hi 1 (by decide)
    rw [Nat.zero_add] at h1 h2
    exact ⟨h1, h2⟩
theorem Sma.S.news {B g n c : Nat} {ss : List Sl} {w : World} (h : Sma.S B (.slice (some ⟨g, 0, none⟩) n c) ss w) (i0 m : Nat) (hm : i0 + m ≤ ss.length) : ∀ j u, (slR.cells ((ss.drop i0).take m))[j]? = some u → w.cell? ((⟨g, i0 * 5, none⟩ : Addr).add j) = some u := by
  rcases h.1.lies slOk with h0 | ⟨b, o, e, hc⟩
  · intro j u hj
    have h1 : (ss.drop i0).take m = [] := by rw [h0]; simp
    rw [h1] at hj
    cases hj
  · simp only [Option.some.injEq, Addr.mk.injEq, and_true] at e
    obtain ⟨rfl, rfl⟩ := e
    have h2 := Rec.newsAt slOk hc hm
    rw [Nat.zero_add] at h2
    exact h2
/-- a slot behind others, in a new row -/
theorem Sma.S.app {g cap n : Nat} {ss : List Sl} {s : Sl} {w : World} {B B' : Nat} (h : OwnR slR B (.slice (some ⟨g, 0, none⟩) n cap) (ss ++ [s]) w) (hs : ∀ x ∈ ss, Sma.T B' x.t w) (ht : Sma.T B' s.t w) : Sma.S 0 (.slice (some ⟨g, 0, none⟩) n cap) (ss ++ [s]) w := by
  refine ⟨h.lift (Nat.zero_le _), fun x hx => ?_⟩
  rcases List.mem_append.1 hx with hx | hx
  · exact (hs x hx).lift (Nat.zero_le _)
  · rw [List.mem_singleton] at hx
    subst hx
    exact ht.lift (Nat.zero_le _)
theorem Sma.push0 {B : Nat} {t : Can.T} {w w' : World} (h : Sma.T B t w) (hg : w.grownBy w' none) : Sma.T B t w' :=
  h.below ((Below.refl w.heap.size w).grown hg (Nat.le_refl _) (fun j hj => nomatch hj)) (Nat.le_refl _)
/-- the laws hold of such slots and targets -/
theorem Sma.tells {B B' : Nat} {vl vt : Value} {ss : List Sl} {ts : List Can.T} {W : World} (hs : Sma.S B vl ss W) (ht : Sma.G B' vt ts W) (ev ti : Int) :
    Calls Try.prog 12 #[vl, vt, .int .i64 ev, .int .i64 ti] W fun e w' => e = .returned (.bool true) ∧ Below W.heap.size W w' := by
  obtain ⟨p, c, rfl, _⟩ := hs.1.shape
  obtain ⟨q, d, rfl, _⟩ := ht.1.shape
  exact tells_is p q ss ts _ c _ d ev ti W rfl rfl hs.at ht.at (fun s h => (hs.2 s h).any) (fun t h => (ht.2 t h).any) (fun s h => (hs.2 s h).n) (fun t h => (ht.2 t h).n)
theorem Sma.ends {B B' : Nat} {vl : Value} {ss : List Sl} {t : Can.T} {W : World} (hs : Sma.S B vl ss W) (ht : Sma.T B' t W) :
    Calls Try.prog 14 #[vl, .agg #[.string t.job, .slice t.p t.n t.c]] W fun e w' => e = .returned (.bool true) ∧ Below W.heap.size W w' := by
  obtain ⟨p, c, rfl, _⟩ := hs.1.shape
  exact ends_is p ss t _ c W rfl hs.at ht.1.at (fun s h => (hs.2 s h).any) ht.any (fun s h => (hs.2 s h).n)
theorem Sma.target (n : Nat) (z : Int) (hz : z = (n : Int)) (hn : n ≤ 1000) (w : World) : Calls Try.prog 15 #[.int .i64 z] w fun e w' => (∃ t : Can.T, e = .returned (.agg #[.string t.job, .slice t.p t.n t.c]) ∧ Sma.T w.heap.size t w' ∧ Po.tv t = Po.tgt n) ∧ Below w.heap.size w w' :=
  (target_z n z hz hn w).mono fun e w' h => by
    obtain ⟨⟨t, h1, h2, h3⟩, h4⟩ := h
    exact ⟨⟨t, h1, ⟨h2, by rw [h3]; exact Po.tgt_ok n⟩, h3⟩, h4⟩
theorem Po.TgAt.newsE {ad : Addr} {ts : List Can.T} {w : World} (h : Po.TgAt (some ad) ts w) : ∀ j u, (tgR.cells ts)[j]? = some u → w.cell? (ad.add j) = some u := by
  intro j u hj
  have hlt : j < ts.length * 2 := by
    have := (List.getElem?_eq_some_iff.1 hj).1
    rw [tgOk.length] at this; exact this
  have hi : j / 2 < ts.length := by omega
  have hg := tgOk.get ts (j / 2) hi (j % 2) (Nat.mod_lt _ (by decide))
  rw [show j / 2 * tgR.k + j % 2 = j by show j / 2 * 2 + j % 2 = j; omega] at hg
  rw [hg] at hj
  rcases h with h | ⟨b, o, hp, _, hc⟩
  · rw [h] at hi; simp at hi
  · simp only [Option.some.injEq] at hp
    subst hp
    obtain ⟨c0, c1, _⟩ := hc (j / 2) hi
    have ha : (⟨b, o, none⟩ : Addr).add j = ⟨b, o + j, none⟩ := by unfold Addr.add; split <;> simp_all
    rw [ha]
    rcases Nat.mod_two_eq_zero_or_one j with h2 | h2
    · rw [h2] at hj
      have hj' : some (Value.string ts[j / 2].job) = some u := hj
      rw [← hj', ← c0, show o + j / 2 * 2 = o + j by omega]
    · rw [h2] at hj
      have hj' : some (Value.slice ts[j / 2].p ts[j / 2].n ts[j / 2].c) = some u := hj
      rw [← hj', ← c1, show o + j / 2 * 2 + 1 = o + j by omega]
/-- 'append(v, x...)' of rows of targets -/
theorem wpList_appTE {ops : Array Oper} {rest : List Oper} {o : Oper} {a : Act} {Q : Exit → Act → World → Prop} (hgd : o.guard = none) (s x : Operand)
    (ho : o.op = .call { callee := .builtin .append, args := #[s, x], argTypes := #[23, 23] })
    (B : Nat) (v : Value) (l : List Can.T) (w : World) (hs : a.eval s = v) (hown : OwnR tgR B v l w) (y : Option Addr × Nat × Nat × List Can.T) (hx : a.eval x = .slice y.1 y.2.1 y.2.2.1) (h1 : y.2.2.2.length = y.2.1) (h2 : y.1 = none → y.2.1 = 0 ∧ y.2.2.1 = 0) (h3 : Po.TgAt y.1 y.2.2.2 w)
    (hlen : l.length + y.2.1 ≤ 1000000) (hB : B ≤ w.heap.size)
    (h : ∀ v' w', OwnR tgR B v' (l ++ y.2.2.2) w' → w.grownBy w' v.ownBlock → wpList Try.prog ops Q rest (a.put o.dst v') w') :
    wpList Try.prog ops Q (o :: rest) a w := by
  obtain ⟨i0, hi, hz0, hz1, hz2⟩ := info_parts tgOk.info
  obtain ⟨p, n, c, ts⟩ := y
  dsimp only at hx h1 h2 h3 hlen h
  cases p with
  | none =>
    obtain ⟨rfl, rfl⟩ := h2 rfl
    obtain rfl : ts = [] := List.length_eq_zero_iff.1 h1
    refine wpList_append_own_none hgd s x 23 ho B tgR.T i0 2 Try.underlying23 hi v l.length (tgR.cells l) hs hown hx ?_
    exact h v w (by rw [List.append_nil]; exact hown) ⟨rfl, rfl, rfl, Nat.le_refl _, fun _ _ _ => rfl⟩
  | some ad =>
    refine wpList_append_own _ hgd s x 23 ho B tgR.T i0 tgR.z tgR.k tgR.bytes Try.underlying23 hi hz0 hz1 hz2 tgOk.zs tgOk.pos v l.length (tgR.cells l) hs hown ad n c (tgR.cells ts) hx (by rw [tgOk.length, h1]) ?_ (tgOk.ones _) ?_ ?_ hB ?_
    · exact h3.newsE
    · unfold maxLen; omega
    · have h9 : (l.length + n) * tgR.bytes ≤ 1000000 * 40 := Nat.mul_le_mul hlen (Nat.le_refl 40)
      exact Nat.le_trans h9 (by decide)
    · intro v' w' k1 k2 _
      refine h v' w' ?_ k2
      unfold OwnR
      rw [Rec.cells_append, List.length_append, h1]
      exact k1
/-- targets made out in a row -/
theorem Sma.made {B g n : Nat} {ts : List Can.T} {C : Array Value} {w : World} (hg : B ≤ g) (hC : C = (tgR.cells ts).toArray) (hn : ts.length = n) (hl : n ≤ 1000000) (h : w.heap[g]? = some (.cells C 29)) (ht : ∀ t ∈ ts, Sma.T B t w) : Sma.G B (.slice (some ⟨g, 0, none⟩) n n) ts w := ⟨OwnR.made tgOk hg hC hn hl h, ht⟩
theorem Sma.madeS {B g n : Nat} {ss : List Sl} {C : Array Value} {w : World} (hg : B ≤ g) (hC : C = (slR.cells ss).toArray) (hn : ss.length = n) (hl : n ≤ 1000000) (h : w.heap[g]? = some (.cells C 33)) (ht : ∀ s ∈ ss, Sma.T B s.t w) : Sma.S B (.slice (some ⟨g, 0, none⟩) n n) ss w := ⟨OwnR.made slOk hg hC hn hl h, ht⟩
/-- 'append(v, e)' of a full row, at a step of a region that draws its order, whatever its guard -/
theorem step_growRec {α : Type} {R : Rec α} {ops : Array Oper} {o : Oper} {a : Act} {K : Act → World → Prop} {Q : Exit → Act → World → Prop} {E : Prop} {w : World} (ok : R.Ok) (T : TypeId) (hT : Try.prog.underlying T = some (.slice R.T)) (hw : Region.wanted o (yielded ops a.tmps) = true) (s x : Operand)
    (ho : o.op = .call { callee := .builtin .append, args := #[s, x], argTypes := #[T, T] })
    (l : List α) (n : Nat) (ad : Addr) (hs : a.eval s = .slice (some ad) n n) (hl : l.length = n) (holds : ∀ j u, (R.cells l)[j]? = some u → w.cell? (ad.add j) = some u)
    (y : α) (C : Array Value) (hC : C = (R.enc y).toArray) (G c : Nat) (hx : a.eval x = .slice (some ⟨G, 0, none⟩) 1 c) (hG : w.heap[G]? = some (.cells C R.T)) (hlen : n + 1 ≤ 1000000000)
    (h : ∀ g cap w', OwnR R w.heap.size (.slice (some ⟨g, 0, none⟩) (n + 1) cap) (l ++ [y]) w' → w.grownBy w' none → K (a.put o.dst (.slice (some ⟨g, 0, none⟩) (n + 1) cap)) w') :
    if Region.wanted o (yielded ops a.tmps) = true then Oper.wp Try.prog o a w K Q else E := by
  obtain ⟨i0, hi, hz0, hz1, hz2⟩ := info_parts ok.info
  subst hC
  have hby : (n + 1) * R.bytes ≤ 140737488355328 := Nat.le_trans (Nat.mul_le_mul hlen ok.small) (by decide)
  rw [if_pos hw]
  obtain ⟨v', w', hr, h2, h3⟩ := run_append_arg_grows (P := Try.prog) w T o.type R.T i0 R.z R.k R.bytes hT hi hz0 hz1 hz2 ok.zs ok.pos ad n n (R.cells l) (by rw [ok.length, hl]) holds ⟨G, 0, none⟩ 1 c (R.cells [y]) (by rw [ok.length]; rfl) (by rw [Rec.cells_one_row]; exact World.news_of_block (cs := (R.enc y).toArray) hG) (by omega) (by unfold maxLen; omega) hby
  obtain ⟨g, cap, rfl, _, hlt⟩ := h2.form (by omega)
  unfold Oper.wp execOp
  simp only [ho, resolve, invoke, builtin, Sem.run_bind, Sem.run_pure, Result.andThen_ok, List.map_toArray, List.map_cons, List.map_nil, hs, hx, hr]
  refine h g cap w' ?_ h3
  unfold OwnR
  rw [Rec.cells_append, List.length_append, hl]
  exact h2
end Go.Proofs.Ytpnpgjjbincigaa
