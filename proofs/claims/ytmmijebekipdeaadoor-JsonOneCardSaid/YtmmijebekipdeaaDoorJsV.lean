/- Values of chapter 14 as they lie in memory; rows of values that a call makes itself. -/
import Derived.Test.YtmmijebekipdeaaDoorJsM
import Derived.Test.YtmmijebekipdeaaDoorRec
import Derived.Deep.AppendLies
namespace Go.Proofs.YtmmijebekipdeaaDoor
open Go.RowKit

/-- names, in blocks of S -/
def Js.NsAt (S : Nat → Prop) (w : World) (ns : List ByteArray) (v : Value) : Prop :=
  ∃ p c, v = .slice p ns.length c ∧ ns.length ≤ c ∧ c ≤ maxLen ∧ (ns = [] ∨ ∃ b o, p = some ⟨b, o, none⟩ ∧ S b ∧ ∀ i (h : i < ns.length), w.cell? ⟨b, o + i, none⟩ = some (.string ns[i]))
mutual
/-- a value: its names, its items (all blocks are of S) -/
def Js.VAt (S : Nat → Prop) (w : World) : Js.V → Value → Value → Prop
  | .mk _ _ ns xs, nv, iv => Js.NsAt S w ns nv ∧ ∃ p c, iv = .slice p xs.length c ∧ xs.length ≤ c ∧ c ≤ maxLen ∧ (xs = [] ∨ ∃ b o, p = some ⟨b, o, none⟩ ∧ S b ∧ Js.LAt S w xs b o)
/-- values, one behind another -/
def Js.LAt (S : Nat → Prop) (w : World) : List Js.V → Nat → Nat → Prop
  | [], _, _ => True
  | x :: r, b, o => (∃ nv iv, w.cell? ⟨b, o, none⟩ = some (.int .u8 x.kind) ∧ w.cell? ⟨b, o + 1, none⟩ = some (.string x.text) ∧ w.cell? ⟨b, o + 2, none⟩ = some nv ∧ w.cell? ⟨b, o + 3, none⟩ = some iv ∧ Js.VAt S w x nv iv) ∧ Js.LAt S w r b (o + 4)
end

/-- what stands of the blocks of S stands later; and is of S' -/
structure Js.Moves (S S' : Nat → Prop) (w w' : World) : Prop where
  block : ∀ k, S k → k < w.heap.size → w'.heap[k]? = w.heap[k]?
  into : ∀ k, S k → k < w.heap.size → S' k
theorem Js.Moves.cell {S S' : Nat → Prop} {w w' : World} (m : Js.Moves S S' w w') {b o : Nat} {v : Value} (hb : S b) (h : w.cell? ⟨b, o, none⟩ = some v) : w'.cell? ⟨b, o, none⟩ = some v ∧ S' b := by
  have hl := World.block_lt_of_cell? w ⟨b, o, none⟩ h
  exact ⟨(World.cell?_of_block (w := w) (m.block b hb hl)).trans h, m.into b hb hl⟩
theorem Js.NsAt.move {S S' : Nat → Prop} {w w' : World} (m : Js.Moves S S' w w') {ns : List ByteArray} {v : Value} (h : Js.NsAt S w ns v) : Js.NsAt S' w' ns v := by
  obtain ⟨p, c, hv, h1, h2, h3⟩ := h
  refine ⟨p, c, hv, h1, h2, ?_⟩
  rcases h3 with h3 | ⟨b, o, hp, hb, hc⟩
  · exact .inl h3
  · by_cases h0 : ns = []
    · exact .inl h0
    · have hl : 0 < ns.length := List.length_pos_iff.2 h0
      exact .inr ⟨b, o, hp, (m.cell hb (hc 0 hl)).2, fun i hi => (m.cell hb (hc i hi)).1⟩
mutual
theorem Js.VAt.move {S S' : Nat → Prop} {w w' : World} (m : Js.Moves S S' w w') : ∀ (x : Js.V) (nv iv : Value), Js.VAt S w x nv iv → Js.VAt S' w' x nv iv
  | .mk k t ns xs, nv, iv, h => by
    unfold Js.VAt at h ⊢
    obtain ⟨hn, p, c, hv, h1, h2, h3⟩ := h
    refine ⟨hn.move m, p, c, hv, h1, h2, ?_⟩
    rcases h3 with h3 | ⟨b, o, hp, hb, hl⟩
    · exact .inl h3
    · by_cases h0 : xs = []
      · exact .inl h0
      · exact .inr ⟨b, o, hp, (Js.LAt.move m xs b o hb hl).2 h0, (Js.LAt.move m xs b o hb hl).1⟩
theorem Js.LAt.move {S S' : Nat → Prop} {w w' : World} (m : Js.Moves S S' w w') : ∀ (l : List Js.V) (b o : Nat), S b → Js.LAt S w l b o → Js.LAt S' w' l b o ∧ (l ≠ [] → S' b)
  | [], _, _, _, _ => by unfold Js.LAt; exact ⟨trivial, fun h => absurd rfl h⟩
  | x :: r, b, o, hb, h => by
    unfold Js.LAt at h ⊢
    obtain ⟨⟨nv, iv, h0, h1, h2, h3, hx⟩, hr⟩ := h
    exact ⟨⟨⟨nv, iv, (m.cell hb h0).1, (m.cell hb h1).1, (m.cell hb h2).1, (m.cell hb h3).1, Js.VAt.move m x nv iv hx⟩, (Js.LAt.move m r b (o + 4) hb hr).1⟩, fun _ => (m.cell hb h0).2⟩
end

/-- an item as it lies: the value, and its two slices -/
structure Js.It where
  x : Js.V
  n : Option Addr × Nat × Nat
  i : Option Addr × Nat × Nat
def Js.It.nv (t : Js.It) : Value := .slice t.n.1 t.n.2.1 t.n.2.2
def Js.It.iv (t : Js.It) : Value := .slice t.i.1 t.i.2.1 t.i.2.2
def Js.iR : Rec Js.It := { T := 27, k := 4, bytes := 72, z := .agg #[.int .u8 0, .string ByteArray.empty, .slice none 0 0, .slice none 0 0], enc := fun t => [.int .u8 t.x.kind, .string t.x.text, .slice t.n.1 t.n.2.1 t.n.2.2, .slice t.i.1 t.i.2.1 t.i.2.2] }
theorem Js.iOk : Js.iR.Ok where
  len := fun _ => rfl
  one := fun t u hu => by
    simp [Js.iR] at hu
    rcases hu with rfl | rfl | rfl | rfl <;> rfl
  pos := by decide
  small := by decide
  info := by kernel_rfl
  zs := rfl
/-- names as a row -/
def Js.sR : Rec ByteArray := { T := 9, k := 1, bytes := 16, z := .string ByteArray.empty, enc := fun s => [.string s] }
theorem Js.sOk : Js.sR.Ok where
  len := fun _ => rfl
  one := fun t u hu => by
    simp [Js.sR] at hu
    subst hu
    rfl
  pos := by decide
  small := by decide
  info := by kernel_rfl
  zs := rfl

section
variable {α : Type} {R : Rec α}
/-- 'append(v, x)' at a step of a region that draws its order: where the row lies then is told, too -/
theorem step_pushN {ops : Array Oper} {o : Oper} {a : Act} {K : Act → World → Prop} {Q : Exit → Act → World → Prop} {E : Prop} {w : World} (ok : R.Ok) (T : TypeId) (hT : Tryd.prog.underlying T = some (.slice R.T)) (hgd : o.guard = none) (s x : Operand)
    (ho : o.op = .call { callee := .builtin .append, args := #[s, x], argTypes := #[T, T] })
    (B : Nat) (v : Value) (l : List α) (hs : a.eval s = v) (hown : OwnR R B v l w) (y : α) (C : Array Value) (hC : C = (R.enc y).toArray) (G c : Nat) (hx : a.eval x = .slice (some ⟨G, 0, none⟩) 1 c)
    (hG : w.heap[G]? = some (.cells C R.T)) (hlen : l.length + 1 ≤ 1000000000) (hB : B ≤ w.heap.size)
    (h : ∀ g cap w', OwnR R B (.slice (some ⟨g, 0, none⟩) (l.length + 1) cap) (l ++ [y]) w' → w.grownBy w' v.ownBlock → (v.ownBlock = some g ∨ g = w.heap.size) → K (a.put o.dst (.slice (some ⟨g, 0, none⟩) (l.length + 1) cap)) w') :
    if Region.wanted o (yielded ops a.tmps) = true then Oper.wp Tryd.prog o a w K Q else E := by
  obtain ⟨i0, hi, hz0, hz1, hz2⟩ := info_parts ok.info
  subst hC
  have hby : (l.length + 1) * R.bytes ≤ 140737488355328 := Nat.le_trans (Nat.mul_le_mul hlen ok.small) (by decide)
  refine step_append_lies w hgd s x T ho B R.T i0 R.z R.k R.bytes hT hi hz0 hz1 hz2 ok.zs ok.pos v l.length (R.cells l) hs hown ⟨G, 0, none⟩ 1 c (R.cells [y]) hx (by rw [ok.length]; rfl)
    (by rw [Rec.cells_one_row]; exact World.news_of_block (cs := (R.enc y).toArray) hG) (ok.ones _) (by omega) (by unfold maxLen; omega) hby hB w.heap.size rfl ?_
  intro g cap w' h1 h2 h3 _
  refine h g cap w' ?_ h2 h3
  unfold OwnR
  rw [Rec.cells_append, List.length_append]
  exact h1
/-- .. at an operation -/
theorem wp_pushN {o : Oper} {a : Act} {K : Act → World → Prop} {Q : Exit → Act → World → Prop} {w : World} (ok : R.Ok) (T : TypeId) (hT : Tryd.prog.underlying T = some (.slice R.T)) (s x : Operand)
    (ho : o.op = .call { callee := .builtin .append, args := #[s, x], argTypes := #[T, T] })
    (B : Nat) (v : Value) (l : List α) (hs : a.eval s = v) (hown : OwnR R B v l w) (y : α) (C : Array Value) (hC : C = (R.enc y).toArray) (G c : Nat) (hx : a.eval x = .slice (some ⟨G, 0, none⟩) 1 c)
    (hG : w.heap[G]? = some (.cells C R.T)) (hlen : l.length + 1 ≤ 1000000000) (hB : B ≤ w.heap.size)
    (h : ∀ g cap w', OwnR R B (.slice (some ⟨g, 0, none⟩) (l.length + 1) cap) (l ++ [y]) w' → w.grownBy w' v.ownBlock → (v.ownBlock = some g ∨ g = w.heap.size) → K (a.put o.dst (.slice (some ⟨g, 0, none⟩) (l.length + 1) cap)) w') :
    Oper.wp Tryd.prog o a w K Q := by
  obtain ⟨i0, hi, hz0, hz1, hz2⟩ := info_parts ok.info
  subst hC
  have hby : (l.length + 1) * R.bytes ≤ 140737488355328 := Nat.le_trans (Nat.mul_le_mul hlen ok.small) (by decide)
  refine wp_append_lies w s x T ho B R.T i0 R.z R.k R.bytes hT hi hz0 hz1 hz2 ok.zs ok.pos v l.length (R.cells l) hs hown ⟨G, 0, none⟩ 1 c (R.cells [y]) hx (by rw [ok.length]; rfl)
    (by rw [Rec.cells_one_row]; exact World.news_of_block (cs := (R.enc y).toArray) hG) (ok.ones _) (by omega) (by unfold maxLen; omega) hby hB w.heap.size rfl ?_
  intro g cap w' h1 h2 h3 _
  refine h g cap w' ?_ h2 h3
  unfold OwnR
  rw [Rec.cells_append, List.length_append]
  exact h1
/-- the same in a region that does not draw -/
theorem wpList_pushN {ops : Array Oper} {rest : List Oper} {o : Oper} {a : Act} {Q : Exit → Act → World → Prop} {w : World} (ok : R.Ok) (T : TypeId) (hT : Tryd.prog.underlying T = some (.slice R.T)) (hgd : o.guard = none) (s x : Operand)
    (ho : o.op = .call { callee := .builtin .append, args := #[s, x], argTypes := #[T, T] })
    (B : Nat) (v : Value) (l : List α) (hs : a.eval s = v) (hown : OwnR R B v l w) (y : α) (C : Array Value) (hC : C = (R.enc y).toArray) (G c : Nat) (hx : a.eval x = .slice (some ⟨G, 0, none⟩) 1 c)
    (hG : w.heap[G]? = some (.cells C R.T)) (hlen : l.length + 1 ≤ 1000000000) (hB : B ≤ w.heap.size)
    (h : ∀ g cap w', OwnR R B (.slice (some ⟨g, 0, none⟩) (l.length + 1) cap) (l ++ [y]) w' → w.grownBy w' v.ownBlock → (v.ownBlock = some g ∨ g = w.heap.size) → wpList Tryd.prog ops Q rest (a.put o.dst (.slice (some ⟨g, 0, none⟩) (l.length + 1) cap)) w') :
    wpList Tryd.prog ops Q (o :: rest) a w := by
  obtain ⟨i0, hi, hz0, hz1, hz2⟩ := info_parts ok.info
  subst hC
  have hby : (l.length + 1) * R.bytes ≤ 140737488355328 := Nat.le_trans (Nat.mul_le_mul hlen ok.small) (by decide)
  refine wpList_append_lies w hgd s x T ho B R.T i0 R.z R.k R.bytes hT hi hz0 hz1 hz2 ok.zs ok.pos v l.length (R.cells l) hs hown ⟨G, 0, none⟩ 1 c (R.cells [y]) hx (by rw [ok.length]; rfl)
    (by rw [Rec.cells_one_row]; exact World.news_of_block (cs := (R.enc y).toArray) hG) (ok.ones _) (by omega) (by unfold maxLen; omega) hby hB w.heap.size rfl ?_
  intro g cap w' h1 h2 h3 _
  refine h g cap w' ?_ h2 h3
  unfold OwnR
  rw [Rec.cells_append, List.length_append]
  exact h1
end
theorem Kp.own {R B : Nat} {α : Type} {T : Rec α} {v : Value} {l : List α} {w w' : World} (h : OwnR T B v l w) (k : Kp R w w') (hR : R < B) : OwnR T B v l w' := k.row h hR
/-- a row of another kind stays while one grows -/
theorem OwnR.far {α β : Type} {T : Rec α} {T2 : Rec β} {B B2 : Nat} {v v2 : Value} {l : List α} {l2 : List β} {w w' : World} (h : OwnR T B v l w) (h2 : OwnR T2 B2 v2 l2 w) (he : T.T ≠ T2.T) (hg : w.grownBy w' v2.ownBlock) : OwnR T B v l w' := by
  obtain ⟨h1, h3⟩ := h
  refine ⟨h1, ?_⟩
  rcases h3 with h3 | ⟨g, cap, cur, hv, hgB, hh, r⟩
  · exact .inl h3
  · refine .inr ⟨g, cap, cur, hv, hgB, (hg.block g (lt_of_heap hh) fun e => ?_).trans hh, r⟩
    obtain ⟨_, h4⟩ := h2
    rcases h4 with ⟨rfl, _⟩ | ⟨g2, cap2, cur2, rfl, _, hh2, _⟩
    · simp [Value.ownBlock] at e
    · simp only [Value.ownBlock, Option.some.injEq] at e
      subst e
      rw [hh] at hh2
      simp only [Option.some.injEq, Obj.cells.injEq] at hh2
      exact he hh2.2.1
theorem OwnR.block_lt {α : Type} {T : Rec α} {B : Nat} {v : Value} {l : List α} {w : World} (h : OwnR T B v l w) {k : Nat} (hk : v.ownBlock = some k) : B ≤ k ∧ k < w.heap.size := by
  obtain ⟨_, h3⟩ := h
  rcases h3 with ⟨rfl, _⟩ | ⟨g, cap, cur, rfl, hg, hh, _⟩
  · simp [Value.ownBlock] at hk
  · simp only [Value.ownBlock, Option.some.injEq] at hk
    subst hk
    exact ⟨hg, lt_of_heap hh⟩
/-- a call that hands back a value of its own making -/
def Js.VGoes (R : Nat) (s : ByteArray) (j o b : Nat) (x : Js.V) (w : World) (e : Ending) (w' : World) : Prop :=
  ∃ t : Js.It, t.x = x ∧ e = .returned (.agg #[.int .u8 t.x.kind, .string t.x.text, t.nv, t.iv]) ∧ w'.heap[R]? = some (Js.obj s j o b) ∧ Kp R w w' ∧ Js.VAt (fun k => w.heap.size ≤ k) w' t.x t.nv t.iv
/-- what the reading of a value asks: it goes on, or stops -/
def Js.VRes (R : Nat) (s : ByteArray) (o : Nat) (w : World) (x : Js.R (Js.V × Nat × Nat)) (e : Ending) (w' : World) : Prop :=
  match x with
  | .ok (v, j, b) => Js.VGoes R s j o b v w e w'
  | .error p => Js.Stops R p w e w'
theorem Js.VRes.ok {R : Nat} {s : ByteArray} {o : Nat} {w : World} {x : Js.R (Js.V × Nat × Nat)} {e : Ending} {w' : World} (v : Js.V) (j b : Nat) (h : x = .ok (v, j, b)) (g : Js.VGoes R s j o b v w e w') : Js.VRes R s o w x e w' := by subst h; exact g
theorem Js.VRes.bad {R : Nat} {s : ByteArray} {o : Nat} {w : World} {x : Js.R (Js.V × Nat × Nat)} {e : Ending} {w' : World} (p : Nat × Nat) (h : x = .error p) (g : Js.Stops R p w e w') : Js.VRes R s o w x e w' := by subst h; exact g
end Go.Proofs.YtmmijebekipdeaaDoor
