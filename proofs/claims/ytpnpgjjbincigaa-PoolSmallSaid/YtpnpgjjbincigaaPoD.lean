/- A range over a function whose iterator writes variables that it has captured (the blocks 'boxes'), and whose body never leaves the loop: the law for the caller. A region that draws its order, by an invariant: each operation is stepped once, whatever has come up before it. Regions that draw their order, in a round of a range over a function: the plain laws serve there, too. -/
import Derived.RangeFuncNested
import Derived.RangeFuncBound
import Derived.RangeFuncBox
import Derived.RangeFuncCalls
import Derived.RangeFuncLeaves
import Derived.Shelf.Abstract
import Derived.Shelf.RegionOpen
import Derived.WalkKit
import Derived.OwnWalkIn
import Derived.TacticsInMore
import Derived.LoopNIn
import Derived.LoopIn
import Derived.Test.YtpnpgjjbincigaaProg
import Derived.Orders
import Derived.OrdersIn
import Derived.Deep.Quiet
import Derived.Deep.RegionHeld
namespace Go.Proofs.Ytpnpgjjbincigaa
open Go.RowKit

variable {F : Fence} {n : Nat} {P : Program}
/-- what an iterator that writes the blocks 'boxes' gives: each round is asked of J, which abides those blocks' turns and new blocks -/
def Rng.Gives {α : Type} (F : Fence) (n : Nat) (P : Program) (g : Nat) (lb : Array Value) (encs : α → Array Value) (boxes : Nat → Prop) (Tb : TypeId) (Kp : World → World → Prop) (Px : List α → α → Prop) (S : List α → Prop) (w : World) : Prop :=
  ∀ (l : Nat) (J : List α → World → Prop) (W : World), Below w.heap.size w W → (∀ s A B row, J s A → A.grownBy B row → (∀ r, row = some r → boxes r ∧ ∃ cur, B.heap[r]? = some (.cells cur Tb)) → J s B) →
    (∀ pre x W1, J pre W1 → Px pre x → YieldAt F (n - 1) P l (encs x) W1 fun e W' => e = .returned (.bool true) ∧ J (pre ++ [x]) W' ∧ Kp W1 W') → J [] W →
    CallsIn F n P g (#[.func (.yield l) #[] #[]] ++ lb) W fun e W' => (∃ v, e = .returned v) ∧ ∃ xs, S xs ∧ J xs W'

/-- the loop's record, in its states -/
def Rng.record (fn : FuncId) (a : Act) (ps : Array Tmp) (assign body : Code) (d : Nat) (st : LoopState) : Loop := { state := st, pending := none, fn, tmps := a.tmps, params := ps, assign, body, defers := d }

theorem Rng.law {α : Type} {g : Operand} {ps : Array Tmp} {assign body : Code} {Q : Exit → Act → World → Prop} {a : Act} {w : World}
    (hro : F.round = none) (h1 : 1 ≤ n) {gf : Nat} {lb : Array Value} (hg : a.eval g = .func (.func gf) #[] lb) (hFg : F.fn gf) (eg : ∀ args w, (callFunc gf args).run P w = .ok (.enter gf args) w)
    {encs : α → Array Value} {boxes : Nat → Prop} {Tb : TypeId} {Kp : World → World → Prop} {Px : List α → α → Prop} {S : List α → Prop} {w0 : World} (hseq : Rng.Gives F (n - 1) P gf lb encs boxes Tb Kp Px S w0) (hbx : ∀ r, boxes r → r < w.heap.size)
    (hKt : ∀ {A B C : World}, Kp A B → Kp B C → Kp A C) (hKb : ∀ (W : World) (l : Nat) (o o' : Obj), W.heap[l]? = some o → o.isCells = false → Kp W (W.putObj l o')) (hb0 : Below w0.heap.size w0 w) (hps : ∀ x, (encs x).size = ps.size)
    (I : List α → World → Prop) (hI : OwnFrom w.heap.size I) (hIb : ∀ s A B row, I s A → A.grownBy B row → (∀ r, row = some r → boxes r ∧ ∃ cur, B.heap[r]? = some (.cells cur Tb)) → I s B) (h0 : I [] w) (Ax : α → Act → World → Prop)
    (hassign : ∀ (l : Nat) (pre : List α) (x : α) (W : World) (K : Act → World → Prop), Px pre x → I pre W → (∀ a' W', KeepsFrom w.heap.size W W' → Kp W W' → I pre W' → Ax x a' W' → K a' W') →
      assign.wpIn (F.inRound l) (n - 1 - 1) P (Exit.then K (fun _ _ _ => False)) { tmps := (ps.zip (encs x)).foldl (fun t (p, v) => t.setIfInBounds p v) a.tmps, defers := [] } W)
    (hbody : ∀ (l : Nat) (pre : List α) (x : α) (a' : Act) (W : World), Px pre x → I pre W → Ax x a' W → body.wpIn (F.inRound l) (n - 1 - 1) P (ownPostG w.heap.size Kp I (fun _ _ _ => False) (pre ++ [x]) W) a' W)
    (hAx : ∀ x a', OwnFrom w.heap.size (fun (_ : Unit) W => Ax x a' W))
    (hdone : ∀ (D : Nat) (xs : List α) (W : World), w.heap.size ≤ D → S xs → I xs W → W.heap[D]? = some (.deferred (some [])) → Q .normal { a with defers := { target := .collected D, args := #[] } :: a.defers } W) :
    (Code.rangeFunc g ps assign body).wpIn F n P Q a w := by
  refine wpIn_rangeFunc fun fn hfn => ?_
  rw [hro]
  obtain ⟨D, hD⟩ : ∃ D, D = w.heap.size := ⟨_, rfl⟩
  obtain ⟨R, hR⟩ : ∃ R : LoopState → Loop, R = Rng.record fn a ps assign body D := ⟨_, rfl⟩
  obtain ⟨W1, hW1⟩ : ∃ W1, W1 = (w.alloc (.deferred (some []))).alloc (.loop (R .ready)) := ⟨_, rfl⟩
  have z1 : W1.heap.size = D + 2 := by rw [hW1, hD]; simp
  have hL1 : W1.heap[D + 1]? = some (.loop (R .ready)) := by
    have := World.alloc_heap_new (w.alloc (.deferred (some []))) (.loop (R .ready))
    rwa [World.size_alloc, ← hD, ← hW1] at this
  have hK1 : W1.heap[D]? = some (.deferred (some [])) := by
    rw [hW1, hD]
    exact (Below.heap_alloc _ _ _ (by simp)).trans (World.alloc_heap_new w _)
  have hI1 : I [] W1 := by rw [hW1]; exact hI.alloc _ (hI.alloc _ h0)
  have hb1 : Below w0.heap.size w0 W1 := by
    rw [hW1]; exact hb0.trans ((((Below.refl _ w).alloc (Nat.le_refl _) _).alloc (by simp) _).mono hb0.size)
  have hBD : w.heap.size ≤ D + 1 := by omega
  refine ⟨D + 1, [{ target := .collected D, args := #[] }], W1, { target := .fn (.func gf) lb, args := #[.func (.yield (D + 1)) #[] #[]] }, W1, gf, #[.func (.yield (D + 1)) #[] #[]] ++ lb, W1, ?_, ?_, ?_, ?_, fun _ => h1, ?_⟩
  · rw [hW1, hR, hD]; exact run_enterLoop_outer _ _ _ _ _
  · simp only [resolve, hg]
    simp [go_sem]
  · intro f' hf'; simp [Target.leads] at hf'; subst hf'; exact hFg
  · simp [invoke, go_sem, eg]
  have keepRec : ∀ {A B : World} {row : Option Nat} {o : Obj} {k : Nat}, A.grownBy B row → (∀ r, row = some r → boxes r ∧ ∃ cur, B.heap[r]? = some (.cells cur Tb)) → D ≤ k → A.heap[k]? = some o → B.heap[k]? = some o := fun hgr hr hk ho =>
    (hgr.block _ (Array.getElem?_eq_some_iff.1 ho).1 (fun e => by have := hbx _ (hr _ e.symm).1; omega)).trans ho
  refine (hseq (D + 1) (fun pre W => I pre W ∧ W.heap[D + 1]? = some (.loop (R .ready)) ∧ W.heap[D]? = some (.deferred (some []))) W1 hb1
    (fun s A B row hs hgr hr => ⟨hIb s A B row hs.1 hgr hr, keepRec hgr hr (by omega) hs.2.1, keepRec hgr hr (Nat.le_refl _) hs.2.2⟩) ?_ ⟨hI1, hL1, hK1⟩).mono ?_
  · rintro pre x W ⟨hi, hl, hk⟩ hpx
    have hlt : D + 1 < W.heap.size := (Array.getElem?_eq_some_iff.1 hl).1
    have hy := run_yield (P := P) (args := encs x) hl (by rw [hR]; exact hps x)
    rw [hR] at hy
    refine ⟨fn, _, assign, body, hy, roundIn_of_wpIn hfn (hassign _ pre x W _ hpx hi fun a' W' hkf hkp hi' hax => ?_)⟩
    have hl' := hkf.same _ _ hBD hl rfl
    have hk' := hkf.same _ _ (by omega) hk rfl
    have hlt' : D + 1 < W'.heap.size := (Array.getElem?_eq_some_iff.1 hl').1
    have hbr := run_beginRound (P := P) hl' (by rw [hR]; rfl)
    obtain ⟨V, hV⟩ : ∃ V, V = W'.putObj (D + 1) (.loop { R .ready with state := .busy }) := ⟨_, rfl⟩
    have hl2 : V.heap[D + 1]? = some (.loop { R .ready with state := .busy }) := by rw [hV]; exact World.putObj_heap_same hlt'
    have hk2 : V.heap[D]? = some (.deferred (some [])) := by rw [hV]; exact (World.putObj_heap_other (by omega)).trans hk'
    have hw2 : Kp W' V := by rw [hV]; exact hKb _ _ _ _ hl' rfl
    have hi2 : I pre V := by rw [hV]; exact hI.putObj _ hi' hBD hl' rfl
    have ha2 : Ax x a' V := by rw [hV]; exact (hAx x a').putObj (s := ()) _ hax hBD hl' rfl
    refine ⟨_, hbr, ?_⟩
    rw [← hV]
    refine wpIn_mono (hbody _ pre x a' V hpx hi2 ha2) ?_
    rintro e a3 W3 hp
    cases e with
    | normal =>
      obtain ⟨hk3, hkp3, hi3⟩ := hp
      have hl3 := hk3.same _ _ hBD hl2 rfl
      have hk4 := hk3.same _ _ (by omega) hk2 rfl
      have hlt3 : D + 1 < W3.heap.size := (Array.getElem?_eq_some_iff.1 hl3).1
      have her := run_endRound (P := P) none hl3
      have e1 : ({ ({ R .ready with state := .busy } : Loop) with state := (if (none : Option Code).isNone then LoopState.ready else LoopState.done), pending := none } : Loop) = R .ready := by rw [hR]; rfl
      refine ⟨_, _, her, rfl, ⟨hI.putObj _ hi3 hBD hl3 rfl, ?_, ?_⟩, hKt hkp (hKt (hKt hw2 hkp3) (hKb _ _ _ _ hl3 rfl))⟩
      · refine (World.putObj_heap_same hlt3).trans ?_
        rw [hR]
        rfl
      · exact (World.putObj_heap_other (by omega)).trans hk4
    | ret => exact hp.2.elim
    | exit id => exact hp.2.elim
    | goto t => exact hp.2.elim
    | panic ch => exact hp.elim
    | outgrown => exact hp.elim
  · rintro e W2 ⟨⟨v, rfl⟩, xs, hS, hi, hl, hk⟩
    exact ⟨none, _, by have := run_endLoop (P := P) hl (by rw [hR]; simp [Rng.record]); rw [hR] at this; exact this, hdone D xs _ (by omega) hS (hI.putObj _ hi hBD hl rfl) ((World.putObj_heap_other (by omega)).trans hk)⟩
end Go.Proofs.Ytpnpgjjbincigaa
namespace Go.Proofs.Ytpnpgjjbincigaa
open Go.RowKit

/-- what an operation waits for -/
def Reg.deps (o : Oper) : List Nat := (o.after.toList.filter fun e => Region.binds .any e).map fun e => e.on
/-- each operation waits for earlier ones alone -/
def Reg.ordered : Nat → List Oper → Bool
  | _, [] => true
  | i, o :: r => (Reg.deps o).all (fun j => decide (j < i)) && Reg.ordered (i + 1) r
def Reg.Step (P : Program) (ops : Array Oper) (Q : Exit → Act → World → Prop) (J : (Nat → Bool) → Act → World → Prop) (i : Nat) (o : Oper) : Prop :=
  ∀ (d : Nat → Bool) (a : Act) (w : World), d i = false → (∀ j ∈ Reg.deps o, d j = true) → J d a w → ∀ K : Act → World → Prop, (∀ a' w', J (fun j => d j || j == i) a' w' → K a' w') →
    if Region.wanted o (yielded ops a.tmps) = true then Oper.wp P o a w K Q else K (a.put o.dst undef) w
def Reg.Steps (P : Program) (ops : Array Oper) (Q : Exit → Act → World → Prop) (J : (Nat → Bool) → Act → World → Prop) : Nat → List Oper → Prop
  | _, [] => True
  | i, o :: r => Reg.Step P ops Q J i o ∧ Reg.Steps P ops Q J (i + 1) r

theorem Reg.steps_get {P : Program} {ops : Array Oper} {Q : Exit → Act → World → Prop} {J : (Nat → Bool) → Act → World → Prop} : ∀ (l : List Oper) (i : Nat), Reg.Steps P ops Q J i l → ∀ k o, l[k]? = some o → Reg.Step P ops Q J (i + k) o
  | [], _, _, k, o, h => by simp at h
  | x :: l, i, hs, 0, o, h => by
    simp at h
    subst h
    exact hs.1
  | x :: l, i, hs, k + 1, o, h => by
    have := Reg.steps_get l (i + 1) hs.2 k o (by simpa using h)
    rw [show i + (k + 1) = i + 1 + k by omega]
    exact this
theorem Reg.ordered_get : ∀ (l : List Oper) (i : Nat), Reg.ordered i l = true → ∀ k o, l[k]? = some o → ∀ j ∈ Reg.deps o, j < i + k
  | [], _, _, k, o, h => by simp at h
  | x :: l, i, hs, 0, o, h => by
    simp at h
    subst h
    unfold Reg.ordered at hs
    rw [Bool.and_eq_true, List.all_eq_true] at hs
    intro j hj
    have := hs.1 j hj
    simpa using this
  | x :: l, i, hs, k + 1, o, h => by
    unfold Reg.ordered at hs
    rw [Bool.and_eq_true] at hs
    intro j hj
    have := Reg.ordered_get l (i + 1) hs.2 k o (by simpa using h) j hj
    omega
theorem Reg.mem_deps {o : Oper} {listed : Array Bool} (h : ∀ e ∈ o.after, Region.binds .any e = true → listed.getD e.on false = true) : ∀ j ∈ Reg.deps o, listed.getD j false = true := by
  intro j hj
  unfold Reg.deps at hj
  rw [List.mem_map] at hj
  obtain ⟨e, he, rfl⟩ := hj
  rw [List.mem_filter] at he
  exact h e (by simpa using he.1) he.2
theorem Reg.of_deps {o : Oper} {listed : Array Bool} (h : ∀ j ∈ Reg.deps o, listed.getD j false = true) : ∀ e ∈ o.after, Region.binds .any e = true → listed.getD e.on false = true := by
  intro e he hb
  refine h _ ?_
  unfold Reg.deps
  rw [List.mem_map]
  exact ⟨e, List.mem_filter.2 ⟨by simpa using he, hb⟩, rfl⟩
theorem Reg.getD_true {listed : Array Bool} {j : Nat} (h : j < listed.size) : listed.getD j true = listed.getD j false := by
  simp [h]
theorem Reg.all_of_ready {ops : Array Oper} {listed : Array Bool} (hsz : listed.size = ops.size) (hord : Reg.ordered 0 ops.toList = true) (hr : Region.ready .any ops listed = []) :
    ∀ j, j < ops.size → listed.getD j false = true := by
  intro j
  induction j using Nat.strongRecOn with
  | _ j ih =>
    intro hj
    cases hd : listed.getD j false with
    | true => rfl
    | false =>
      have hm : j ∈ Region.ready .any ops listed := by
        rw [mem_ready]
        refine ⟨by rw [Reg.getD_true (by omega)]; exact hd, ops[j], by simp [hj], ?_⟩
        refine Reg.of_deps fun k hk => ?_
        have := Reg.ordered_get ops.toList 0 hord j ops[j] (by simp [hj]) k hk
        exact ih k (by omega) (by omega)
      rw [hr] at hm
      cases hm
def Reg.left (n : Nat) (listed : Array Bool) : Nat := (List.range n).countP fun j => !listed.getD j false
theorem Reg.left_set {n i : Nat} {listed : Array Bool} (hsz : listed.size = n) (hi : i < n) (hd : listed.getD i false = false) : Reg.left n (listed.setIfInBounds i true) + 1 ≤ Reg.left n listed := by
  unfold Reg.left
  have h1 : (List.range n).countP (fun j => !listed.getD j false) = (List.range n).countP (fun j => !(listed.setIfInBounds i true).getD j false) + (List.range n).countP (fun j => j == i) := by
    have : ∀ l : List Nat, l.countP (fun j => !listed.getD j false) = l.countP (fun j => !(listed.setIfInBounds i true).getD j false) + l.countP (fun j => j == i) := by
      intro l
      induction l with
      | nil => rfl
      | cons x l ih =>
        rw [List.countP_cons, List.countP_cons, List.countP_cons, ih]
        by_cases hx : x = i
        · subst hx
          have e1 : (listed.setIfInBounds x true).getD x false = true := by simp [hsz, hi]
          rw [e1, hd]
          simp
          omega
        · have e1 : (listed.setIfInBounds i true).getD x false = listed.getD x false := getD_set_ne false (Ne.symm hx)
          rw [e1]
          have e2 : (x == i) = false := by simpa using hx
          rw [e2]
          simp
          omega
    exact this _
  have h2 : 0 < (List.range n).countP (fun j => j == i) := List.countP_pos_iff.2 ⟨i, List.mem_range.2 hi, by simp⟩
  omega
theorem Reg.run {P : Program} {ops : Array Oper} {Q : Exit → Act → World → Prop} {J : (Nat → Bool) → Act → World → Prop} (hord : Reg.ordered 0 ops.toList = true) (hs : Reg.Steps P ops Q J 0 ops.toList)
    (he : ∀ a w, J (fun j => decide (j < ops.size)) a w → Q .normal a w) :
    ∀ (fuel : Nat) (listed : Array Bool) (a : Act) (w : World), listed.size = ops.size → Reg.left ops.size listed ≤ fuel → J (fun j => listed.getD j false) a w → wpAny P .any ops Q fuel listed a w := by
  have hend : ∀ (listed : Array Bool) (a : Act) (w : World), listed.size = ops.size → (∀ j, j < ops.size → listed.getD j false = true) → J (fun j => listed.getD j false) a w → Q .normal a w := by
    intro listed a w hsz hall hJ
    refine he a w ?_
    have e : (fun j => listed.getD j false) = fun j => decide (j < ops.size) := by
      funext j
      by_cases hj : j < ops.size
      · rw [hall j hj, decide_eq_true hj]
      · rw [decide_eq_false hj]
        simp [Array.getElem?_eq_none (show listed.size ≤ j by omega)]
    rw [e] at hJ
    exact hJ
  intro fuel
  induction fuel with
  | zero =>
    intro listed a w hsz hl hJ
    have hall : ∀ j, j < ops.size → listed.getD j false = true := by
      intro j hj
      have h0 : (List.range ops.size).countP (fun j => !listed.getD j false) = 0 := by unfold Reg.left at hl; omega
      rw [List.countP_eq_zero] at h0
      have := h0 j (List.mem_range.2 hj)
      simpa using this
    refine ⟨?_, hend listed a w hsz hall hJ⟩
    rw [List.eq_nil_iff_forall_not_mem]
    intro i hi
    obtain ⟨h1, o, ho, _⟩ := mem_ready.1 hi
    have hlt : i < ops.size := (Array.getElem?_eq_some_iff.1 ho).1
    rw [Reg.getD_true (by omega), hall i hlt] at h1
    cases h1
  | succ fuel ih =>
    intro listed a w hsz hl hJ
    refine ⟨fun hr => hend listed a w hsz (Reg.all_of_ready hsz hord hr) hJ, fun i hi => ?_⟩
    obtain ⟨h1, o, ho, hdep⟩ := mem_ready.1 hi
    have hlt : i < ops.size := (Array.getElem?_eq_some_iff.1 ho).1
    rw [Reg.getD_true (by omega)] at h1
    have hst := Reg.steps_get ops.toList 0 hs i o (by simpa using ho)
    rw [Nat.zero_add] at hst
    have hk := hst (fun j => listed.getD j false) a w h1 (Reg.mem_deps hdep) hJ (wpAny P .any ops Q fuel (listed.setIfInBounds i true)) (fun a' w' hJ' => by
      refine ih _ a' w' (by simp [hsz]) ?_ ?_
      · have := Reg.left_set hsz hlt h1
        omega
      · have e : (fun j => (listed.setIfInBounds i true).getD j false) = fun j => listed.getD j false || j == i := by
          funext j
          by_cases hj : j = i
          · subst hj
            simp [hsz, hlt]
          · rw [getD_set_ne false (Ne.symm hj)]
            have e2 : (j == i) = false := by simpa using hj
            rw [e2, Bool.or_false]
        rw [e]
        exact hJ')
    unfold wpOp
    simp only [ho]
    split
    · rename_i hw
      rw [if_pos hw] at hk
      exact .inl hk
    · rename_i hw
      rw [if_neg hw] at hk
      exact hk
/-- THE LAW: a region that draws, by an invariant that says of each operation what it leaves once it has come up. -/
theorem wp_region_inv {P : Program} {id : Nat} {ops : Array Oper} {Q : Exit → Act → World → Prop} {a : Act} {w : World} (hm : P.follows .mixedOrders = true) (hord : Reg.ordered 0 ops.toList = true)
    (I : Act → (Nat → Bool) → Act → World → Prop) (h0 : I a (fun _ => false) a w.drew) (hs : Reg.Steps P ops Q (I a) 0 ops.toList)
    (he : ∀ a' w', I a (fun j => decide (j < ops.size)) a' w' → Q .normal a' w') : (Code.region id ops true).wp P Q a w := by
  refine wp_region_any hm (Reg.run hord hs he ops.size _ a _ (by simp) ?_ ?_)
  · unfold Reg.left
    have := List.countP_le_length (l := List.range ops.size) (p := fun j => !(Array.replicate ops.size false).getD j false)
    simpa using this
  · have e : (fun j => (Array.replicate ops.size false).getD j false) = fun _ => false := by
      funext j
      by_cases hj : j < ops.size
      · simp [hj]
      · simp [hj]
    rw [e]
    exact h0
end Go.Proofs.Ytpnpgjjbincigaa
namespace Go.Proofs.Ytpnpgjjbincigaa
open Go.RowKit

def Rnd.calm (o : Oper) : Bool := match o.op with
  | .defer _ => false
  | _ => true
theorem Rnd.op {l n : Nat} {P : Program} {o : Oper} {a : Act} {w : World} {K : Act → World → Prop} {Q : Exit → Act → World → Prop} (hd : Rnd.calm o = true) (h : o.wp P a w K Q) : o.wpIn (Fence.wide.inRound l) n P a w K Q := by
  refine ⟨fun _ _ => trivial, ?_⟩
  rw [Oper.semAt_plain _ _ _ (fun c e => by unfold Rnd.calm at hd; rw [e] at hd; cases hd)]
  unfold Oper.wp at h
  generalize (execOp a.eval o).run P w = r at *
  cases r with
  | ok nx w' =>
    cases nx with
    | value v => exact h
    | skip => exact h
    | defer d => exact h
    | enter f args => exact ⟨fun e => by simp [Fence.wide] at e, (callsIn_wide.2 h).inRound l⟩
    | row row args =>
      refine ⟨fun e => by simp [Fence.wide] at e, fun c cs _ => ?_⟩
      obtain ⟨v, w2, r, s⟩ := h c cs
      exact ⟨v, w2, r, stepsIn_wide.2 s⟩
    | round l f tmps assign body => exact h.elim
    | _ => exact h.elim
  | halt x w' =>
    cases x with
    | panic v => exact h
    | _ => exact h.elim
theorem Rnd.wpOp {l n : Nat} {P : Program} {ops : Array Oper} {Q : Exit → Act → World → Prop} {i : Nat} {K : Act → World → Prop} {a : Act} {w : World} (hQ : ¬ LetsOut Q) (hc : ops.toList.all Rnd.calm = true) (h : Go.wpOp P ops Q i K a w) : wpOpIn (Fence.wide.inRound l) n P ops Q i K a w := by
  unfold Go.wpOp at h
  unfold wpOpIn
  cases ho : ops[i]? with
  | none => rw [ho] at h; exact h
  | some o =>
    rw [ho] at h
    dsimp only at h ⊢
    have hd : Rnd.calm o = true := List.all_eq_true.1 hc o (by
      have := Array.getElem?_eq_some_iff.1 ho
      obtain ⟨h1, h2⟩ := this
      rw [← h2]
      simp)
    split
    · rename_i hw
      rw [if_pos hw] at h
      rcases h with h | h
      · exact Rnd.op hd h
      · exact absurd h.2 hQ
    · rename_i hw
      rw [if_neg hw] at h
      exact ⟨fun _ _ => trivial, h⟩
theorem Rnd.any {l n : Nat} {P : Program} {md : Region.Mode} {ops : Array Oper} {Q : Exit → Act → World → Prop} (hQ : ¬ LetsOut Q) (hc : ops.toList.all Rnd.calm = true) :
    ∀ (fuel : Nat) (listed : Array Bool) (a : Act) (w : World), wpAny P md ops Q fuel listed a w → wpAnyIn (Fence.wide.inRound l) n P md ops Q fuel listed a w
  | 0, _, _, _, h => h
  | fuel + 1, _, _, _, h => ⟨h.1, fun i hi => Rnd.wpOp hQ hc (wpOp_mono (fun a' w' h' => Rnd.any hQ hc fuel _ a' w' h') (h.2 i hi))⟩
theorem Rnd.region {l n id : Nat} {P : Program} {ops : Array Oper} {Q : Exit → Act → World → Prop} {a : Act} {w : World} (hm : P.follows .mixedOrders = true) (hQ : ¬ LetsOut Q) (hc : ops.toList.all Rnd.calm = true)
    (h : wpAny P .any ops Q ops.size (Array.replicate ops.size false) a { w with drawn := w.drawn + 1 }) : (Code.region id ops true).wpIn (Fence.wide.inRound l) n P Q a w :=
  wpIn_region_any hm (Rnd.any hQ hc _ _ _ _ h)
/-- a region that only reads, in a round -/
theorem Rnd.quiet {l n id : Nat} {P : Program} {Q : Exit → Act → World → Prop} {a : Act} {w : World} {L : List Oper} (hm : P.follows .mixedOrders = true) (hQ : ¬ LetsOut Q) (hc : L.all Rnd.calm = true) (hB : Region.lexB .any L.toArray = true)
    (h : wpQuiet P L.toArray (fun w' => ∃ n, w' = w.drewN n) (fun a' => ∀ w', (∃ n, w' = w.drewN n) → Q .normal a' w') L a) : (Code.region id L.toArray true).wpIn (Fence.wide.inRound l) n P Q a w := by
  refine Rnd.region hm hQ hc ?_
  simp only [Region.lexB, Bool.and_eq_true] at hB
  refine wpAny_of_quiet (C := fun w' => ∃ n, w' = w.drewN n) (Q := fun a' => ∀ w', (∃ n, w' = w.drewN n) → Q .normal a' w') (fun _ w' hw' h => h w' hw') _ _ _ _ ⟨1, rfl⟩ ?_
  have := wpAnyQ_lex (C := fun w' => ∃ n, w' = w.drewN n) (md := .any) hB.1 L.toArray.toList 0 (Array.replicate L.toArray.size false) a (by simp) (by simpa using hB.2) (by simpa using h)
  simpa using this
/-- a region that draws, by what holds of the world all through, in a round -/
theorem Rnd.held {l n id : Nat} {P : Program} {ops : Array Oper} {Q : Exit → Act → World → Prop} {a : Act} {w : World} {S : World → Prop} (hm : P.follows .mixedOrders = true) (hQ : ¬ LetsOut Q) (hc : ops.toList.all Rnd.calm = true) (hS : S w.drew)
    (h : S w.drew → wpAnyH P .any ops Q S ops.size (Array.replicate ops.size false) a w.drew) : (Code.region id ops true).wpIn (Fence.wide.inRound l) n P Q a w :=
  Rnd.region hm hQ hc (wpAny_of_held _ _ _ _ (h hS))
theorem Rnd.take {P : Program} {md : Region.Mode} {ops : Array Oper} {Q : Exit → Act → World → Prop} {S : World → Prop} {i : Nat} {oi : Oper} {v : Value} {fuel : Nat} {listed : Array Bool} {a : Act} {w : World} (hi : ops.toList[i]? = some oi)
    (hs : Region.noSelect ops = true) (hf : Region.free md ops listed i = true) (hr : (Region.ready md ops listed).contains i = true)
    (hQ : ∀ c a w, Q (.panic c) (a.put oi.dst v) w → Q (.panic c) a w) (hy : YieldsIf P ops S oi v a) (hS : S w)
    (h : wpAnyH P md ops Q S fuel (listed.setIfInBounds i true) (a.put oi.dst v) w) : wpAnyH P md ops Q S (fuel + 1) listed a w :=
  wpAnyH_take (by simpa using hi) hs hf hr hQ hy hS h
/-- the law by an invariant, in a round -/
theorem Rnd.inv {l n id : Nat} {P : Program} {ops : Array Oper} {Q : Exit → Act → World → Prop} {a : Act} {w : World} (hm : P.follows .mixedOrders = true) (hQ : ¬ LetsOut Q) (hc : ops.toList.all Rnd.calm = true) (hord : Reg.ordered 0 ops.toList = true)
    (I : Act → (Nat → Bool) → Act → World → Prop) (h0 : I a (fun _ => false) a w.drew) (hs : Reg.Steps P ops Q (I a) 0 ops.toList)
    (he : ∀ a' w', I a (fun j => decide (j < ops.size)) a' w' → Q .normal a' w') : (Code.region id ops true).wpIn (Fence.wide.inRound l) n P Q a w := by
  refine Rnd.region hm hQ hc (Reg.run hord hs he ops.size _ a _ (by simp) ?_ ?_)
  · unfold Reg.left
    have := List.countP_le_length (l := List.range ops.size) (p := fun j => !(Array.replicate ops.size false).getD j false)
    simpa using this
  · have e : (fun j => (Array.replicate ops.size false).getD j false) = fun _ => false := by
      funext j
      by_cases hj : j < ops.size
      · simp [hj]
      · simp [hj]
    rw [e]
    exact h0

/-- a round's frame: the loop's own, the parameters, the loop's variable in a block of its own -/
def Rng.fr (a : Act) (ps : Array Tmp) (enc : Array Value) (s : Tmp) (bp : Nat) : Act := Act.put { tmps := (ps.zip enc).foldl (fun t (p, v) => t.setIfInBounds p v) a.tmps, defers := [] } (some s) (.pointer (some ⟨bp, 0, none⟩))
theorem Rng.law2 {F : Fence} {n : Nat} {P : Program} {α : Type} {g : Operand} {ps : Array Tmp} {assign body : Code} {Q : Exit → Act → World → Prop} {a : Act} {w : World}
    (hro : F.round = none) (h1 : 1 ≤ n) {gf : Nat} {lb : Array Value} (hg : a.eval g = .func (.func gf) #[] lb) (hFg : F.fn gf) (eg : ∀ args w, (callFunc gf args).run P w = .ok (.enter gf args) w)
    {encs : α → Array Value} {boxes : Nat → Prop} {Tb : TypeId} {Kp : World → World → Prop} {Px : List α → α → Prop} {S : List α → Prop} {w0 : World} (hseq : Rng.Gives F (n - 1) P gf lb encs boxes Tb Kp Px S w0) (hbx : ∀ r, boxes r → r < w.heap.size)
    (hKt : ∀ {A B C : World}, Kp A B → Kp B C → Kp A C) (hKb : ∀ (W : World) (l : Nat) (o o' : Obj), W.heap[l]? = some o → o.isCells = false → Kp W (W.putObj l o')) (hb0 : Below w0.heap.size w0 w) (hps : ∀ x, (encs x).size = ps.size)
    (I : List α → World → Prop) (hI : OwnFrom w.heap.size I) (hIb : ∀ s A B row, I s A → A.grownBy B row → (∀ r, row = some r → boxes r ∧ ∃ cur, B.heap[r]? = some (.cells cur Tb)) → I s B) (h0 : I [] w)
    (s : Tmp) (cells : α → Array Value) (T : TypeId)
    (hassign : ∀ (l : Nat) (pre : List α) (x : α) (W : World) (K : Act → World → Prop), Px pre x → I pre W → (∀ bp W', KeepsFrom w.heap.size W W' → Kp W W' → I pre W' → W'.heap[bp]? = some (.cells (cells x) T) → K (Rng.fr a ps (encs x) s bp) W') →
      assign.wpIn (F.inRound l) (n - 1 - 1) P (Exit.then K (fun _ _ _ => False)) { tmps := (ps.zip (encs x)).foldl (fun t (p, v) => t.setIfInBounds p v) a.tmps, defers := [] } W)
    (hbody : ∀ (l : Nat) (pre : List α) (x : α) (bp : Nat) (W : World), Px pre x → I pre W → W.heap[bp]? = some (.cells (cells x) T) → body.wpIn (F.inRound l) (n - 1 - 1) P (ownPostG w.heap.size Kp I (fun _ _ _ => False) (pre ++ [x]) W) (Rng.fr a ps (encs x) s bp) W)
    (hdone : ∀ (D : Nat) (xs : List α) (W : World), w.heap.size ≤ D → S xs → I xs W → W.heap[D]? = some (.deferred (some [])) → Q .normal { a with defers := { target := .collected D, args := #[] } :: a.defers } W) :
    (Code.rangeFunc g ps assign body).wpIn F n P Q a w := by
  refine Rng.law hro h1 hg hFg eg hseq hbx hKt hKb hb0 hps I hI hIb h0 (fun x a' W => ∃ bp, a' = Rng.fr a ps (encs x) s bp ∧ W.heap[bp]? = some (.cells (cells x) T)) ?_ ?_ ?_ hdone
  · intro l pre x W K hpx hi hK
    exact hassign l pre x W K hpx hi (fun bp W' h1 h2 h3 h4 => hK _ _ h1 h2 h3 ⟨bp, rfl, h4⟩)
  · rintro l pre x a' W hpx hi ⟨bp, rfl, hb⟩
    exact hbody l pre x bp W hpx hi hb
  · rintro x a' _ A B row ⟨bp, rfl, hb⟩ hg hr
    refine ⟨bp, rfl, (hg.block bp (Array.getElem?_eq_some_iff.1 hb).1 (fun e => ?_)).trans hb⟩
    obtain ⟨_, o, ho, hc⟩ := hr bp e.symm
    rw [hb] at ho
    simp only [Option.some.injEq] at ho
    subst ho
    cases hc
end Go.Proofs.Ytpnpgjjbincigaa
