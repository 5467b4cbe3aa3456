/- A region that draws its order, by an invariant: each operation is stepped once, whatever has come up before it. -/
import Derived.Orders
import Derived.WalkKit
namespace Go.Proofs.YtmmijebekipdeaaDoor
open Go.RowKit

/-- what an operation waits for -/
def Reg.deps (o : Oper) : List Nat := (o.after.toList.filter fun e => Region.binds .any e).map fun e => e.on
/-- each operation waits for earlier ones alone -/
def Reg.ordered : Nat → List Oper → Bool
  | _, [] => true
  | i, o :: r => (Reg.deps o).all (fun j => decide (j < i)) && Reg.ordered (i + 1) r
def Reg.Step (P : Program) (ops : Array Oper) (Q : Exit → Act → World → Prop) (J : (Nat → Bool) → Act → World → Prop) (i : Nat) (o : Oper) : Prop :=
  ∀ (d : Nat → Bool) (a : Act) (w : World), d i = false → (∀ j ∈ Reg.deps o, d j = true) → J d a w → ∀ K : Act → World → Prop, (∀ a' w', J (fun j => d j || j == i) a' w' → K a' w') →
    if Region.wanted o (yielded ops a.tmps) = true then Oper.wp P o a w K Q else K (a.put o.dst undef) w
def Reg.Steps (P : Program) (ops : Array Oper) (Q : Exit → Act → World → Prop) (J : (Nat → Bool) → Act → World → Prop) : Nat → List Oper → Prop
  | _, [] => True
  | i, o :: r => Reg.Step P ops Q J i o ∧ Reg.Steps P ops Q J (i + 1) r

theorem Reg.steps_get {P : Program} {ops : Array Oper} {Q : Exit → Act → World → Prop} {J : (Nat → Bool) → Act → World → Prop} : ∀ (l : List Oper) (i : Nat), Reg.Steps P ops Q J i l → ∀ k o, l[k]? = some o → Reg.Step P ops Q J (i + k) o
  | [], _, _, k, o, h => by simp at h
  | x :: l, i, hs, 0, o, h => by
    simp at h
    subst h
    exact hs.1
  | x :: l, i, hs, k + 1, o, h => by
    have := Reg.steps_get l (i + 1) hs.2 k o (by simpa using h)
    rw [show i + (k + 1) = i + 1 + k by omega]
    exact this
theorem Reg.ordered_get : ∀ (l : List Oper) (i : Nat), Reg.ordered i l = true → ∀ k o, l[k]? = some o → ∀ j ∈ Reg.deps o, j < i + k
  | [], _, _, k, o, h => by simp at h
  | x :: l, i, hs, 0, o, h => by
    simp at h
    subst h
    unfold Reg.ordered at hs
    rw [Bool.and_eq_true, List.all_eq_true] at hs
    intro j hj
    have := hs.1 j hj
    simpa using this
  | x :: l, i, hs, k + 1, o, h => by
    unfold Reg.ordered at hs
    rw [Bool.and_eq_true] at hs
    intro j hj
    have := Reg.ordered_get l (i + 1) hs.2 k o (by simpa using h) j hj
    omega
theorem Reg.mem_deps {o : Oper} {listed : Array Bool} (h : ∀ e ∈ o.after, Region.binds .any e = true → listed.getD e.on false = true) : ∀ j ∈ Reg.deps o, listed.getD j false = true := by
  intro j hj
  unfold Reg.deps at hj
  rw [List.mem_map] at hj
  obtain ⟨e, he, rfl⟩ := hj
  rw [List.mem_filter] at he
  exact h e (by simpa using he.1) he.2
theorem Reg.of_deps {o : Oper} {listed : Array Bool} (h : ∀ j ∈ Reg.deps o, listed.getD j false = true) : ∀ e ∈ o.after, Region.binds .any e = true → listed.getD e.on false = true := by
  intro e he hb
  refine h _ ?_
  unfold Reg.deps
  rw [List.mem_map]
  exact ⟨e, List.mem_filter.2 ⟨by simpa using he, hb⟩, rfl⟩
theorem Reg.getD_true {listed : Array Bool} {j : Nat} (h : j < listed.size) : listed.getD j true = listed.getD j false := by
  simp [h]
theorem Reg.all_of_ready {ops : Array Oper} {listed : Array Bool} (hsz : listed.size = ops.size) (hord : Reg.ordered 0 ops.toList = true) (hr : Region.ready .any ops listed = []) :
    ∀ j, j < ops.size → listed.getD j false = true := by
  intro j
  induction j using Nat.strongRecOn with
  | _ j ih =>
    intro hj
    cases hd : listed.getD j false with
    | true => rfl
    | false =>
      have hm : j ∈ Region.ready .any ops listed := by
        rw [mem_ready]
        refine ⟨by rw [Reg.getD_true (by omega)]; exact hd, ops[j], by simp [hj], ?_⟩
        refine Reg.of_deps fun k hk => ?_
        have := Reg.ordered_get ops.toList 0 hord j ops[j] (by simp [hj]) k hk
        exact ih k (by omega) (by omega)
      rw [hr] at hm
      cases hm
def Reg.left (n : Nat) (listed : Array Bool) : Nat := (List.range n).countP fun j => !listed.getD j false
theorem Reg.left_set {n i : Nat} {listed : Array Bool} (hsz : listed.size = n) (hi : i < n) (hd : listed.getD i false = false) : Reg.left n (listed.setIfInBounds i true) + 1 ≤ Reg.left n listed := by
  unfold Reg.left
  have h1 : (List.range n).countP (fun j => !listed.getD j false) = (List.range n).countP (fun j => !(listed.setIfInBounds i true).getD j false) + (List.range n).countP (fun j => j == i) := by
    have : ∀ l : List Nat, l.countP (fun j => !listed.getD j false) = l.countP (fun j => !(listed.setIfInBounds i true).getD j false) + l.countP (fun j => j == i) := by
      intro l
      induction l with
      | nil => rfl
      | cons x l ih =>
        rw [List.countP_cons, List.countP_cons, List.countP_cons, ih]
        by_cases hx : x = i
        · subst hx
          have e1 : (listed.setIfInBounds x true).getD x false = true := by simp [hsz, hi]
          rw [e1, hd]
          simp
          omega
        · have e1 : (listed.setIfInBounds i true).getD x false = listed.getD x false := getD_set_ne false (Ne.symm hx)
          rw [e1]
          have e2 : (x == i) = false := by simpa using hx
          rw [e2]
          simp
          omega
    exact this _
  have h2 : 0 < (List.range n).countP (fun j => j == i) := List.countP_pos_iff.2 ⟨i, List.mem_range.2 hi, by simp⟩
  omega
theorem Reg.run {P : Program} {ops : Array Oper} {Q : Exit → Act → World → Prop} {J : (Nat → Bool) → Act → World → Prop} (hord : Reg.ordered 0 ops.toList = true) (hs : Reg.Steps P ops Q J 0 ops.toList)
    (he : ∀ a w, J (fun j => decide (j < ops.size)) a w → Q .normal a w) :
    ∀ (fuel : Nat) (listed : Array Bool) (a : Act) (w : World), listed.size = ops.size → Reg.left ops.size listed ≤ fuel → J (fun j => listed.getD j false) a w → wpAny P .any ops Q fuel listed a w := by
  have hend : ∀ (listed : Array Bool) (a : Act) (w : World), listed.size = ops.size → (∀ j, j < ops.size → listed.getD j false = true) → J (fun j => listed.getD j false) a w → Q .normal a w := by
    intro listed a w hsz hall hJ
    refine he a w ?_
    have e : (fun j => listed.getD j false) = fun j => decide (j < ops.size) := by
      funext j
      by_cases hj : j < ops.size
      · rw [hall j hj, decide_eq_true hj]
      · rw [decide_eq_false hj]
        simp [Array.getElem?_eq_none (show listed.size ≤ j by omega)]
    rw [e] at hJ
    exact hJ
  intro fuel
  induction fuel with
  | zero =>
    intro listed a w hsz hl hJ
    have hall : ∀ j, j < ops.size → listed.getD j false = true := by
      intro j hj
      have h0 : (List.range ops.size).countP (fun j => !listed.getD j false) = 0 := by unfold Reg.left at hl; omega
      rw [List.countP_eq_zero] at h0
      have := h0 j (List.mem_range.2 hj)
      simpa using this
    refine ⟨?_, hend listed a w hsz hall hJ⟩
    rw [List.eq_nil_iff_forall_not_mem]
    intro i hi
    obtain ⟨h1, o, ho, _⟩ := mem_ready.1 hi
    have hlt : i < ops.size := (Array.getElem?_eq_some_iff.1 ho).1
    rw [Reg.getD_true (by omega), hall i hlt] at h1
    cases h1
  | succ fuel ih =>
    intro listed a w hsz hl hJ
    refine ⟨fun hr => hend listed a w hsz (Reg.all_of_ready hsz hord hr) hJ, fun i hi => ?_⟩
    obtain ⟨h1, o, ho, hdep⟩ := mem_ready.1 hi
    have hlt : i < ops.size := (Array.getElem?_eq_some_iff.1 ho).1
    rw [Reg.getD_true (by omega)] at h1
    have hst := Reg.steps_get ops.toList 0 hs i o (by simpa using ho)
    rw [Nat.zero_add] at hst
    have hk := hst (fun j => listed.getD j false) a w h1 (Reg.mem_deps hdep) hJ (wpAny P .any ops Q fuel (listed.setIfInBounds i true)) (fun a' w' hJ' => by
      refine ih _ a' w' (by simp [hsz]) ?_ ?_
      · have := Reg.left_set hsz hlt h1
        omega
      · have e : (fun j => (listed.setIfInBounds i true).getD j false) = fun j => listed.getD j false || j == i := by
          funext j
          by_cases hj : j = i
          · subst hj
            simp [hsz, hlt]
          · rw [getD_set_ne false (Ne.symm hj)]
            have e2 : (j == i) = false := by simpa using hj
            rw [e2, Bool.or_false]
        rw [e]
        exact hJ')
    unfold wpOp
    simp only [ho]
    split
    · rename_i hw
      rw [if_pos hw] at hk
      exact .inl hk
    · rename_i hw
      rw [if_neg hw] at hk
      exact hk
/-- THE LAW: a region that draws, by an invariant that says of each operation what it leaves once it has come up. -/
theorem wp_region_inv {P : Program} {id : Nat} {ops : Array Oper} {Q : Exit → Act → World → Prop} {a : Act} {w : World} (hm : P.follows .mixedOrders = true) (hord : Reg.ordered 0 ops.toList = true)
    (I : Act → (Nat → Bool) → Act → World → Prop) (h0 : I a (fun _ => false) a w.drew) (hs : Reg.Steps P ops Q (I a) 0 ops.toList)
    (he : ∀ a' w', I a (fun j => decide (j < ops.size)) a' w' → Q .normal a' w') : (Code.region id ops true).wp P Q a w := by
  refine wp_region_any hm (Reg.run hord hs he ops.size _ a _ (by simp) ?_ ?_)
  · unfold Reg.left
    have := List.countP_le_length (l := List.range ops.size) (p := fun j => !(Array.replicate ops.size false).getD j false)
    simpa using this
  · have e : (fun j => (Array.replicate ops.size false).getD j false) = fun _ => false := by
      funext j
      by_cases hj : j < ops.size
      · simp [hj]
      · simp [hj]
    rw [e]
    exact h0
end Go.Proofs.YtmmijebekipdeaaDoor
