/- A group of operations of a region that draws its order, among which any order is open: by an invariant, each operation stepped once; before and behind the group the region is driven by hand. A region taken out of a function's code by its number. Small words for closed statements on labels: sizes of strings, labels of strings written out, in whatever order they come up. -/
import Derived.Test.YtbilaghljlobpaaGreatReg
import Derived.Deep.RegionHeld3
import Derived.Test.YtbilaghljlobpaaGreatProg
import Derived.Test.YtbilaghljlobpaaGreatLCh
namespace Go.Proofs.YtbilaghljlobpaaGreat
open Go.RowKit

def Grp.set (L : Array Bool) : List Nat → Array Bool
  | [] => L
  | i :: r => (Grp.set L r).setIfInBounds i true
theorem Grp.set_size (L : Array Bool) (G : List Nat) : (Grp.set L G).size = L.size := by
  induction G with
  | nil => rfl
  | cons i r ih => unfold Grp.set; rw [Array.size_setIfInBounds, ih]
theorem Grp.set_get (L : Array Bool) (G : List Nat) (j : Nat) : (Grp.set L G)[j]? = if j ∈ G ∧ j < L.size then some true else L[j]? := by
  induction G with
  | nil => simp [Grp.set]
  | cons i r ih =>
    unfold Grp.set
    rw [Array.getElem?_setIfInBounds, Grp.set_size, ih]
    by_cases e : i = j
    · subst e
      by_cases h : i < L.size
      · rw [if_pos rfl, if_pos h, if_pos ⟨by simp, h⟩]
      · rw [if_pos rfl, if_neg h, if_neg (fun q => h q.2), Array.getElem?_eq_none (by omega)]
    · rw [if_neg e]
      by_cases h : j ∈ r ∧ j < L.size
      · rw [if_pos h, if_pos ⟨by simp [h.1], h.2⟩]
      · rw [if_neg h, if_neg]
        rintro ⟨q1, q2⟩
        rcases List.mem_cons.1 q1 with q | q
        · exact e q.symm
        · exact h ⟨q, q2⟩
theorem Grp.set_congr (L : Array Bool) (G H : List Nat) (h : ∀ j, j ∈ G ↔ j ∈ H) : Grp.set L G = Grp.set L H := by
  apply Array.ext_getElem?
  intro j
  rw [Grp.set_get, Grp.set_get]
  simp only [h]
def Grp.subs : List Nat → List (List Nat)
  | [] => [[]]
  | i :: r => Grp.subs r ++ (Grp.subs r).map (i :: ·)
theorem Grp.filter_subs (p : Nat → Bool) : ∀ G : List Nat, G.filter p ∈ Grp.subs G
  | [] => by simp [Grp.subs]
  | i :: r => by
    have ih := Grp.filter_subs p r
    unfold Grp.subs
    rw [List.filter_cons, List.mem_append]
    by_cases h : p i = true
    · rw [if_pos h]; exact .inr (List.mem_map.2 ⟨_, ih, rfl⟩)
    · rw [if_neg h]; exact .inl ih
/-- whichever of G have come up: the next ones are of G, till all have -/
def Grp.closed (ops : Array Oper) (G s : List Nat) : Bool :=
  s.all fun i => match ops.toList[i]? with
    | some o => (Reg.deps o).all fun j => !G.contains j || s.contains j
    | none => true
def Grp.ok (ops : Array Oper) (L : Array Bool) (G : List Nat) : Bool :=
  G.all (fun i => !L.getD i true) && decide G.Nodup && (Grp.subs G).all fun s => decide (s.length = G.length) || !Grp.closed ops G s || (match Region.ready .any ops (Grp.set L s) with | [] => false | r => r.all fun i => G.contains i)
def Grp.Step (P : Program) (ops : Array Oper) (Q : Exit → Act → World → Prop) (S : World → Prop) (J : (Nat → Bool) → Act → World → Prop) (G : List Nat) (i : Nat) (o : Oper) : Prop :=
  ∀ (d : Nat → Bool) (a : Act) (w : World), d i = false → (∀ j, j ∈ G → j ∈ Reg.deps o → d j = true) → J d a w → S w → ∀ K : Act → World → Prop, (∀ a' w', J (fun j => d j || j == i) a' w' → S w' → K a' w') →
    if Region.wanted o (yielded ops a.tmps) = true then Oper.wp P o a w K Q else K (a.put o.dst undef) w
def Grp.Steps (P : Program) (ops : Array Oper) (Q : Exit → Act → World → Prop) (S : World → Prop) (J : (Nat → Bool) → Act → World → Prop) (G : List Nat) : List Nat → Prop
  | [] => True
  | i :: r => (∃ o, ops.toList[i]? = some o ∧ Grp.Step P ops Q S J G i o) ∧ Grp.Steps P ops Q S J G r
theorem Grp.steps_get {P : Program} {ops : Array Oper} {Q : Exit → Act → World → Prop} {S : World → Prop} {J : (Nat → Bool) → Act → World → Prop} {G : List Nat} : ∀ (H : List Nat), Grp.Steps P ops Q S J G H → ∀ i ∈ H, ∃ o, ops.toList[i]? = some o ∧ Grp.Step P ops Q S J G i o
  | [], _, _, h => by cases h
  | x :: r, hs, i, h => by
    rcases List.mem_cons.1 h with rfl | h
    · exact hs.1
    · exact Grp.steps_get r hs.2 i h
theorem Grp.sub_len {D : List Nat} : ∀ {G : List Nat}, D.Nodup → (∀ i ∈ D, i ∈ G) → D.length ≤ G.length := by
  induction D with
  | nil => intro G _ _; exact Nat.zero_le _
  | cons i r ih =>
    intro G hD hsub
    obtain ⟨h1, h2⟩ := List.nodup_cons.1 hD
    have hi := hsub i (by simp)
    have := ih (G := G.erase i) h2 (fun x hx => (List.mem_erase_of_ne (fun e => h1 (by rw [← e]; exact hx))).2 (hsub x (by simp [hx])))
    rw [List.length_erase_of_mem hi] at this
    have hp : 0 < G.length := List.length_pos_of_mem hi
    rw [List.length_cons]
    omega
theorem Grp.perm_full {G D : List Nat} (hD : D.Nodup) (hsub : ∀ i ∈ D, i ∈ G) (hl : D.length = G.length) : ∀ j, j ∈ D ↔ j ∈ G := by
  intro j
  refine ⟨hsub j, fun hj => ?_⟩
  by_cases h : j ∈ D
  · exact h
  · have := Grp.sub_len (D := j :: D) (G := G) (List.nodup_cons.2 ⟨h, hD⟩) (fun i hi => by
      rcases List.mem_cons.1 hi with rfl | hi
      · exact hj
      · exact hsub i hi)
    rw [List.length_cons] at this
    omega
theorem Grp.run {P : Program} {ops : Array Oper} {Q : Exit → Act → World → Prop} {S : World → Prop} {J : (Nat → Bool) → Act → World → Prop} {L : Array Bool} {G : List Nat} {fuel : Nat} (hok : Grp.ok ops L G = true) (hs : Grp.Steps P ops Q S J G G)
    (hend : ∀ a w, J (fun j => G.contains j) a w → S w → wpAnyH P .any ops Q S fuel (Grp.set L G) a w) :
    ∀ (n : Nat) (D : List Nat) (a : Act) (w : World), D.Nodup → (∀ i ∈ D, i ∈ G) → (∀ i ∈ D, ∀ o, ops.toList[i]? = some o → ∀ j ∈ Reg.deps o, j ∈ G → j ∈ D) → D.length + n = G.length → J (fun j => D.contains j) a w → S w → wpAnyH P .any ops Q S (fuel + n) (Grp.set L D) a w := by
  unfold Grp.ok at hok
  rw [Bool.and_eq_true, Bool.and_eq_true, decide_eq_true_eq, List.all_eq_true, List.all_eq_true] at hok
  obtain ⟨⟨hfree, hnd⟩, hsubs⟩ := hok
  intro n
  induction n with
  | zero =>
    intro D a w hD hsub hcl hl hJ hS
    have hp := Grp.perm_full hD hsub (by omega)
    have e1 := Grp.set_congr L D G hp
    have e2 : (fun j => D.contains j) = fun j => G.contains j := by
      funext j
      have h1 : ∀ X : List Nat, X.contains j = decide (j ∈ X) := fun X => by simp
      rw [h1, h1]
      simp only [hp j]
    rw [e1]
    rw [e2] at hJ
    exact hend a w hJ hS
  | succ n ih =>
    intro D a w hD hsub hcl hl hJ hS
    have hset : Grp.set L (G.filter fun j => D.contains j) = Grp.set L D := Grp.set_congr L _ D fun j => by
      rw [List.mem_filter]
      constructor
      · intro h; simpa using h.2
      · intro h; exact ⟨hsub j h, by simpa using h⟩
    have hlen : (G.filter fun j => D.contains j).length ≠ G.length := by
      intro e
      have hall : ∀ j ∈ G, D.contains j = true := by
        rw [List.length_filter_eq_length_iff] at e
        exact e
      have hle : G.length ≤ D.length := Grp.sub_len hnd (fun j hj => by simpa using hall j hj)
      omega
    have hx := hsubs _ (Grp.filter_subs (fun j => D.contains j) G)
    rw [Bool.or_eq_true, Bool.or_eq_true, decide_eq_true_eq] at hx
    have hclo : Grp.closed ops G (G.filter fun j => D.contains j) = true := by
      unfold Grp.closed
      rw [List.all_eq_true]
      intro i hi
      rw [List.mem_filter] at hi
      have hiD : i ∈ D := by simpa using hi.2
      cases ho : ops.toList[i]? with
      | none => rfl
      | some o =>
        show (Reg.deps o).all _ = true
        rw [List.all_eq_true]
        intro j hj
        rw [Bool.or_eq_true]
        by_cases hjG : j ∈ G
        · have := hcl i hiD o ho j hj hjG
          right
          simp only [List.contains_eq_mem, List.mem_filter, decide_eq_true_eq]
          exact ⟨hjG, by simpa using this⟩
        · left
          simpa using hjG
    have hr := hx.resolve_left (fun q => q.elim hlen (fun q => by rw [hclo] at q; cases q))
    rw [hset] at hr
    rw [show fuel + (n + 1) = fuel + n + 1 by omega]
    have key : Region.ready .any ops (Grp.set L D) ≠ [] ∧ ∀ i ∈ Region.ready .any ops (Grp.set L D), i ∈ G := by
      cases hrr : Region.ready .any ops (Grp.set L D) with
      | nil => rw [hrr] at hr; simp at hr
      | cons x y =>
        rw [hrr] at hr
        refine ⟨by simp, fun i hi => ?_⟩
        have := (List.all_eq_true.1 hr) i hi
        simpa using this
    refine wpAnyH_all rfl key.1 fun i hi => ?_
    have hiG := key.2 i hi
    obtain ⟨h1, o, ho, hdep⟩ := mem_ready.1 hi
    have hfi := hfree i hiG
    have hiD : i ∉ D := fun hm => by
      have hlt : i < L.size := by
        rcases Nat.lt_or_ge i L.size with q | q
        · exact q
        · rw [Array.getD_eq_getD_getElem?, Array.getElem?_eq_none q] at hfi
          simp at hfi
      rw [Array.getD_eq_getD_getElem?, Grp.set_get, if_pos ⟨hm, hlt⟩] at h1
      simp at h1
    obtain ⟨o', ho', hst⟩ := Grp.steps_get G hs i hiG
    have : o' = o := by
      have h2 : ops.toList[i]? = some o := by simpa using ho
      rw [h2] at ho'
      exact (Option.some.inj ho').symm
    subst this
    have hdp : ∀ j, j ∈ G → j ∈ Reg.deps o' → D.contains j = true := (fun j hjG hj => by
      have q := Reg.mem_deps hdep j hj
      have hfj := hfree j hjG
      rw [Array.getD_eq_getD_getElem?, Grp.set_get] at q
      by_cases hc : j ∈ D ∧ j < L.size
      · simpa using hc.1
      · rw [if_neg hc] at q
        rw [Array.getD_eq_getD_getElem?] at hfj
        cases hLj : L[j]? with
        | none => rw [hLj] at q; simp at q
        | some b => rw [hLj] at q hfj; simp at q hfj; rw [q] at hfj; cases hfj)
    have hk := hst (fun j => D.contains j) a w (by simpa using hiD) hdp hJ hS (fun a' w' => S w' ∧ wpAnyH P .any ops Q S (fuel + n) ((Grp.set L D).setIfInBounds i true) a' w') (fun a' w' hJ' hS' => ⟨hS', by
      refine ih (i :: D) a' w' (List.nodup_cons.2 ⟨hiD, hD⟩) (fun j hj => ?_) ?_ (by simp only [List.length_cons]; omega) ?_ hS'
      · rcases List.mem_cons.1 hj with rfl | hj
        · exact hiG
        · exact hsub j hj
      · intro x hx o2 ho2 j hj hjG
        rcases List.mem_cons.1 hx with rfl | hx
        · rw [ho'] at ho2
          obtain rfl := Option.some.inj ho2
          exact List.mem_cons_of_mem _ (by simpa using hdp j hjG hj)
        · exact List.mem_cons_of_mem _ (hcl x hx o2 ho2 j hj hjG)
      · have e : (fun j => (i :: D).contains j) = fun j => D.contains j || j == i := by
          funext j
          rw [List.contains_cons, Bool.or_comm]
        rw [e]
        exact hJ'⟩)
    unfold wpOp
    simp only [ho]
    split
    · rename_i hw
      rw [if_pos hw] at hk
      exact .inl hk
    · rename_i hw
      rw [if_neg hw] at hk
      exact hk
/-- THE LAW: from here on the operations G come up, in whatever order; then it goes on from one place. -/
theorem Grp.law {P : Program} {ops : Array Oper} {Q : Exit → Act → World → Prop} {S : World → Prop} {L : Array Bool} (G : List Nat) (N fuel : Nat) (hn : N = fuel + G.length) {a : Act} {w : World} (I : Act → (Nat → Bool) → Act → World → Prop) (hok : Grp.ok ops L G = true)
    (hS : S w) (h0 : I a (fun _ => false) a w) (hs : Grp.Steps P ops Q S (I a) G G) (hend : ∀ a' w', I a (fun j => G.contains j) a' w' → S w' → wpAnyH P .any ops Q S fuel (Grp.set L G) a' w') : wpAnyH P .any ops Q S N L a w := by
  subst hn
  exact Grp.run hok hs hend G.length [] a w List.nodup_nil (fun i hi => by cases hi) (fun i hi => by cases hi) (by simp) h0 hS

def Grp.puts (a : Act) : List Nat → List Value → Act
  | k :: ks, t :: ts => Grp.puts (a.put (some k) t) ks ts
  | _, _ => a
theorem Grp.put_self (a : Act) (k : Nat) : a.put (some k) (a.tmps.getD k undef) = a := by
  have : a.tmps.setIfInBounds k (a.tmps.getD k undef) = a.tmps := by
    apply Array.ext_getElem?
    intro j
    rw [Array.getElem?_setIfInBounds]
    split
    · rename_i e
      subst e
      split
      · rename_i h
        simp [h]
      · rename_i h
        rw [Array.getElem?_eq_none (by omega)]
    · rfl
  show ({ a with tmps := a.tmps.setIfInBounds k (a.tmps.getD k undef) } : Act) = a
  rw [this]
theorem Grp.puts_self (a : Act) : ∀ ks : List Nat, Grp.puts a ks (ks.map fun k => a.tmps.getD k undef) = a
  | [] => rfl
  | k :: ks => by
    show Grp.puts (a.put (some k) (a.tmps.getD k undef)) ks (ks.map fun k => a.tmps.getD k undef) = a
    rw [Grp.put_self]
    exact Grp.puts_self a ks
/-- facts on what stands where, once it has come up -/
def Grp.I (B : Nat) (W : World) (F : List (Nat × (Value → World → Prop))) (d : Nat → Bool) (ts : List Value) (w : World) : Prop :=
  Below B W w ∧ ∀ (k i : Nat) f t, F[k]? = some (i, f) → ts[k]? = some t → d i = true → f t w
def Grp.Up (f : Value → World → Prop) : Prop := ∀ t w w2, Below w.heap.size w w2 → f t w → f t w2
theorem Grp.I.start {B : Nat} {W : World} {F : List (Nat × (Value → World → Prop))} {ts : List Value} {w : World} (hb : Below B W w) : Grp.I B W F (fun _ => false) ts w := ⟨hb, fun _ _ _ _ _ _ h => by cases h⟩
theorem Grp.I.get {B : Nat} {W : World} {F : List (Nat × (Value → World → Prop))} {d : Nat → Bool} {ts : List Value} {w : World} (h : Grp.I B W F d ts w) (k : Nat) {i : Nat} {f : Value → World → Prop} {t : Value} (h1 : F[k]? = some (i, f)) (h2 : ts[k]? = some t) (h3 : d i = true) : f t w := h.2 k i f t h1 h2 h3
theorem Grp.I.next {B : Nat} {W : World} {F : List (Nat × (Value → World → Prop))} {d : Nat → Bool} {ts : List Value} {w w2 : World} (h : Grp.I B W F d ts w) (hup : ∀ x ∈ F, Grp.Up x.2) (G : List Nat) (hG : F.map (·.1) = G) (hnd' : G.Nodup) (hb : Below w.heap.size w w2) (hB : B ≤ w.heap.size) (k : Nat) {i : Nat} {f : Value → World → Prop} (hk : F[k]? = some (i, f)) (n : Value) (hn : f n w2) :
    Grp.I B W F (fun j => d j || j == i) (ts.set k n) w2 := by
  have hnd : (F.map (·.1)).Nodup := by rw [hG]; exact hnd'
  refine ⟨h.1.trans (hb.mono hB), fun k' i' f' t h1 h2 h3 => ?_⟩
  by_cases e : k' = k
  · subst e
    rw [hk] at h1
    simp only [Option.some.injEq, Prod.mk.injEq] at h1
    obtain ⟨rfl, rfl⟩ := h1
    rw [List.getElem?_set] at h2
    rw [if_pos rfl] at h2
    split at h2
    · simp only [Option.some.injEq] at h2; subst h2; exact hn
    · cases h2
  · rw [List.getElem?_set_ne (fun q => e q.symm)] at h2
    have hne : i' ≠ i := by
      intro q
      subst q
      have g1 : (F.map (·.1))[k']? = some i' := by rw [List.getElem?_map, h1]; rfl
      have g2 : (F.map (·.1))[k]? = some i' := by rw [List.getElem?_map, hk]; rfl
      have l1 := (List.getElem?_eq_some_iff.1 g1).1
      have l2 := (List.getElem?_eq_some_iff.1 g2).1
      have := (List.getElem_inj hnd (h₀ := l1) (h₁ := l2)).1 (by rw [(List.getElem?_eq_some_iff.1 g1).2, (List.getElem?_eq_some_iff.1 g2).2])
      exact e this
    have h3' : d i' = true := by
      have : (i' == i) = false := by simpa using hne
      have h4 : (d i' || i' == i) = true := h3
      rw [this, Bool.or_false] at h4
      exact h4
    exact hup _ (List.mem_of_getElem? h1) t w w2 hb (h.2 k' i' f' t h1 h2 h3')
end Go.Proofs.YtbilaghljlobpaaGreat
namespace Go.Proofs.YtbilaghljlobpaaGreat
def Cut.reg (n : Nat) : Code → Option Code
  | .region m ops d => if Nat.beq m n then some (.region m ops d) else none
  | .seq a b => match Cut.reg n a with
    | some c => some c
    | none => Cut.reg n b
  | .cond _ a b => match Cut.reg n a with
    | some c => some c
    | none => Cut.reg n b
  | .block _ c => Cut.reg n c
  | .loop c => Cut.reg n c
  | .scope c => Cut.reg n c
  | _ => none
end Go.Proofs.YtbilaghljlobpaaGreat
namespace Go.Proofs.YtbilaghljlobpaaGreat
open Go.RowKit

theorem Sm.ble {a b : Nat} (h : Nat.ble a b = true) : a ≤ b := Nat.le_of_ble_eq_true h
theorem Sm.lit {l : List UInt8} : (⟨l.toArray⟩ : ByteArray).size ≤ l.length := Nat.le_of_eq (by show l.toArray.size = _; simp)
theorem Sm.app {a b : ByteArray} {m n : Nat} (h : a.size ≤ m) (k : b.size ≤ n) : (a ++ b).size ≤ m + n := by rw [ByteArray.size_append]; omega
theorem Sm.ext {a : ByteArray} {m i j : Nat} (h : a.size ≤ m) : (a.extract i j).size ≤ m := by rw [ByteArray.size_extract]; omega
theorem Sm.max {a : ByteArray} {n : Nat} (h : a.size ≤ n) (hn : n ≤ 100000) : a.size ≤ maxLen := by unfold maxLen; omega
theorem Sm.fit1 {a b : ByteArray} (h1 : a.size ≤ maxLen) (h2 : b.size ≤ maxLen) : Lab.Fit maxLen [⟨a, b⟩] := fun x hx => by
  simp only [List.mem_cons, List.not_mem_nil, or_false] at hx
  subst hx
  exact ⟨h1, h2⟩
theorem Sm.fit2 {a b c d : ByteArray} (h1 : a.size ≤ maxLen) (h2 : b.size ≤ maxLen) (h3 : c.size ≤ maxLen) (h4 : d.size ≤ maxLen) : Lab.Fit maxLen [⟨a, b⟩, ⟨c, d⟩] := fun x hx => by
  simp only [List.mem_cons, List.not_mem_nil, or_false] at hx
  rcases hx with rfl | rfl
  · exact ⟨h1, h2⟩
  · exact ⟨h3, h4⟩
theorem Sm.fit0 : Lab.Fit maxLen [] := fun x hx => by cases hx
/-- strings written out -/
def Sm.Bs (xs : List ByteArray) (t : Value) (w : World) : Prop := ∃ g, t = .slice (some ⟨g, 0, none⟩) xs.length xs.length ∧ w.heap[g]? = some (.cells (xs.map Value.string).toArray 9)
/-- labels at an address -/
def Sm.Ls (ls : List Lab.L) (t : Value) (w : World) : Prop := ∃ g c, t = .slice (some ⟨g, 0, none⟩) ls.length c ∧ Lab.At (some ⟨g, 0, none⟩) ls w
theorem Sm.bs_up (xs : List ByteArray) : Grp.Up (Sm.Bs xs) := fun _ _ _ hb ⟨g, h1, h2⟩ => ⟨g, h1, below_kept hb h2 (lt_of_heap h2)⟩
theorem Sm.ls_up (ls : List Lab.L) : Grp.Up (Sm.Ls ls) := fun _ _ _ hb ⟨g, c, h1, h2⟩ => ⟨g, c, h1, h2.below hb (Nat.le_refl _)⟩
theorem Sm.bs_new (xs : List ByteArray) (C : Array Value) (hC : C = (xs.map Value.string).toArray) (k : Nat) (hk : xs.length = k) (G : Nat) (w : World) (hG : G = w.heap.size) : Sm.Bs xs (.slice (some ⟨G, 0, none⟩) k k) (w.alloc (.cells C 9)) := by
  subst hG
  subst hC
  subst hk
  exact ⟨w.heap.size, rfl, alloc_new _ _⟩
theorem Sm.bs_at {xs : List ByteArray} {t : Value} {w : World} (h : Sm.Bs xs t w) : ∃ g, t = .slice (some ⟨g, 0, none⟩) xs.length xs.length ∧ Txt.At (some ⟨g, 0, none⟩) xs w := by
  obtain ⟨g, h1, h2⟩ := h
  refine ⟨g, h1, .inr ⟨g, 0, rfl, fun i hi => ?_⟩⟩
  rw [Lib.cell_of_heap h2]
  simp [List.getElem?_eq_getElem hi]
theorem Sm.of_bs {xs : List ByteArray} {t : Value} {w : World} (h : Sm.Bs xs t w) (ls : List Lab.L) (k : Nat) (hk : xs.length = k) (he : k % 2 = 0) (h0 : 0 < k) (h1 : k ≤ 1000) (hls : Can.pairs (xs.map (·.data.toList)) = ls) :
    Calls Tryz.prog 5 #[t] w fun e w' => (∃ u, e = .returned u ∧ Sm.Ls ls u w') ∧ Below w.heap.size w w' := by
  subst hk
  obtain ⟨g, rfl, h2⟩ := h
  have hown : OwnTexts g (.slice (some ⟨g, 0, none⟩) xs.length xs.length) xs w := by
    refine ⟨by simp, .inr ⟨g, xs.length, _, rfl, Nat.le_refl _, h2, Nat.le_refl _, by unfold maxLen; omega, by simp, ?_⟩⟩
    simp only [Nat.mul_one]
    rw [List.take_of_length_le (by simp)]
  refine (of_is g _ xs xs.length ls w hown rfl he h0 h1 hls).mono fun e w' ⟨⟨u, h, hu⟩, hb⟩ => ?_
  have hlen : 0 < ls.length := by rw [← hls, Can.pairs_length, List.length_map]; omega
  obtain ⟨g', c, rfl, _⟩ := OwnLabels.form hu hlen
  obtain ⟨p', c', e', hA, _⟩ := OwnLabels.open hu
  simp only [Value.slice.injEq] at e'
  exact ⟨⟨_, h, g', c, rfl, by rw [e'.1]; exact hA⟩, hb⟩
theorem Sm.of_new (xs : List ByteArray) (C : Array Value) (hC : C = (xs.map Value.string).toArray) (k : Nat) (hk : xs.length = k) (he : k % 2 = 0) (h0 : 0 < k) (h1 : k ≤ 1000) (ls : List Lab.L) (hls : Can.pairs (xs.map (·.data.toList)) = ls) (G : Nat) (W : World) (hG : G = W.heap.size) :
    Calls Tryz.prog 5 #[.slice (some ⟨G, 0, none⟩) k k] (W.alloc (.cells C 9)) fun e w' =>
      (∃ g c, e = .returned (.slice (some ⟨g, 0, none⟩) ls.length c) ∧ Lab.At (some ⟨g, 0, none⟩) ls w') ∧ Below (W.alloc (.cells C 9)).heap.size (W.alloc (.cells C 9)) w' := by
  have hb := Sm.bs_new xs C hC k hk G W hG
  subst hk
  exact (Sm.of_bs hb ls _ rfl he h0 h1 hls).mono fun e w' ⟨⟨u, h, g, c, hu, hA⟩, hb⟩ => ⟨⟨g, c, by rw [h, hu], hA⟩, hb⟩
theorem Sm.of_top (xs : List ByteArray) (C : Array Value) (hC : C = (xs.map Value.string).toArray) (k : Nat) (hk : xs.length = k) (he : k % 2 = 0) (h0 : 0 < k) (h1 : k ≤ 1000) (ls : List Lab.L) (hls : Can.pairs (xs.map (·.data.toList)) = ls) (G : Nat) (W w : World) (hh : W.heap = (w.alloc (.cells C 9)).heap) (hG : G = w.heap.size) :
    Calls Tryz.prog 5 #[.slice (some ⟨G, 0, none⟩) k k] W fun e w' =>
      (∃ g c, e = .returned (.slice (some ⟨g, 0, none⟩) ls.length c) ∧ Lab.At (some ⟨g, 0, none⟩) ls w') ∧ Below W.heap.size W w' := by
  obtain ⟨g, h2, h3⟩ := Sm.bs_new xs C hC k hk G w hG
  have hb : Sm.Bs xs (.slice (some ⟨G, 0, none⟩) k k) W := ⟨g, h2, by rw [hh]; exact h3⟩
  subst hk
  exact (Sm.of_bs hb ls _ rfl he h0 h1 hls).mono fun e w' ⟨⟨u, h, g, c, hu, hA⟩, hb⟩ => ⟨⟨g, c, by rw [h, hu], hA⟩, hb⟩
theorem Sm.of_own (xs : List ByteArray) (C : Array Value) (hC : C = (xs.map Value.string).toArray) (k : Nat) (hk : xs.length = k) (he : k % 2 = 0) (h0 : 0 < k) (h1 : k ≤ 1000) (ls : List Lab.L) (hls : Can.pairs (xs.map (·.data.toList)) = ls) (G : Nat) (W w : World) (hh : W.heap = (w.alloc (.cells C 9)).heap) (hG : G = w.heap.size) :
    Calls Tryz.prog 5 #[.slice (some ⟨G, 0, none⟩) k k] W fun e w' => (∃ u, e = .returned u ∧ OwnLabels w.heap.size u ls w') ∧ Below W.heap.size W w' := by
  subst hG
  subst hC
  have h2 : W.heap[w.heap.size]? = some (.cells (xs.map Value.string).toArray 9) := by rw [hh]; exact alloc_new _ _
  have hz : w.heap.size ≤ W.heap.size := by rw [hh]; show w.heap.size ≤ (w.heap.push _).size; rw [Array.size_push]; omega
  subst hk
  have hown : OwnTexts w.heap.size (.slice (some ⟨w.heap.size, 0, none⟩) xs.length xs.length) xs W := by
    refine ⟨by simp, .inr ⟨w.heap.size, xs.length, _, rfl, Nat.le_refl _, h2, Nat.le_refl _, by unfold maxLen; omega, by simp, ?_⟩⟩
    simp only [Nat.mul_one]
    rw [List.take_of_length_le (by simp)]
  exact (of_is w.heap.size _ xs xs.length ls W hown rfl he h0 h1 hls).mono fun e w' ⟨⟨u, h, hu⟩, hb⟩ => ⟨⟨u, h, row_lift hu hz⟩, hb⟩
theorem Sm.news {ad : Addr} {ls : List Lab.L} {w : World} (h : Lab.At (some ad) ls w) : ∀ j u, (Lab.cells ls)[j]? = some u → w.cell? (ad.add j) = some u := by
  rcases h.cases with ⟨h, _⟩ | ⟨ad', he, hn⟩
  · cases h
  · cases he
    exact hn
theorem Sm.fit_app {a b : List Lab.L} {m : Nat} (h : Lab.Fit m a) (k : Lab.Fit m b) : Lab.Fit m (a ++ b) := fun x hx => (List.mem_append.1 hx).elim (h x) (k x)
theorem Sm.len_cat {a b : List Lab.L} {n : Nat} (h : b.length = n) : (a ++ b).length = a.length + n := by rw [List.length_append, h]
theorem Sm.two_cells (x y : Nat) (hx : x < 256) (hy : y < 256) : (#[.int .u8 (x : Int), .int .u8 (y : Int)] : Array Value).toList = Lib.byteCells [UInt8.ofNat x, UInt8.ofNat y] := by
  simp only [Lib.byteCells, List.map_cons, List.map_nil]
  rw [UInt8.toNat_ofNat', UInt8.toNat_ofNat', Nat.mod_eq_of_lt (by omega), Nat.mod_eq_of_lt (by omega)]
theorem Sm.tells (s : ByteArray) (hs : s.size ≤ maxLen) (p : Option Addr) (ls : List Lab.L) (n c : Nat) (w : World) (hF : Lab.Fit maxLen ls) (hn : ls.length = n) (hA : Lab.At p ls w) (hp : p = none → c = 0) (hl : n ≤ 1000) :
    Calls Tryz.prog 4 #[.string s, .slice p n c] w fun e w' => e = .returned (.bool true) ∧ Below w.heap.size w w' :=
  tells_is s p ls n c w hs hn hA hF hp (by unfold maxLen; omega)
theorem Sm.changes (pa pb pe pt : Option Addr) (a b es : List Lab.L) (xs : List ByteArray) (na ca nb cb ne ce nt ct : Nat) (w : World) (hna : a.length = na) (hnb : b.length = nb) (hne : es.length = ne) (hnt : xs.length = nt)
    (hA : Lab.At pa a w) (hB : Lab.At pb b w) (hE : Lab.At pe es w) (hT : Txt.At pt xs w) (fa : Lab.Fit maxLen a) (fb : Lab.Fit maxLen b) (fe : Lab.Fit maxLen es) (ft : ∀ x ∈ xs, x.size ≤ maxLen)
    (qa : pa = none → ca = 0) (qb : pb = none → cb = 0) (qe : pe = none → ce = 0) (qt : pt = none → ct = 0) (la : na ≤ 1000) (lb : nb ≤ 1000) (lE : ne ≤ 1000) (lt : nt ≤ 1000) :
    Calls Tryz.prog 7 #[.slice pa na ca, .slice pb nb cb, .slice pe ne ce, .slice pt nt ct] w fun e w' => e = .returned (.bool true) ∧ Below w.heap.size w w' :=
  changes_is pa pb pe pt a b es xs na ca nb cb ne ce nt ct w hna hnb hne hnt hA hB hE hT fa fb fe ft qa qb qe qt (by unfold maxLen; omega) (by unfold maxLen; omega) (by unfold maxLen; omega) (by unfold maxLen; omega)
theorem Sm.txt0 (w : World) : Txt.At none [] w := .inl rfl
theorem Sm.lab0 (w : World) : Lab.At none [] w := .inl rfl
/-- 'append(v, labels..)' at a step of a region, whether guarded or not -/
theorem Sm.cat {o : Oper} {a : Act} {K : Act → World → Prop} {Q : Exit → Act → World → Prop} {w : World} (T : TypeId) (hT : Tryz.prog.underlying T = some (.slice 31)) (s x : Operand)
    (ho : o.op = .call { callee := .builtin .append, args := #[s, x], argTypes := #[T, T] })
    (B : Nat) (v : Value) (l : List Lab.L) (hs : a.eval s = v) (hown : OwnLabels B v l w) (r : List Lab.L) (ad : Addr) (n c : Nat) (hx : a.eval x = .slice (some ad) n c) (hn : r.length = n)
    (hnews : ∀ j u, (Lab.cells r)[j]? = some u → w.cell? (ad.add j) = some u) (h0 : 0 < n) (hlen : l.length + n ≤ 100000) (hB : B ≤ w.heap.size)
    (h : ∀ g cap w', OwnLabels B (.slice (some ⟨g, 0, none⟩) (l.length + n) cap) (l ++ r) w' → w.grownBy w' v.ownBlock → K (a.put o.dst (.slice (some ⟨g, 0, none⟩) (l.length + n) cap)) w') :
    Oper.wp Tryz.prog o a w K Q := by
  obtain ⟨i0, hi, hz0, hz1, hz2⟩ := info_parts infoLab
  refine wp_append_lies w s x T ho B 31 i0 _ 2 32 hT hi hz0 hz1 hz2 rfl (by decide) v l.length (Lab.cells l) hs hown ad n c (Lab.cells r) hx (by rw [Lab.cells_length, hn]) hnews (Lab.cells_one _) h0 (by unfold maxLen; omega) (by omega) hB w.heap.size rfl ?_
  intro g cap w' h1 h2 _ _
  refine h g cap w' ?_ h2
  unfold OwnLabels
  rw [Lab.cells_append, List.length_append, hn]
  exact h1
theorem Sm.drop {p : Option Addr} {ls : List Lab.L} {w : World} {b o : Nat} (hp : p = some ⟨b, o, none⟩) (h : Lab.At p ls w) (k : Nat) : Lab.At (some ⟨b, o + k * 2, none⟩) (ls.drop k) w := by
  rcases h with rfl | ⟨b', o', hp', hc⟩
  · exact .inl (by simp)
  · rw [hp] at hp'
    simp only [Option.some.injEq, Addr.mk.injEq, and_true] at hp'
    obtain ⟨rfl, rfl⟩ := hp'
    refine .inr ⟨b, o + k * 2, rfl, fun i hi => ?_⟩
    rw [List.length_drop] at hi
    have := hc (k + i) (by omega)
    rw [List.getElem_drop, show o + k * 2 + i * 2 = o + (k + i) * 2 by omega]
    exact this
theorem Sm.take {p : Option Addr} {ls : List Lab.L} {w : World} (h : Lab.At p ls w) (k : Nat) : Lab.At p (ls.take k) w := by
  have : Lab.At p (ls.take k ++ ls.drop k) w := by rw [List.take_append_drop]; exact h
  exact this.take
theorem Sm.fit_sub {a b : List Lab.L} {m : Nat} (h : Lab.Fit m b) (hs : ∀ x ∈ a, x ∈ b) : Lab.Fit m a := fun x hx => h x (hs x hx)
theorem Sm.txts1 {a : ByteArray} (h : a.size ≤ maxLen) : ∀ x ∈ [a], x.size ≤ maxLen := fun x hx => by
  simp only [List.mem_cons, List.not_mem_nil, or_false] at hx
  subst hx
  exact h
theorem Sm.txts2 {a b : ByteArray} (h : a.size ≤ maxLen) (k : b.size ≤ maxLen) : ∀ x ∈ [a, b], x.size ≤ maxLen := fun x hx => by
  simp only [List.mem_cons, List.not_mem_nil, or_false] at hx
  rcases hx with rfl | rfl
  · exact h
  · exact k
theorem Sm.txts0 : ∀ x ∈ ([] : List ByteArray), x.size ≤ maxLen := fun x hx => by cases hx
end Go.Proofs.YtbilaghljlobpaaGreat
