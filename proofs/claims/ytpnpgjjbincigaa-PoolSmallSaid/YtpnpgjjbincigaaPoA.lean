/- Pairs of the sort, as they lie in memory. Contract of slices.swapRangeCmpFunc. Contracts of cmp.Compare at strings and of the comparison of pool.Sync's pairs. Contract of slices.insertionSortCmpFunc at pairs. Plain law of the stable sort's merging: exchanges of runs, rotations, and the symmetric merge, over arrays. No program in sight. Contract of slices.rotateCmpFunc at pairs. -/
import Derived.Test.YtpnpgjjbincigaaRec
import Derived.BigRegion
import Derived.BigQuiet
import Derived.Test.YtpnpgjjbincigaaLabC
import Derived.Sort.WalkA
import Derived.Deep.RegionHeld3
import Derived.Sort.LotA
import Derived.WalkKit
namespace Go.Proofs.Ytpnpgjjbincigaa.Stab
open Go.Sort
variable {α : Type}

/-- n exchanges, of places a.. with places b.. -/
def sw (f : Nat → α) (a b n k : Nat) : α := if a ≤ k ∧ k < a + n then f (k - a + b) else if b ≤ k ∧ k < b + n then f (k - b + a) else f k
/-- [a, m) and [m, b) exchanged -/
def rot (f : Nat → α) (a m b k : Nat) : α := if a ≤ k ∧ k < a + (b - m) then f (k - a + m) else if a + (b - m) ≤ k ∧ k < b then f (k - (b - m)) else f k

theorem sw_zero (f : Nat → α) (a b : Nat) : sw f a b 0 = f := by
  funext k
  unfold sw
  rw [if_neg (by omega), if_neg (by omega)]
theorem rot_left (f : Nat → α) (m b : Nat) : rot f m m b = f := by
  funext k
  unfold rot
  split
  · exact congrArg f (by omega)
  · split
    · omega
    · rfl
theorem rot_right (f : Nat → α) (a m : Nat) : rot f a m m = f := by
  funext k
  unfold rot
  split
  · omega
  · split
    · exact congrArg f (by omega)
    · rfl
theorem rot_gt (f : Nat → α) (m i j : Nat) (hj : j < i) (hi : i ≤ m) : rot (sw f (m - i) m j) (m - (i - j)) m (m + j) = rot f (m - i) m (m + j) := by
  funext k
  unfold rot sw
  repeat' split
  all_goals exact congrArg f (by omega)
theorem rot_lt (f : Nat → α) (m i j : Nat) (hj : i < j) (hi : i ≤ m) : rot (sw f (m - i) (m + j - i) i) (m - i) m (m + (j - i)) = rot f (m - i) m (m + j) := by
  funext k
  unfold rot sw
  repeat' split
  all_goals exact congrArg f (by omega)
theorem rot_eq (f : Nat → α) (m i : Nat) (hi : i ≤ m) : sw f (m - i) m i = rot f (m - i) m (m + i) := by
  funext k
  unfold rot sw
  repeat' split
  all_goals exact congrArg f (by omega)

variable [Inhabited α] {lt : α → α → Bool}
/-- an array as a function of places -/
def at' (d : Array α) (k : Nat) : α := d[k]!
theorem swp_sw (d : Array α) (d0 : Array α) (a b n : Nat) (h : at' d = sw (at' d0) a b n) (hs : d.size = d0.size) (hab : a + n < b) (hb : b + n < d0.size) : at' (swp d (a + n) (b + n)) = sw (at' d0) a b (n + 1) := by
  have g := swp_get d (i := a + n) (j := b + n) (by omega) (by omega)
  have h' : ∀ k, d[k]! = sw (at' d0) a b n k := fun k => congrFun h k
  funext k
  show (swp d (a + n) (b + n))[k]! = _
  rw [g, h', h', h']
  unfold sw
  repeat' split
  all_goals first | exact congrArg _ (by omega) | (exfalso; omega)
theorem rot_up (d d0 : Array α) (a k : Nat) (h : at' d = rot (at' d0) a (a + 1) (k + 1)) (hs : d.size = d0.size) (hk : a ≤ k) (hb : k + 1 < d0.size) : at' (swp d k (k + 1)) = rot (at' d0) a (a + 1) (k + 2) := by
  have g := swp_get d (i := k) (j := k + 1) (by omega) (by omega)
  have h' : ∀ k, d[k]! = rot (at' d0) a (a + 1) _ k := fun k => congrFun h k
  funext x
  show (swp d k (k + 1))[x]! = _
  rw [g, h', h', h']
  unfold rot
  repeat' split
  all_goals first | exact congrArg _ (by omega) | (exfalso; omega)
theorem rot_down (d d0 : Array α) (m k : Nat) (h : at' d = rot (at' d0) (k + 1) m (m + 1)) (hs : d.size = d0.size) (hk : k + 1 ≤ m) (hb : m < d0.size) : at' (swp d (k + 1) k) = rot (at' d0) k m (m + 1) := by
  have g := swp_get d (i := k + 1) (j := k) (by omega) (by omega)
  have h' : ∀ x, d[x]! = rot (at' d0) (k + 1) m (m + 1) x := fun x => congrFun h x
  funext x
  show (swp d (k + 1) k)[x]! = _
  rw [g, h', h', h']
  unfold rot
  repeat' split
  all_goals first | exact congrArg _ (by omega) | (exfalso; omega)

/-! ### the searches -/
/-- the lowest place of [m, b) that is not less than x -/
structure SchL (lt : α → α → Bool) (d : Array α) (x : α) (m b i j : Nat) : Prop where
  le : m ≤ i ∧ i ≤ j ∧ j ≤ b
  low : ∀ k, m ≤ k → k < i → lt d[k]! x = true
  high : ∀ k, j ≤ k → k < b → lt d[k]! x = false
theorem SchL.start (d : Array α) (x : α) {m b : Nat} (h : m ≤ b) : SchL lt d x m b m b := ⟨⟨Nat.le_refl _, h, Nat.le_refl _⟩, fun _ _ _ => by omega, fun _ _ _ => by omega⟩
theorem le_of (hS : SWO lt) {d : Array α} {a b : Nat} (h : SortedIn lt a b d) (i j : Nat) (hi : a ≤ i) (hij : i ≤ j) (hj : j < b) : lt d[j]! d[i]! = false := by
  rcases Nat.lt_or_ge i j with q | q
  · exact h i j hi q hj
  · rw [show j = i by omega]; exact hS.irrefl _
theorem SchL.up (hS : SWO lt) {d : Array α} {x : α} {m b i j c : Nat} (h : SchL lt d x m b i j) (hd : SortedIn lt m b d) (h1 : i ≤ c) (h2 : c < j) (hc : lt d[c]! x = true) : SchL lt d x m b (c + 1) j := by
  obtain ⟨q1, q2, q3⟩ := h.le
  refine ⟨⟨by omega, by omega, q3⟩, fun k hk hk2 => ?_, h.high⟩
  have h3 := le_of hS hd k c hk (by omega) (by omega)
  cases h4 : lt d[k]! x with
  | true => rfl
  | false => rw [hS.ntrans _ _ _ h3 h4] at hc; cases hc
theorem SchL.down (hS : SWO lt) {d : Array α} {x : α} {m b i j c : Nat} (h : SchL lt d x m b i j) (hd : SortedIn lt m b d) (h1 : i ≤ c) (h2 : c < j) (hc : lt d[c]! x = false) : SchL lt d x m b i c := by
  obtain ⟨q1, q2, q3⟩ := h.le
  exact ⟨⟨q1, h1, by omega⟩, h.low, fun k hk hk2 => hS.ntrans _ _ _ (le_of hS hd c k (by omega) hk hk2) hc⟩
/-- the lowest place of [a, m) that is greater than x -/
structure SchG (lt : α → α → Bool) (d : Array α) (x : α) (a m i j : Nat) : Prop where
  le : a ≤ i ∧ i ≤ j ∧ j ≤ m
  low : ∀ k, a ≤ k → k < i → lt x d[k]! = false
  high : ∀ k, j ≤ k → k < m → lt x d[k]! = true
theorem SchG.start (d : Array α) (x : α) {m b : Nat} (h : m ≤ b) : SchG lt d x m b m b := ⟨⟨Nat.le_refl _, h, Nat.le_refl _⟩, fun _ _ _ => by omega, fun _ _ _ => by omega⟩
theorem SchG.up (hS : SWO lt) {d : Array α} {x : α} {m b i j c : Nat} (h : SchG lt d x m b i j) (hd : SortedIn lt m b d) (h1 : i ≤ c) (h2 : c < j) (hc : lt x d[c]! = false) : SchG lt d x m b (c + 1) j := by
  obtain ⟨q1, q2, q3⟩ := h.le
  exact ⟨⟨by omega, by omega, q3⟩, fun k hk hk2 => hS.ntrans _ _ _ hc (le_of hS hd k c hk (by omega) (by omega)), h.high⟩
theorem SchG.down (hS : SWO lt) {d : Array α} {x : α} {m b i j c : Nat} (h : SchG lt d x m b i j) (hd : SortedIn lt m b d) (h1 : i ≤ c) (h2 : c < j) (hc : lt x d[c]! = true) : SchG lt d x m b i c := by
  obtain ⟨q1, q2, q3⟩ := h.le
  refine ⟨⟨q1, h1, by omega⟩, h.low, fun k hk hk2 => ?_⟩
  have h3 := le_of hS hd c k (by omega) hk hk2
  cases h4 : lt x d[k]! with
  | true => rfl
  | false => rw [hS.ntrans _ _ _ h4 h3] at hc; cases hc
/-- the cut of the symmetric merge -/
structure SchS (lt : α → α → Bool) (d : Array α) (p lo hi i j : Nat) : Prop where
  le : lo ≤ i ∧ i ≤ j ∧ j ≤ hi
  low : ∀ k, lo ≤ k → k < i → lt d[p - k]! d[k]! = false
  high : ∀ k, j ≤ k → k < hi → lt d[p - k]! d[k]! = true
theorem SchS.start (d : Array α) (p : Nat) {m b : Nat} (h : m ≤ b) : SchS lt d p m b m b := ⟨⟨Nat.le_refl _, h, Nat.le_refl _⟩, fun _ _ _ => by omega, fun _ _ _ => by omega⟩
theorem SchS.up (hS : SWO lt) {d : Array α} {p a m b lo hi i j c : Nat} (h : SchS lt d p lo hi i j) (hd1 : SortedIn lt a m d) (hd2 : SortedIn lt m b d) (g1 : a ≤ lo) (g2 : hi ≤ m) (g3 : ∀ k, lo ≤ k → k < hi → k ≤ p ∧ m ≤ p - k ∧ p - k < b) (h1 : i ≤ c) (h2 : c < j) (hc : lt d[p - c]! d[c]! = false) : SchS lt d p lo hi (c + 1) j := by
  obtain ⟨q1, q2, q3⟩ := h.le
  refine ⟨⟨by omega, by omega, q3⟩, fun k hk hk2 => ?_, h.high⟩
  obtain ⟨z1, z2, z3⟩ := g3 k hk (by omega)
  obtain ⟨y1, y2, y3⟩ := g3 c (by omega) (by omega)
  exact hS.ntrans _ _ _ (hS.ntrans _ _ _ (le_of hS hd2 (p - c) (p - k) y2 (by omega) z3) hc) (le_of hS hd1 k c (by omega) (by omega) (by omega))
theorem SchS.down (hS : SWO lt) {d : Array α} {p a m b lo hi i j c : Nat} (h : SchS lt d p lo hi i j) (hd1 : SortedIn lt a m d) (hd2 : SortedIn lt m b d) (g1 : a ≤ lo) (g2 : hi ≤ m) (g3 : ∀ k, lo ≤ k → k < hi → k ≤ p ∧ m ≤ p - k ∧ p - k < b) (h1 : i ≤ c) (h2 : c < j) (hc : lt d[p - c]! d[c]! = true) : SchS lt d p lo hi i c := by
  obtain ⟨q1, q2, q3⟩ := h.le
  refine ⟨⟨q1, h1, by omega⟩, h.low, fun k hk hk2 => ?_⟩
  obtain ⟨z1, z2, z3⟩ := g3 k (by omega) hk2
  obtain ⟨y1, y2, y3⟩ := g3 c (by omega) (by omega)
  cases h4 : lt d[p - k]! d[k]! with
  | true => rfl
  | false => rw [hS.ntrans _ _ _ (hS.ntrans _ _ _ (le_of hS hd2 (p - k) (p - c) z2 (by omega) y3) h4) (le_of hS hd1 c k (by omega) hk (by omega))] at hc; cases hc

/-! ### what the merge leaves -/
theorem one_first (hS : SWO lt) {d d' : Array α} {a b i : Nat} (h : SchL lt d d[a]! (a + 1) b i i) (hd : SortedIn lt (a + 1) b d) (hg : at' d' = rot (at' d) a (a + 1) i) : SortedIn lt a b d' := by
  obtain ⟨q1, q2, q3⟩ := h.le
  have g : ∀ k, d'[k]! = rot (at' d) a (a + 1) i k := fun k => congrFun hg k
  intro x y hx hxy hy
  rw [g, g]
  unfold rot at'
  repeat' split
  all_goals first
    | (exfalso; omega)
    | exact hd _ _ (by omega) (by omega) (by omega)
    | (rw [show x - (i - (a + 1)) = a by omega]; exact h.high _ (by omega) (by omega))
    | (rw [show y - (i - (a + 1)) = a by omega]; exact hS.asymmA (h.low _ (by omega) (by omega)))
theorem one_last (hS : SWO lt) {d d' : Array α} {a m i : Nat} (h : SchG lt d d[m]! a m i i) (hd : SortedIn lt a m d) (hg : at' d' = rot (at' d) i m (m + 1)) : SortedIn lt a (m + 1) d' := by
  obtain ⟨q1, q2, q3⟩ := h.le
  have g : ∀ k, d'[k]! = rot (at' d) i m (m + 1) k := fun k => congrFun hg k
  intro x y hx hxy hy
  rw [g, g]
  unfold rot at'
  repeat' split
  all_goals first
    | (exfalso; omega)
    | exact hd _ _ (by omega) (by omega) (by omega)
    | (rw [show x - i + m = m by omega]; exact hS.asymmA (h.high _ (by omega) (by omega)))
    | (rw [show y - i + m = m by omega]; exact h.low _ (by omega) (by omega))
/-- the four parts behind the rotation -/
structure Parts (lt : α → α → Bool) (d1 : Array α) (a s mid e b : Nat) : Prop where
  p1 : SortedIn lt a s d1
  p2 : SortedIn lt s mid d1
  p3 : SortedIn lt mid e d1
  p4 : SortedIn lt e b d1
  cross : ∀ i j, a ≤ i → i < mid → mid ≤ j → j < b → lt d1[j]! d1[i]! = false
theorem parts (hS : SWO lt) {d d1 : Array α} {a s m e b mid : Nat} (h1 : SortedIn lt a m d) (h2 : SortedIn lt m b d) (q1 : a ≤ s) (q2 : s ≤ m) (q3 : m ≤ e) (q4 : e ≤ b) (hm : mid + m = s + e)
    (hL : s = a ∨ e = b ∨ lt d[e]! d[s - 1]! = false) (hR : s = m ∨ e = m ∨ lt d[s]! d[e - 1]! = false) (hg : at' d1 = rot (at' d) s m e) : Parts lt d1 a s mid e b := by
  have g : ∀ k, d1[k]! = rot (at' d) s m e k := fun k => congrFun hg k
  have c1 : ∀ i j, a ≤ i → i < s → e ≤ j → j < b → lt d[j]! d[i]! = false := fun i j hi hi2 hj hj2 => by
    rcases hL with q | q | q
    · omega
    · omega
    · exact hS.ntrans _ _ _ (hS.ntrans _ _ _ (le_of hS h2 e j (by omega) hj hj2) q) (le_of hS h1 i (s - 1) hi (by omega) (by omega))
  have c2 : ∀ i j, m ≤ i → i < e → s ≤ j → j < m → lt d[j]! d[i]! = false := fun i j hi hi2 hj hj2 => by
    rcases hR with q | q | q
    · omega
    · omega
    · exact hS.ntrans _ _ _ (hS.ntrans _ _ _ (le_of hS h1 s j (by omega) hj hj2) q) (le_of hS h2 i (e - 1) hi (by omega) (by omega))
  refine ⟨?_, ?_, ?_, ?_, ?_⟩
  · intro x y hx hxy hy
    rw [g, g]
    unfold rot at'
    repeat' split
    all_goals first | (exfalso; omega) | exact h1 _ _ (by omega) (by omega) (by omega)
  · intro x y hx hxy hy
    rw [g, g]
    unfold rot at'
    repeat' split
    all_goals first | (exfalso; omega) | exact h2 _ _ (by omega) (by omega) (by omega)
  · intro x y hx hxy hy
    rw [g, g]
    unfold rot at'
    repeat' split
    all_goals first | (exfalso; omega) | exact h1 _ _ (by omega) (by omega) (by omega)
  · intro x y hx hxy hy
    rw [g, g]
    unfold rot at'
    repeat' split
    all_goals first | (exfalso; omega) | exact h2 _ _ (by omega) (by omega) (by omega)
  · intro x y hx hxy hy hy2
    rw [g, g]
    unfold rot at'
    repeat' split
    all_goals first
      | (exfalso; omega)
      | exact c1 _ _ (by omega) (by omega) (by omega) (by omega)
      | exact c2 _ _ (by omega) (by omega) (by omega) (by omega)
      | exact h1 _ _ (by omega) (by omega) (by omega)
      | exact h2 _ _ (by omega) (by omega) (by omega)
/-- the two halves, sorted apart, are sorted -/
theorem whole {d1 d2 d3 : Array α} {a mid b : Nat} (hb : b ≤ d1.size) (cross : ∀ i j, a ≤ i → i < mid → mid ≤ j → j < b → lt d1[j]! d1[i]! = false)
    (p1 : PermIn a mid d1 d2) (s1 : SortedIn lt a mid d2) (p2 : PermIn mid b d2 d3) (s2 : SortedIn lt mid b d3) : SortedIn lt a b d3 := by
  have hz : d2.size = d1.size := p1.1
  have k1 : ∀ i j, a ≤ i → i < mid → mid ≤ j → j < b → lt d1[j]! d2[i]! = false := fun i j hi hi2 hj hj2 =>
    permIn_all d1 d2 a mid (fun x => lt d1[j]! x = false) (by omega) p1 (fun i hi hi2 => cross i j hi hi2 hj hj2) i hi hi2
  have k2 : ∀ i j, a ≤ i → i < mid → mid ≤ j → j < b → lt d2[j]! d2[i]! = false := fun i j hi hi2 hj hj2 => by
    rw [p1.2.1 j (.inr hj)]
    exact k1 i j hi hi2 hj hj2
  have k3 : ∀ i j, a ≤ i → i < mid → mid ≤ j → j < b → lt d3[j]! d3[i]! = false := fun i j hi hi2 hj hj2 => by
    rw [p2.2.1 i (.inl hi2)]
    exact permIn_all d2 d3 mid b (fun x => lt x d2[i]! = false) (by omega) p2 (fun j hj hj2 => k2 i j hi hi2 hj hj2) j hj hj2
  intro x y hx hxy hy
  rcases Nat.lt_or_ge x mid with q | q
  · rcases Nat.lt_or_ge y mid with r | r
    · rw [p2.2.1 x (.inl q), p2.2.1 y (.inl r)]
      exact s1 x y hx hxy r
    · exact k3 x y hx q r hy
  · exact s2 x y q hxy hy
end Go.Proofs.Ytpnpgjjbincigaa.Stab
namespace Go.Proofs.Ytpnpgjjbincigaa
open Go.RowKit Go.Sort

/-- a key with the places of its slot and of its target -/
structure Pr where
  k : ByteArray
  s : Option Addr
  t : Option Addr
instance : Inhabited Pr := ⟨⟨⟨#[]⟩, none, none⟩⟩
def Pr.enc (x : Pr) : List Value := [.string x.k, .pointer x.s, .pointer x.t]
def prR : Rec Pr := ⟨104, 3, 32, .agg #[.string ByteArray.empty, .pointer none, .pointer none], Pr.enc⟩
theorem prOk : Rec.Ok prR where
  len _ := rfl
  one x v hv := by
    simp [prR, Pr.enc] at hv
    rcases hv with rfl | rfl | rfl <;> rfl
  pos := by decide
  small := by decide
  info := by kernel_rfl
  zs := rfl
/-- the row of an array of pairs -/
def PrRow (B g n c : Nat) (d : Array Pr) (w : World) : Prop := OwnR prR B (.slice (some ⟨g, 0, none⟩) n c) d.toList w ∧ d.size = n ∧ B ≤ w.heap.size
theorem PrRow.cells {B g n c : Nat} {d : Array Pr} {w : World} (h : PrRow B g n c d w) (i : Nat) (hi : i < n) :
    w.cell? ⟨g, i * 3, none⟩ = some (.string d[i]!.k) ∧ w.cell? ⟨g, i * 3 + 1, none⟩ = some (.pointer d[i]!.s) ∧ w.cell? ⟨g, i * 3 + 2, none⟩ = some (.pointer d[i]!.t) := by
  obtain ⟨h1, h2, _⟩ := h
  rcases h1.open prOk with ⟨h3, _⟩ | ⟨g', c', e, _, _, _, _, hA⟩
  · cases h3
  · simp only [Value.slice.injEq, Option.some.injEq, Addr.mk.injEq, and_true] at e
    obtain ⟨rfl, _, _⟩ := e
    have hi' : i < d.toList.length := by rw [Array.length_toList, h2]; exact hi
    have e : d.toList[i] = d[i]! := by rw [Array.getElem_toList, getElem!_pos d i (by omega)]
    have := hA i hi'
    rw [e] at this
    exact ⟨this 0 (by decide), this 1 (by decide), this 2 (by decide)⟩
theorem PrRow.drew {B g n c : Nat} {d : Array Pr} {w : World} (h : PrRow B g n c d w) : PrRow B g n c d w.drew := ⟨h.1, h.2⟩
theorem PrRow.later {B g n c : Nat} {d : Array Pr} {w w' : World} (h : PrRow B g n c d w) (hb : Below w.heap.size w w') : PrRow B g n c d w' :=
  ⟨h.1.below hb (Nat.le_refl _), h.2.1, Nat.le_trans h.2.2 hb.size⟩
theorem PrRow.lt {B g n c : Nat} {d : Array Pr} {w : World} (h : PrRow B g n c d w) : B ≤ g ∧ g < w.heap.size := by
  rcases h.1.open prOk with ⟨h3, _⟩ | ⟨g', c', e, h4, h5, _⟩
  · cases h3
  · simp only [Value.slice.injEq, Option.some.injEq, Addr.mk.injEq, and_true] at e
    obtain ⟨rfl, _, _⟩ := e
    exact ⟨h4, h5⟩
theorem PrRow.free {B g n c : Nat} {d : Array Pr} {w : World} (h : PrRow B g n c d w) (j : Nat) : w.frozen? ⟨g, j, none⟩ = false := by
  obtain ⟨h1, h2, _⟩ := h
  unfold OwnR at h1
  rw [Array.length_toList, h2] at h1
  exact World.ownsRow.frozenAt h1 _
theorem grown_below {B g : Nat} {w w' : World} (h : w.grownBy w' (some g)) (hg : B ≤ g) (hB : B ≤ w.heap.size) : Below B w w' :=
  (Below.refl B w).grown h hB (fun j hj => by simp at hj; omega)
theorem PrRow.put {B g n c : Nat} {d : Array Pr} {w : World} (h : PrRow B g n c d w) (i : Nat) (hi : i < n) (x : Pr) :
    PrRow B g n c (d.setIfInBounds i x) (w.setCells g (i * 3) (Pr.enc x)) ∧ Below B w (w.setCells g (i * 3) (Pr.enc x)) := by
  have hlt := h.lt
  obtain ⟨h1, h2, h3⟩ := h
  have q1 := h1.stored prOk (by rw [Array.length_toList]; exact h2) i hi x
  exact ⟨⟨by rw [Array.toList_setIfInBounds]; exact q1.1, by rw [Array.size_setIfInBounds]; exact h2, Nat.le_trans h3 q1.2.size⟩, grown_below q1.2 hlt.1 h3⟩
theorem PrRow.store {B g n c : Nat} {d : Array Pr} {w : World} (h : PrRow B g n c d w) (i : Nat) (hi : i < n) (x : Pr) :
    Sem.run Try.prog (storeCells ⟨g, i * 3, none⟩ [.string x.k, .pointer x.s, .pointer x.t] 0) w = .ok () (w.setCells g (i * 3) (Pr.enc x)) := by
  have hc := h.cells i hi
  have := Go.run_storeCells_cells (P := Try.prog) g (i * 3) (Pr.enc x) 0 w (fun j hj => ?_) (fun j _ => h.free _) (prOk.one x)
  · exact this
  · have hj3 : j < 3 := hj
    obtain rfl | rfl | rfl : j = 0 ∨ j = 1 ∨ j = 2 := by omega
    · exact Option.isSome_of_eq_some hc.1
    · exact Option.isSome_of_eq_some hc.2.1
    · exact Option.isSome_of_eq_some hc.2.2
theorem PrRow.swapped {B g n c : Nat} {d : Array Pr} {w : World} (h : PrRow B g n c d w) (i j : Nat) (hi : i < n) (hj : j < n) :
    PrRow B g n c (swp d i j) ((w.setCells g (i * 3) (Pr.enc d[j]!)).setCells g (j * 3) (Pr.enc d[i]!)) ∧ Below B w ((w.setCells g (i * 3) (Pr.enc d[j]!)).setCells g (j * 3) (Pr.enc d[i]!)) := by
  have hlt := h.lt
  obtain ⟨h1, h2, h3⟩ := h
  have q1 := h1.stored prOk (by rw [Array.length_toList]; exact h2) i hi d[j]!
  have q2 := q1.1.stored prOk (by rw [List.length_set, Array.length_toList]; exact h2) j hj d[i]!
  have e : (swp d i j).toList = (d.toList.set i d[j]!).set j d[i]! := by
    unfold swp
    rw [Array.toList_setIfInBounds, Array.toList_setIfInBounds]
  have b1 := grown_below q1.2 hlt.1 h3
  have b2 := grown_below q2.2 hlt.1 (Nat.le_trans h3 q1.2.size)
  refine ⟨⟨by rw [e]; exact q2.1, by rw [size_swp]; exact h2, Nat.le_trans (Nat.le_trans h3 q1.2.size) q2.2.size⟩, b1.trans b2⟩

set_option maxHeartbeats 1600000 in
set_option maxRecDepth 100000 in
theorem swapr_is (B g n c : Nat) (f : Value) (d : Array Pr) (a b m : Nat) (w : World) (h : PrRow B g n c d w) (hab : a + m ≤ b) (hb : b + m ≤ n) (hl : n ≤ 1000000000) :
    Calls Try.prog 113 #[.slice (some ⟨g, 0, none⟩) n c, .int .i64 a, .int .i64 b, .int .i64 m, f] w fun e w' =>
      e = .returned (.tuple #[]) ∧ ∃ d', PrRow B g n c d' w' ∧ Stab.at' d' = Stab.sw (Stab.at' d) a b m ∧ PermIn a (b + m) d d' ∧ Below B w w' := by
  have H := Lib.hid h
  have hsz := h.2.1
  clear h
  go_enter Try.func113, Try.ntmps113
  go_wp2_with fail
  go_loopw [10] (fun iv wr => ∃ (i : Nat) (dk : Array Pr), i ≤ m ∧ iv = .int .i64 (i : Int) ∧ Hid (PrRow B g n c dk wr) ∧ Hid (Stab.at' dk = Stab.sw (Stab.at' d) a b i) ∧ Hid (PermIn a (b + m) d dk) ∧ Below B w wr) (fun iv _ => m - (intOf iv).toNat)
  case atStart => exact ⟨0, d, by omega, rfl, H, (Stab.sw_zero _ _ _).symm, permIn_refl _ _ _, Below.refl _ _⟩
  case round =>
    obtain ⟨i, dk, him, rfl, HR, HA, HP, hbw⟩ := hrel
    by_cases hlt : i < m
    · have m1 : (0 : Int) ≤ (i : Int) := by omega
      have m2 : (i : Int) < (m : Int) := by omega
      have a1 : (0 : Int) ≤ (a : Int) + (i : Int) := by omega
      have a2 : (a : Int) + (i : Int) < (n : Int) := by omega
      have a3 : ((a : Int) + (i : Int)).toNat = a + i := by omega
      have a4 : IntKind.i64.wrap ((a : Int) + (i : Int)) = (a : Int) + (i : Int) := by rw [IntKind.wrap_i64]; omega
      have b1 : (0 : Int) ≤ (b : Int) + (i : Int) := by omega
      have b2 : (b : Int) + (i : Int) < (n : Int) := by omega
      have b3 : ((b : Int) + (i : Int)).toNat = b + i := by omega
      have b4 : IntKind.i64.wrap ((b : Int) + (i : Int)) = (b : Int) + (i : Int) := by rw [IntKind.wrap_i64]; omega
      have hs := HR.out.2.1
      have HSW := Lib.hid (HR.out.swapped (a + i) (b + i) (by omega) (by omega))
      have HA2 : Hid (Stab.at' (swp dk (a + i) (b + i)) = Stab.sw (Stab.at' d) a b (i + 1)) := Stab.swp_sw dk d a b i HA.out (by rw [hs, hsz]) (by omega) (by omega)
      have HP2 : Hid (PermIn a (b + m) d (swp dk (a + i) (b + i))) := permIn_trans _ _ _ _ _ HP.out (swp_permIn _ _ _ _ _ (by omega) (by omega) (by omega) (by omega) (by omega))
      obtain ⟨x0, x1, x2⟩ := HR.out.cells (a + i) (by omega)
      obtain ⟨y0, y1, y2⟩ := HR.out.cells (b + i) (by omega)
      have f0 := HR.out.free ((a + i) * 3)
      have f1 := HR.out.free ((a + i) * 3 + 1)
      have f2 := HR.out.free ((a + i) * 3 + 2)
      have g0 := HR.out.free ((b + i) * 3)
      have g1 := HR.out.free ((b + i) * 3 + 1)
      have g2 := HR.out.free ((b + i) * 3 + 2)
      obtain ⟨x, hx⟩ : ∃ x, dk[a + i]! = x := ⟨_, rfl⟩
      obtain ⟨y, hy⟩ : ∃ y, dk[b + i]! = y := ⟨_, rfl⟩
      rw [hx] at x0 x1 x2 HSW
      rw [hy] at y0 y1 y2 HSW
      obtain ⟨xk, xs, xt⟩ := x
      obtain ⟨yk, ys, yt⟩ := y
      dsimp only at x0 x1 x2 y0 y1 y2
      clear hx hy HR HA HP
      go_wp2_with fail
      have mixed : Try.prog.follows .mixedOrders = true := by kernel_rfl
      go_region
      go_wp2_with fail
      go_roundw
      case rel => exact ⟨i + 1, _, by omega, by go_num, HSW.out.1.drew, HA2, HP2, hbw.trans HSW.out.2.drew⟩
      case measure => simp [intOf]; omega
    · obtain rfl : i = m := by omega
      go_wp2_with fail
      go_end0
      exact ⟨rfl, dk, HR.out, HA.out, HP.out, hbw⟩
end Go.Proofs.Ytpnpgjjbincigaa
namespace Go.Proofs.Ytpnpgjjbincigaa
open Go.RowKit Go.Sort

theorem strLt_is (a b : ByteArray) : Op.bytesLess a.toList b.toList = decide (Lab.bs a < Lab.bs b) := by
  rw [bytesLess_eq, ByteArray.toList_eq, ByteArray.toList_eq]
  rfl
def strC (a b : ByteArray) : Int := if Lab.bs a < Lab.bs b then -1 else if Lab.bs b < Lab.bs a then 1 else 0
def Pr.lt (x y : Pr) : Bool := decide (Lab.bs x.k < Lab.bs y.k)
theorem Pr.lt_is (x y : Pr) : strC x.k y.k < 0 ↔ Pr.lt x y = true := by
  unfold strC Pr.lt
  rw [decide_eq_true_eq]
  by_cases h : Lab.bs x.k < Lab.bs y.k
  · rw [if_pos h]; exact ⟨fun _ => h, fun _ => by decide⟩
  · rw [if_neg h]
    refine ⟨fun h2 => ?_, fun h2 => (h h2).elim⟩
    split at h2 <;> omega
theorem Pr.swo : SWO Pr.lt where
  irrefl x := decide_eq_false (List.lt_irrefl _)
  trans x y z h1 h2 := by
    unfold Pr.lt at *
    rw [decide_eq_true_eq] at *
    exact List.lt_trans h1 h2
  ntrans x y z h1 h2 := by
    unfold Pr.lt at *
    rw [decide_eq_false_iff_not, List.not_lt] at *
    exact List.le_trans h2 h1

set_option maxHeartbeats 800000 in
theorem isNaN_is (a : ByteArray) (w : World) : Calls Try.prog 87 #[.string a] w fun e w' => e = .returned (.bool false) ∧ w = w' := by
  go_enter Try.func87, Try.ntmps87
  have q : (a.toList == a.toList) = true := by simp
  have q2 : (a.toList != a.toList) = false := by simp
  go_wp2_with fail
  go_ret
  exact ⟨rfl, rfl⟩
set_option maxHeartbeats 1600000 in
set_option maxRecDepth 100000 in
theorem compare_is (a b : ByteArray) (r : Int) (h : strC a b = r) (w : World) : Calls Try.prog 60 #[.string a, .string b] w fun e w' => e = .returned (.int .i64 r) ∧ w = w' := by
  have HN := Lib.hid isNaN_is
  unfold strC at h
  obtain ⟨p, hp⟩ : ∃ p, Op.bytesLess a.toList b.toList = p := ⟨_, rfl⟩
  obtain ⟨q, hq⟩ : ∃ q, (a.toList == b.toList) = q := ⟨_, rfl⟩
  have h2 : (if p = true then (-1 : Int) else if q = true then 0 else 1) = r := by
    rw [← h, ← hp, ← hq, strLt_is, ByteArray.toList_eq, ByteArray.toList_eq]
    simp only [decide_eq_true_eq, beq_iff_eq]
    by_cases h1 : Lab.bs a < Lab.bs b
    · rw [if_pos h1, if_pos h1]
    · rw [if_neg h1, if_neg h1]
      by_cases h2 : Lab.bs b < Lab.bs a
      · rw [if_pos h2, if_neg]
        intro h3
        have h3 : Lab.bs a = Lab.bs b := h3
        rw [h3] at h2
        exact List.lt_irrefl _ h2
      · rw [if_neg h2, if_pos]
        exact List.le_antisymm (List.not_lt.1 h2) (List.not_lt.1 h1)
  clear h
  go_enter Try.func60, Try.ntmps60
  go_wp2_with (go_at_call 87; refine (HN.out _ _).mono ?_)
  first | rintro e w1 rfl rfl | rintro e w1 ⟨rfl, rfl⟩
  go_wp2_with (go_at_call 87; refine (HN.out _ _).mono ?_)
  first | rintro e w1 rfl rfl | rintro e w1 ⟨rfl, rfl⟩
  cases p
  · rw [if_neg (by decide)] at h2
    cases q
    · rw [if_neg (by decide)] at h2
      subst h2
      go_wp2_with fail
      go_ret
      exact ⟨rfl, rfl⟩
    · rw [if_pos rfl] at h2
      subst h2
      go_wp2_with fail
      go_ret
      exact ⟨rfl, rfl⟩
  · rw [if_pos rfl] at h2
    subst h2
    go_wp2_with fail
    go_ret
    exact ⟨rfl, rfl⟩
set_option maxHeartbeats 1600000 in
set_option maxRecDepth 100000 in
theorem prCmp_is (x y : Pr) (r : Int) (h : strC x.k y.k = r) (w : World) : Calls Try.prog 59 #[.agg #[.string x.k, .pointer x.s, .pointer x.t], .agg #[.string y.k, .pointer y.s, .pointer y.t]] w fun e w' => e = .returned (.int .i64 r) ∧ Below w.heap.size w w' := by
  have HC := Lib.hid (fun w => compare_is x.k y.k r h w)
  clear h
  go_enter Try.func59, Try.ntmps59
  go_wp2_with (go_at_call 60; refine (HC.out _).mono ?_)
  first | rintro e w1 rfl rfl | rintro e w1 ⟨rfl, rfl⟩
  go_wp2_with fail
  go_ret
  exact ⟨rfl, ((Below.refl _ _).alloc (Nat.le_refl _) _).alloc (by simp) _⟩
end Go.Proofs.Ytpnpgjjbincigaa
namespace Go.Proofs.Ytpnpgjjbincigaa
open Go.RowKit Go.Sort

/-- what a comparison of two places wants of a world -/
def PrRow.Two (V : World) (x y : Pr) (g i j : Nat) (w' : World) : Prop :=
  Below V.heap.size V w' ∧ w'.cell? ⟨g, i * 3, none⟩ = some (.string x.k) ∧ w'.cell? ⟨g, i * 3 + 1, none⟩ = some (.pointer x.s) ∧ w'.cell? ⟨g, i * 3 + 2, none⟩ = some (.pointer x.t) ∧
    w'.cell? ⟨g, j * 3, none⟩ = some (.string y.k) ∧ w'.cell? ⟨g, j * 3 + 1, none⟩ = some (.pointer y.s) ∧ w'.cell? ⟨g, j * 3 + 2, none⟩ = some (.pointer y.t)
theorem PrRow.two {B g n c : Nat} {d : Array Pr} {V : World} (h : PrRow B g n c d V) (i j : Nat) (hi : i < n) (hj : j < n) {x y : Pr} (hx : d[i]! = x) (hy : d[j]! = y) :
    ∀ w', Below V.heap.size V w' → PrRow.Two V x y g i j w' := fun w' hb => by
  have h2 := h.later hb
  have c1 := h2.cells i hi
  have c2 := h2.cells j hj
  rw [hx] at c1
  rw [hy] at c2
  exact ⟨hb, c1.1, c1.2.1, c1.2.2, c2⟩

set_option maxHeartbeats 3200000 in
set_option maxRecDepth 100000 in
theorem ins_is (B g n c : Nat) (d : Array Pr) (a b : Nat) (w : World) (h : PrRow B g n c d w) (hab : a ≤ b) (hb : b ≤ n) (hl : n ≤ 1000000000) :
    Calls Try.prog 97 #[.slice (some ⟨g, 0, none⟩) n c, .int .i64 a, .int .i64 b, .func (.func 59) #[] #[]] w fun e w' =>
      e = .returned (.tuple #[]) ∧ ∃ d', PrRow B g n c d' w' ∧ (PermIn a b d d' ∧ SortedIn Pr.lt a b d') ∧ Below B w w' := by
  have H := Lib.hid h
  have hsz := h.2.1
  have HI : Hid (PermIn a b d (insertionSort Pr.lt d a b) ∧ SortedIn Pr.lt a b (insertionSort Pr.lt d a b)) := insertionSort_holds Pr.swo d a b hab (by omega)
  have mixed : Try.prog.follows .mixedOrders = true := by kernel_rfl
  have HC := Lib.hid prCmp_is
  have z1 : IntKind.i64.wrap ((a : Int) + 1) = (a : Int) + 1 := by rw [IntKind.wrap_i64]; omega
  clear h
  go_enter Try.func97, Try.ntmps97
  go_wp2_with fail
  go_loopw [8] (fun iv wr => ∃ (i : Nat) (dk : Array Pr), a < i ∧ i ≤ b + 1 ∧ iv = .int .i64 (i : Int) ∧ Hid (PrRow B g n c dk wr) ∧ Hid (insOuter Pr.lt a b i dk = insOuter Pr.lt a b (a + 1) d) ∧ Below B w wr) (fun iv _ => b + 1 - (intOf iv).toNat)
  case atStart => exact ⟨a + 1, d, by omega, by omega, by go_num, H, rfl, Below.refl _ _⟩
  case round =>
    clear z1
    obtain ⟨i, dk, hai, hib, rfl, HR, HO, hbw⟩ := hrel
    by_cases hlt : i < b
    · have m1 : (0 : Int) ≤ (i : Int) := by omega
      have m2 : (i : Int) < (b : Int) := by omega
      have z2 : IntKind.i64.wrap ((i : Int) + 1) = (i : Int) + 1 := by rw [IntKind.wrap_i64]; omega
      go_wp2_with fail
      go_loopw [9] (fun jv wj => ∃ (j : Nat) (dj : Array Pr), a ≤ j ∧ j ≤ i ∧ jv = .int .i64 (j : Int) ∧ Hid (PrRow B g n c dj wj) ∧ Hid (insInner Pr.lt a j dj = insInner Pr.lt a i dk) ∧ Below B w wj) (fun jv _ => (intOf jv).toNat)
      case atStart => exact ⟨i, dk, by omega, Nat.le_refl _, rfl, HR, rfl, hbw⟩
      case round =>
        clear hbw
        obtain ⟨wj, rfl⟩ : ∃ wo : World, wo = wr := ⟨_, rfl⟩
        obtain ⟨j, dj, haj, hji, rfl, HRJ, HI2, hbj⟩ := hrel
        have HOUT : Hid ((j ≤ a ∨ Pr.lt dj[j]! dj[j - 1]! = false) → insOuter Pr.lt a b (i + 1) dj = insOuter Pr.lt a b (a + 1) d) := fun hs => by
          rw [← HO.out, insOuter_go _ _ _ _ _ hlt, ← HI2.out, insInner_stop _ _ _ _ hs]
        by_cases hja : a < j
        · obtain ⟨jp, rfl⟩ : ∃ jp, j = jp + 1 := ⟨j - 1, by omega⟩
          have hs := HRJ.out.2.1
          obtain ⟨x, hx⟩ : ∃ x, dj[jp + 1]! = x := ⟨_, rfl⟩
          obtain ⟨y, hy⟩ : ∃ y, dj[jp]! = y := ⟨_, rfl⟩
          have HTW := Lib.hid (HRJ.out.two (jp + 1) jp (by omega) (by omega) hx hy)
          obtain ⟨r, hr⟩ : ∃ r, strC x.k y.k = r := ⟨_, rfl⟩
          have HCC := Lib.hid (fun w => HC.out x y r hr w)
          have HLT : Hid (r < 0 ↔ Pr.lt x y = true) := by show _ ↔ _; rw [← hr]; exact Pr.lt_is x y
          have HX := Lib.hid hx
          have HY := Lib.hid hy
          obtain ⟨xk, xs, xt⟩ := x
          obtain ⟨yk, ys, yt⟩ := y
          have n0 : (0 : Int) ≤ (jp : Int) := by omega
          have n1 : (jp : Int) < (n : Int) := by omega
          have n2 : (jp : Int) + 1 < (n : Int) := by omega
          have n3 : (a : Int) < (jp : Int) + 1 := by omega
          have n4 : (0 : Int) ≤ (jp : Int) + 1 := by omega
          have n5 : ((jp : Int) + 1).toNat = jp + 1 := by omega
          have n6 : IntKind.i64.wrap (jp : Int) = (jp : Int) := by rw [IntKind.wrap_i64]; omega
          obtain ⟨b0, c0, c1, c2, c3, c4, c5⟩ := HTW.out _ ((Below.refl _ wj).drew)
          dsimp only at c0 c1 c2 c3 c4 c5
          clear hr hx hy
          go_wp2_with fail
          go_region_held3 (fun w' => Below wj.heap.size wj w' ∧ w'.cell? ⟨g, (jp + 1) * 3, none⟩ = some (.string xk) ∧ w'.cell? ⟨g, (jp + 1) * 3 + 1, none⟩ = some (.pointer xs) ∧ w'.cell? ⟨g, (jp + 1) * 3 + 2, none⟩ = some (.pointer xt) ∧ w'.cell? ⟨g, jp * 3, none⟩ = some (.string yk) ∧ w'.cell? ⟨g, jp * 3 + 1, none⟩ = some (.pointer ys) ∧ w'.cell? ⟨g, jp * 3 + 2, none⟩ = some (.pointer yt))
            (first | exact HTW.out _ (b0.trans (by assumption)) | exact HTW.out _ (by assumption) | go_keep)
            ((go_at_call 59; refine (HCC.out _).mono ?_; rintro e w1 ⟨rfl, hb1⟩))
          have hB1 : Below wj.heap.size wj w1 := b0.trans hb1
          have HR1 := Lib.hid (HRJ.out.later hB1)
          have hbj1 : Below B w w1 := hbj.trans (hB1.mono HRJ.out.2.2)
          clear hb1 hB1 b0 c0 c1 c2 c3 c4 c5 HTW HCC HRJ hbj
          by_cases hlv : r < 0
          · have hlt2 := HLT.out.1 hlv
            have HSW := Lib.hid (HR1.out.swapped (jp + 1) jp (by omega) (by omega))
            have HIN : Hid (insInner Pr.lt a jp (swp dj (jp + 1) jp) = insInner Pr.lt a i dk) := by
              show _ = _
              have := insInner_go (lt := Pr.lt) a (jp + 1) dj hja (by simp only [Nat.add_sub_cancel]; rw [HX.out, HY.out]; exact hlt2)
              simp only [Nat.add_sub_cancel] at this
              rw [← HI2.out, this]
            obtain ⟨c0, c1, c2⟩ := HR1.out.cells (jp + 1) (by omega)
            obtain ⟨d0, d1, d2⟩ := HR1.out.cells jp (by omega)
            have f0 := HR1.out.free ((jp + 1) * 3)
            have f1 := HR1.out.free ((jp + 1) * 3 + 1)
            have f2 := HR1.out.free ((jp + 1) * 3 + 2)
            have g0 := HR1.out.free (jp * 3)
            have g1 := HR1.out.free (jp * 3 + 1)
            have g2 := HR1.out.free (jp * 3 + 2)
            rw [HX.out] at c0 c1 c2 HSW
            rw [HY.out] at d0 d1 d2 HSW
            dsimp only at c0 c1 c2 d0 d1 d2
            clear HR1 HX HY HLT HOUT HI2 hlt2
            go_wp2_with fail
            go_region
            go_wp2_with fail
            go_roundw
            case rel => exact ⟨jp, _, by omega, by omega, by go_num, HSW.out.1.drew, HIN, hbj1.trans HSW.out.2.drew⟩
            case measure => simp [intOf]
          · have HN : Hid (insOuter Pr.lt a b (i + 1) dj = insOuter Pr.lt a b (a + 1) d) := HOUT.out (Or.inr (by
              simp only [Nat.add_sub_cancel]
              rw [HX.out, HY.out]
              cases hq : Pr.lt _ _ with
              | false => rfl
              | true => exact (hlv (HLT.out.2 hq)).elim))
            clear HX HY HLT HOUT HI2
            go_wp2_with fail
            go_roundw
            case rel => exact ⟨i + 1, dj, by omega, by omega, by go_num, HR1, HN, hbj1⟩
            case measure => simp [intOf]; omega
        · have n0 : decide ((j : Int) > (a : Int)) = false := decide_eq_false (by omega)
          have n1 : ¬ (a : Int) < (j : Int) := by omega
          have HN : Hid (insOuter Pr.lt a b (i + 1) dj = insOuter Pr.lt a b (a + 1) d) := HOUT.out (Or.inl (by omega))
          clear HOUT HI2
          go_wp2_with fail
          go_quiet (fail)
          go_wp2_with fail
          go_roundw
          case rel => exact ⟨i + 1, dj, by omega, by omega, by go_num, HRJ.out.later (below_drewN (Below.refl _ _) _), HN, below_drewN hbj _⟩
          case measure => simp [intOf]; omega
    · have hib2 : ¬ (i : Int) < (b : Int) := by omega
      go_wp2_with fail
      go_end0
      have e : dk = insertionSort Pr.lt d a b := by
        unfold insertionSort
        rw [← HO.out, insOuter_stop _ _ _ _ _ hlt]
      refine ⟨rfl, dk, HR.out, ?_, hbw⟩
      rw [e]
      exact HI.out
end Go.Proofs.Ytpnpgjjbincigaa

namespace Go.Proofs.Ytpnpgjjbincigaa
open Go.RowKit Go.Sort

set_option maxHeartbeats 1600000 in
set_option maxRecDepth 100000 in
theorem rotate_is (B g n c : Nat) (f : Value) (d : Array Pr) (a m b : Nat) (w : World) (h : PrRow B g n c d w) (ha : a < m) (hm : m < b) (hb : b ≤ n) (hl : n ≤ 1000000000) :
    Calls Try.prog 106 #[.slice (some ⟨g, 0, none⟩) n c, .int .i64 a, .int .i64 m, .int .i64 b, f] w fun e w' =>
      e = .returned (.tuple #[]) ∧ ∃ d', PrRow B g n c d' w' ∧ Stab.at' d' = Stab.rot (Stab.at' d) a m b ∧ PermIn a b d d' ∧ Below B w w' := by
  have H := Lib.hid h
  have hsz := h.2.1
  have HS := Lib.hid (fun (dk : Array Pr) (x y k : Nat) (W : World) (h : PrRow B g n c dk W) (h1 : x + k ≤ y) (h2 : y + k ≤ n) => swapr_is B g n c f dk x y k W h h1 h2 hl)
  have z1 : ((m : Int) - (a : Int)) = ((m - a : Nat) : Int) := by omega
  have z2 : ((b : Int) - (m : Int)) = ((b - m : Nat) : Int) := by omega
  have z3 : IntKind.i64.wrap ((m : Int) - (a : Int)) = ((m - a : Nat) : Int) := by rw [IntKind.wrap_i64]; omega
  have z4 : IntKind.i64.wrap ((b : Int) - (m : Int)) = ((b - m : Nat) : Int) := by rw [IntKind.wrap_i64]; omega
  clear h
  go_enter Try.func106, Try.ntmps106
  go_wp2_with fail
  go_loopw [10, 11] (fun iv jv wr => ∃ (i j : Nat) (dk : Array Pr), 0 < i ∧ 0 < j ∧ i + a ≤ m ∧ m + j ≤ b ∧ iv = .int .i64 (i : Int) ∧ jv = .int .i64 (j : Int) ∧ Hid (PrRow B g n c dk wr) ∧ Hid (Stab.rot (Stab.at' dk) (m - i) m (m + j) = Stab.rot (Stab.at' d) a m b) ∧ Hid (PermIn a b d dk) ∧ Below B w wr) (fun iv jv _ => (intOf iv).toNat + (intOf jv).toNat)
  case atStart =>
    refine ⟨m - a, b - m, d, by omega, by omega, by omega, by omega, by first | rfl | rw [z1] | rw [z3], by first | rfl | rw [z2] | rw [z4], H, ?_, permIn_refl _ _ _, Below.refl _ _⟩
    show Stab.rot (Stab.at' d) (m - (m - a)) m (m + (b - m)) = _
    rw [show m - (m - a) = a by omega, show m + (b - m) = b by omega]
  case round =>
    clear z1 z2 z3 z4
    obtain ⟨i, j, dk, i0, j0, hi, hj, rfl, rfl, HR, HA, HP, hbw⟩ := hrel
    have i1 : (0 : Int) ≤ (i : Int) := by omega
    have j1 : (0 : Int) ≤ (j : Int) := by omega
    have hs := HR.out.2.1
    rcases Nat.lt_trichotomy i j with q | q | q
    · -- i < j
      have t1 : ((i : Int) == (j : Int)) = false := beq_eq_false_iff_ne.2 (by omega)
      have t2 : ¬ (i : Int) = (j : Int) := by omega
      have t3 : ¬ (j : Int) < (i : Int) := by omega
      have e1 : ((m - i : Nat) : Int) = (m : Int) - (i : Int) := by omega
      have e2 : ((m + j - i : Nat) : Int) = (m : Int) + (j : Int) - (i : Int) := by omega
      have w1 : IntKind.i64.wrap ((m : Int) - (i : Int)) = (m : Int) - (i : Int) := by rw [IntKind.wrap_i64]; omega
      have w2 : IntKind.i64.wrap ((m : Int) + (j : Int)) = (m : Int) + (j : Int) := by rw [IntKind.wrap_i64]; omega
      have w3 : IntKind.i64.wrap ((m : Int) + (j : Int) - (i : Int)) = (m : Int) + (j : Int) - (i : Int) := by rw [IntKind.wrap_i64]; omega
      have w4 : IntKind.i64.wrap ((j : Int) - (i : Int)) = (j : Int) - (i : Int) := by rw [IntKind.wrap_i64]; omega
      have C0 := HS.out dk (m - i) (m + j - i) i wr HR.out (by omega) (by omega)
      rw [e1, e2] at C0
      have HC := Lib.hid C0
      clear C0 e1 e2
      go_wp2_with (go_at_call 113; refine HC.out.mono ?_)
      first | rintro e wy rfl d' hR' hA' hP' hb' | rintro e wy ⟨rfl, d', hR', hA', hP', hb'⟩
      have HR2 := Lib.hid hR'
      have HA2 : Hid (Stab.rot (Stab.at' d') (m - i) m (m + (j - i)) = Stab.rot (Stab.at' d) a m b) := by
        show _ = _
        rw [hA', ← HA.out]
        exact Stab.rot_lt _ m i j q (by omega)
      have HP2 : Hid (PermIn a b d d') := permIn_trans _ _ _ _ _ HP.out (permIn_mono _ _ _ _ _ _ (by omega) (by omega) (by omega) hP')
      clear hR' hA' hP' HC HR HA HP
      go_wp2_with fail
      go_roundw
      case rel => exact ⟨i, j - i, d', i0, by omega, hi, by omega, rfl, by rw [show ((j - i : Nat) : Int) = (j : Int) - (i : Int) by omega], HR2, HA2, HP2, hbw.trans hb'⟩
      case measure => simp [intOf]; omega
    · subst q
      have t1 : ((i : Int) == (i : Int)) = true := beq_iff_eq.2 rfl
      have e1 : ((m - i : Nat) : Int) = (m : Int) - (i : Int) := by omega
      have w1 : IntKind.i64.wrap ((m : Int) - (i : Int)) = (m : Int) - (i : Int) := by rw [IntKind.wrap_i64]; omega
      have C0 := HS.out dk (m - i) m i wr HR.out (by omega) (by omega)
      rw [e1] at C0
      have HC := Lib.hid C0
      clear C0 e1
      go_wp2_with (go_at_call 113; refine HC.out.mono ?_)
      first | rintro e wy rfl d' hR' hA' hP' hb' | rintro e wy ⟨rfl, d', hR', hA', hP', hb'⟩
      have HA2 : Hid (Stab.at' d' = Stab.rot (Stab.at' d) a m b) := by
        show _ = _
        rw [hA', ← HA.out]
        exact Stab.rot_eq _ m i (by omega)
      have HP2 : Hid (PermIn a b d d') := permIn_trans _ _ _ _ _ HP.out (permIn_mono _ _ _ _ _ _ (by omega) (by omega) (by omega) hP')
      have HR2 := Lib.hid hR'
      clear hR' hA' hP' HC HR HA HP
      go_wp2_with fail
      go_end0
      exact ⟨rfl, d', HR2.out, HA2.out, HP2.out, hbw.trans hb'⟩
    · have t1 : ((i : Int) == (j : Int)) = false := beq_eq_false_iff_ne.2 (by omega)
      have t2 : ¬ (i : Int) = (j : Int) := by omega
      have t3 : (j : Int) < (i : Int) := by omega
      have e1 : ((m - i : Nat) : Int) = (m : Int) - (i : Int) := by omega
      have w1 : IntKind.i64.wrap ((m : Int) - (i : Int)) = (m : Int) - (i : Int) := by rw [IntKind.wrap_i64]; omega
      have w4 : IntKind.i64.wrap ((i : Int) - (j : Int)) = (i : Int) - (j : Int) := by rw [IntKind.wrap_i64]; omega
      have C0 := HS.out dk (m - i) m j wr HR.out (by omega) (by omega)
      rw [e1] at C0
      have HC := Lib.hid C0
      clear C0 e1
      go_wp2_with (go_at_call 113; refine HC.out.mono ?_)
      first | rintro e wy rfl d' hR' hA' hP' hb' | rintro e wy ⟨rfl, d', hR', hA', hP', hb'⟩
      have HR2 := Lib.hid hR'
      have HA2 : Hid (Stab.rot (Stab.at' d') (m - (i - j)) m (m + j) = Stab.rot (Stab.at' d) a m b) := by
        show _ = _
        rw [hA', ← HA.out]
        exact Stab.rot_gt _ m i j q (by omega)
      have HP2 : Hid (PermIn a b d d') := permIn_trans _ _ _ _ _ HP.out (permIn_mono _ _ _ _ _ _ (by omega) (by omega) (by omega) hP')
      clear hR' hA' hP' HC HR HA HP
      go_wp2_with fail
      go_roundw
      case rel => exact ⟨i - j, j, d', by omega, j0, by omega, hj, by rw [show ((i - j : Nat) : Int) = (i : Int) - (j : Int) by omega], rfl, HR2, HA2, HP2, hbw.trans hb'⟩
      case measure => simp [intOf]; omega
end Go.Proofs.Ytpnpgjjbincigaa
