/- Plain laws of LabelWrong: labels with one defect behind right ones, and too many labels. No program in sight. -/
import Derived.Test.YtflmojjpdmbnaaaL4Z3
namespace Go.Proofs.Ytflmojjpdmbnaaa

def Lab.lastOr (p : Option Lab.L) : List Lab.L → Option Lab.L
  | [] => p
  | x :: r => Lab.lastOr (some x) r
theorem Lab.chk_append (A B : List Lab.L) : ∀ (k : Nat) (p : Option Lab.L), (Lab.chk k p A).2 = 0 → Lab.chk k p (A ++ B) = Lab.chk (k + A.length) (Lab.lastOr p A) B := by
  induction A with
  | nil => intro k p _; rfl
  | cons x r ih =>
    intro k p h
    unfold Lab.chk at h
    split at h
    · rename_i h1
      show (if Lab.oneAt p x = 0 then Lab.chk (k + 1) (some x) (r ++ B) else ((k : Int), Lab.oneAt p x)) = Lab.chk (k + (r.length + 1)) (Lab.lastOr (some x) r) B
      rw [if_pos h1, ih (k + 1) (some x) h, show k + 1 + r.length = k + (r.length + 1) by omega]
    · rename_i h1
      exact absurd h h1
theorem Lab.right_chk (A : List Lab.L) (h : Lab.right A = true) : (Lab.chk 0 none A).2 = 0 := by
  unfold Lab.right Lab.check at h
  split at h
  · simp at h
  · simpa using h
theorem Lab.check_bad (A : List Lab.L) (hA : Lab.Good A) (bad : Lab.L) (c : Int) (hc : c ≠ 0) (h : Lab.oneAt (Lab.lastOr none A) bad = c) : Lab.check (A ++ [bad]) = ((A.length : Int), c) := by
  unfold Lab.check
  have hl := hA.length
  rw [if_neg (by rw [List.length_append]; simp only [List.length_cons, List.length_nil]; omega), Lab.chk_append A [bad] 0 none (Lab.right_chk A hA.r)]
  unfold Lab.chk
  rw [if_neg (by rw [h]; exact hc), h, Nat.zero_add]
theorem Lab.oneAll_append (A B : List Lab.L) (h : ∀ x ∈ A, Lab.one x = 0) : Lab.oneAll (A ++ B) = Lab.oneAll B := by
  induction A with
  | nil => rfl
  | cons x r ih =>
    show Lab.oneAll (x :: (r ++ B)) = _
    unfold Lab.oneAll
    rw [if_pos (h x List.mem_cons_self)]
    rw [ih fun y hy => h y (List.mem_cons_of_mem _ hy)]
    cases B <;> rfl
theorem Lab.oneAll_single (x : Lab.L) : Lab.oneAll [x] = Lab.one x := by
  unfold Lab.oneAll
  split
  · rename_i h; rw [h]; rfl
  · rfl
/-- a defect, with all that is told of it -/
structure Lab.Bad (A : List Lab.L) (bad : Lab.L) (want : Int) : Prop where
  fit : bad.n.size ≤ 2000 ∧ bad.v.size ≤ 2000
  ne : want ≠ 0
  chk : Lab.check (A ++ [bad]) = ((A.length : Int), want)
  res : ∃ rf f rg g, Lab.of (A ++ [bad]) = (rf, f) ∧ Lab.set A [bad] = (rg, g) ∧ ((want = 42 ∧ g = 0 ∧ (f = 43 ∧ (Lab.bs bad.v).isEmpty = false ∨ (f == 43) = false ∧ (Lab.bs bad.v).isEmpty = true)) ∨ ((want == 42) = false ∧ f = want ∧ g = want))
theorem Lab.Bad.right {A : List Lab.L} {bad : Lab.L} {want : Int} (h : Lab.Bad A bad want) : Lab.right (A ++ [bad]) = false := by
  unfold Lab.right
  rw [h.chk]
  simpa using h.ne
theorem Lab.bad_one (A : List Lab.L) (hA : Lab.Good A) (bad : Lab.L) (c : Int) (hc : c = 40 ∨ c = 41) (h : Lab.one bad = c) (hf : bad.n.size ≤ 2000 ∧ bad.v.size ≤ 2000) : Lab.Bad A bad c := by
  have h0 : c ≠ 0 := by omega
  refine ⟨hf, h0, Lab.check_bad A hA bad c h0 (Lab.oneAt_bad _ _ _ h h0), [], c, [], c, ?_, ?_, .inr ⟨by simp; omega, rfl, rfl⟩⟩
  · unfold Lab.of
    rw [Lab.oneAll_append A [bad] (fun x hx => (hA.one x hx).1), Lab.oneAll_single, h, if_neg h0]
  · unfold Lab.set
    rw [hA.r, if_pos rfl, Lab.oneAll_single, h, if_neg h0]
theorem Lab.set_ok (A : List Lab.L) (hA : Lab.Good A) (bad : Lab.L) (h : Lab.one bad = 0) : Lab.set A [bad] = (Lab.tabL A [bad], 0) := by
  unfold Lab.set Lab.cut64
  have := Lab.tabL_length A [bad]
  have hl := hA.length
  simp only [List.length_cons, List.length_nil] at this
  rw [hA.r, if_pos rfl, Lab.oneAll_single, h, if_pos rfl, if_neg (by omega)]
theorem Lab.bad_empty (A : List Lab.L) (hA : Lab.Good A) : Lab.Bad A ⟨⟨#[122]⟩, ⟨#[]⟩⟩ 42 := by
  have h1 : Lab.one ⟨⟨#[122]⟩, ⟨#[]⟩⟩ = 0 := by decide +kernel
  have hz : Lab.bs ⟨#[122]⟩ ∉ Lab.nameL.map Lab.bs := by decide +kernel
  refine ⟨by decide, by decide, Lab.check_bad A hA _ 42 (by decide) (Lab.oneAt_empty _ _ h1 rfl), Lab.full (Lab.srt (A ++ [⟨⟨#[122]⟩, ⟨#[]⟩⟩])), 0, _, 0, ?_, Lab.set_ok A hA _ h1, .inl ⟨rfl, rfl, .inr ⟨rfl, rfl⟩⟩⟩
  unfold Lab.of
  rw [Lab.oneAll_append A _ (fun x hx => (hA.one x hx).1), Lab.oneAll_single, h1, if_pos rfl, if_pos, if_neg]
  · have h2 := List.length_filter_le (fun x : Lab.L => !(Lab.bs x.v).isEmpty) (Lab.srt (A ++ [⟨⟨#[122]⟩, ⟨#[]⟩⟩]))
    rw [Lab.srt_length, List.length_append] at h2
    have := hA.length
    unfold Lab.full
    simp only [List.length_cons, List.length_nil] at h2
    omega
  · unfold Lab.names
    rw [List.map_append, List.nodup_append]
    refine ⟨hA.nodup, by simp, fun a ha b hb e => ?_⟩
    obtain rfl : b = Lab.bs ⟨#[122]⟩ := by simpa using hb
    subst e
    obtain ⟨x, hx, e⟩ := List.mem_map.1 ha
    exact hz (by rw [← e]; exact hA.f x hx)
theorem Lab.lastOr_last (A : List Lab.L) (h : 0 < A.length) : ∀ p, Lab.lastOr p A = some (A[A.length - 1]'(by omega)) := by
  induction A with
  | nil => simp at h
  | cons x r ih =>
    intro p
    show Lab.lastOr (some x) r = _
    cases r with
    | nil => rfl
    | cons y r2 =>
      rw [ih (by simp)]
      simp
theorem Lab.bad_twice (A : List Lab.L) (hA : Lab.Good A) (h : 0 < A.length) : Lab.Bad A ⟨(A[A.length - 1]'(by omega)).n, ⟨#[49]⟩⟩ 42 := by
  obtain ⟨y, hy⟩ : ∃ y, A[A.length - 1]'(by omega) = y := ⟨_, rfl⟩
  have hym : y ∈ A := by rw [← hy]; exact List.getElem_mem _
  have hy1 := hA.one y hym
  have hyf := Lab.one_fit y hy1.1
  rw [hy]
  have h1 : Lab.one ⟨y.n, ⟨#[49]⟩⟩ = 0 := by
    have h2 := hy1.1
    unfold Lab.one at h2 ⊢
    split at h2
    · rename_i h3
      rw [if_pos h3]
      exact if_pos (show Lab.value [49] = true by decide +kernel)
    · simp at h2
  refine ⟨⟨by show y.n.size ≤ _; omega, by show (1 : Nat) ≤ 2000; omega⟩, by decide, Lab.check_bad A hA _ 42 (by decide) (by rw [Lab.lastOr_last A h, hy]; exact Lab.oneAt_le y _ h1 (show ([49] : List UInt8) ≠ [] by decide) (List.le_refl _)), [], 43, _, 0, ?_, Lab.set_ok A hA _ h1, .inl ⟨rfl, rfl, .inl ⟨rfl, rfl⟩⟩⟩
  unfold Lab.of
  rw [Lab.oneAll_append A _ (fun x hx => (hA.one x hx).1), Lab.oneAll_single, h1, if_pos rfl, if_neg]
  unfold Lab.names
  rw [List.map_append, List.nodup_append]
  intro hn
  exact hn.2.2 _ (List.mem_map.2 ⟨y, hym, rfl⟩) _ (by simp) rfl

/-- too many labels -/
def Lab.zz (i : Nat) : Lab.L := ⟨⟨#[122, 122]⟩ ++ ⟨(Lib.repeatL [122] i).toArray⟩, ⟨#[49]⟩⟩
theorem Lab.rep_z (i : Nat) : Lib.repeatL [122] i = List.replicate i (122 : UInt8) := by
  induction i with
  | zero => rfl
  | succ i ih =>
    unfold Lib.repeatL
    rw [ih]
    rfl
theorem Lab.zz_bs (i : Nat) : Lab.bs (Lab.zz i).n = List.replicate (i + 2) (122 : UInt8) := by
  unfold Lab.zz
  rw [Lab.bs_append, Lab.rep_z]
  rfl
theorem Lab.zz_ok (f : Bool) (n : Nat) : Lab.bytesOk 95 f (List.replicate n (122 : UInt8)) = true := by
  induction n generalizing f with
  | zero => rfl
  | succ n ih =>
    show Lab.bytesOk 95 f (122 :: List.replicate n (122 : UInt8)) = true
    unfold Lab.bytesOk
    rw [ih false]
    cases f <;> rfl
theorem Lab.zz_one (i : Nat) (h : i ≤ 100) : Lab.one (Lab.zz i) = 0 := by
  unfold Lab.one
  rw [Lab.zz_bs, if_pos, if_pos (by show Lab.value [49] = true; decide +kernel)]
  rw [Lab.named_mid 95 _ (by rw [List.length_replicate]; omega) (by rw [List.length_replicate]; omega)]
  exact Lab.zz_ok true _
def Lab.ext (la k : Nat) : List Lab.L := (List.range k).map fun i => Lab.zz (la + i)
theorem Lab.ext_succ (la k : Nat) : Lab.ext la (k + 1) = Lab.ext la k ++ [Lab.zz (la + k)] := by
  unfold Lab.ext
  rw [List.range_succ, List.map_append]
  rfl
theorem Lab.ext_length (la k : Nat) : (Lab.ext la k).length = k := by simp [Lab.ext]
theorem Lab.many_ok (A : List Lab.L) (hA : Lab.Good A) (k : Nat) (hk : A.length + k = 65) :
    Lab.check (A ++ Lab.ext A.length k) = (-1, 5) ∧ Lab.of (A ++ Lab.ext A.length k) = ([], 5) ∧ Lab.right (A ++ Lab.ext A.length k) = false ∧ Lab.set A (Lab.ext A.length k) = ([], 5) ∧ ∀ x ∈ A ++ Lab.ext A.length k, Lab.one x = 0 := by
  have hl : (A ++ Lab.ext A.length k).length = 65 := by rw [List.length_append, Lab.ext_length, hk]
  have h1 : ∀ x ∈ Lab.ext A.length k, Lab.one x = 0 ∧ Lab.bs x.v ≠ [] := fun x hx => by
    unfold Lab.ext at hx
    obtain ⟨i, hi, rfl⟩ := List.mem_map.1 hx
    rw [List.mem_range] at hi
    exact ⟨Lab.zz_one _ (by omega), show ([49] : List UInt8) ≠ [] by decide⟩
  have h2 : ∀ x ∈ A ++ Lab.ext A.length k, Lab.one x = 0 ∧ Lab.bs x.v ≠ [] := fun x hx => by
    rw [List.mem_append] at hx
    exact hx.elim (hA.one x) (h1 x)
  have hn : (Lab.names (A ++ Lab.ext A.length k)).Nodup := by
    unfold Lab.names
    rw [List.map_append, List.nodup_append]
    refine ⟨hA.nodup, ?_, fun a ha b hb e => ?_⟩
    · unfold Lab.ext
      rw [List.map_map]
      unfold List.Nodup
      rw [List.pairwise_map]
      refine List.Pairwise.imp (fun {i j} hij e => ?_) (List.nodup_range (n := k))
      have e2 : Lab.bs (Lab.zz (A.length + i)).n = Lab.bs (Lab.zz (A.length + j)).n := e
      rw [Lab.zz_bs, Lab.zz_bs] at e2
      have := congrArg List.length e2
      rw [List.length_replicate, List.length_replicate] at this
      exact hij (by omega)
    · obtain ⟨x, hx, rfl⟩ := List.mem_map.1 ha
      unfold Lab.ext at hb
      rw [List.map_map] at hb
      obtain ⟨i, _, rfl⟩ := List.mem_map.1 hb
      have hno : ∀ z ∈ Lab.nameL.map Lab.bs, z.head? ≠ some 122 := by decide +kernel
      refine hno _ (hA.f x hx) ?_
      rw [e]
      show (Lab.bs (Lab.zz (A.length + i)).n).head? = _
      rw [Lab.zz_bs]
      rfl
  have hc : Lab.check (A ++ Lab.ext A.length k) = (-1, 5) := by
    unfold Lab.check
    rw [if_pos (by omega)]
  have hfull : Lab.full (Lab.srt (A ++ Lab.ext A.length k)) = Lab.srt (A ++ Lab.ext A.length k) := by
    unfold Lab.full
    rw [List.filter_eq_self]
    intro x hx
    have := (h2 x ((Lab.srt_perm _).mem_iff.1 hx)).2
    simpa using this
  refine ⟨hc, ?_, by unfold Lab.right; rw [hc]; rfl, ?_, fun x hx => (h2 x hx).1⟩
  · unfold Lab.of
    rw [if_pos (Lab.oneAll_of _ fun x hx => (h2 x hx).1), if_pos hn, hfull, if_pos (by rw [Lab.srt_length]; omega)]
  · unfold Lab.set Lab.cut64 Lab.tabL
    rw [hA.r, if_pos rfl, if_pos (Lab.oneAll_of _ fun x hx => (h1 x hx).1), Lab.puts_nil A hA.r, Lab.puts_append _ A hn (fun x hx => (h1 x hx).2), if_pos (by rw [Lab.srt_length]; omega)]
end Go.Proofs.Ytflmojjpdmbnaaa
