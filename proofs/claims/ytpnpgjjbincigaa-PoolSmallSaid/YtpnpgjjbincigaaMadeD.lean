/- Plain functions: the right labels that some labels are. No program in sight. Plain functions: the labels that Made makes, step by step. No program in sight. -/
import Derived.Test.YtpnpgjjbincigaaLabM
namespace Go.Proofs.Ytpnpgjjbincigaa.Lab

def ins (x : L) : List L → List L
  | [] => [x]
  | y :: r => if bs x.n ≤ bs y.n then x :: y :: r else y :: ins x r
/-- labels by their names -/
def srt : List L → List L
  | [] => []
  | x :: r => ins x (srt r)
def names (l : List L) : List (List UInt8) := l.map fun x => bs x.n
/-- the first error of labels by themselves -/
def oneAll : List L → Int
  | [] => 0
  | x :: r => if one x = 0 then oneAll r else one x
/-- labels with values -/
def full (l : List L) : List L := l.filter fun x => !(bs x.v).isEmpty
def of (l : List L) : List L × Int :=
  if oneAll l = 0 then (if (names l).Nodup then (if 64 < (full (srt l)).length then ([], 5) else (full (srt l), 0)) else ([], 43)) else ([], oneAll l)

theorem ins_perm (x : L) (l : List L) : (ins x l).Perm (x :: l) := by
  induction l with
  | nil => exact List.Perm.refl _
  | cons y r ih =>
    unfold ins
    split
    · exact List.Perm.refl _
    · exact (ih.cons y).trans (List.Perm.swap x y r)
theorem srt_perm (l : List L) : (srt l).Perm l := by
  induction l with
  | nil => exact List.Perm.refl _
  | cons x r ih => exact (ins_perm x _).trans (ih.cons x)
theorem srt_length (l : List L) : (srt l).length = l.length := (srt_perm l).length_eq
def Asc (l : List L) : Prop := l.Pairwise fun a b => bs a.n ≤ bs b.n
def Strict (l : List L) : Prop := l.Pairwise fun a b => bs a.n < bs b.n
theorem le_tr {a b c : List UInt8} (h1 : a ≤ b) (h2 : b ≤ c) : a ≤ c := List.le_trans h1 h2
theorem le_or (a b : List UInt8) : a ≤ b ∨ b ≤ a := List.le_total a b
theorem lt_of_le_ne {a b : List UInt8} (h1 : a ≤ b) (h2 : a ≠ b) : a < b := by
  rcases List.le_iff_lt_or_eq.1 h1 with h | h
  · exact h
  · exact absurd h h2
theorem ins_asc (x : L) (l : List L) (h : Asc l) : Asc (ins x l) := by
  induction l with
  | nil => exact List.pairwise_singleton _ _
  | cons y r ih =>
    unfold Asc at h
    rw [List.pairwise_cons] at h
    unfold ins
    split
    · rename_i hxy
      refine List.pairwise_cons.2 ⟨fun z hz => ?_, List.pairwise_cons.2 h⟩
      rw [List.mem_cons] at hz
      rcases hz with rfl | hz
      · exact hxy
      · exact le_tr hxy (h.1 z hz)
    · rename_i hxy
      have hyx : bs y.n ≤ bs x.n := (le_or _ _).resolve_left hxy
      refine List.pairwise_cons.2 ⟨fun z hz => ?_, ih h.2⟩
      have hz2 := (ins_perm x r).mem_iff.1 hz
      rw [List.mem_cons] at hz2
      rcases hz2 with rfl | hz2
      · exact hyx
      · exact h.1 z hz2
theorem srt_asc (l : List L) : Asc (srt l) := by
  induction l with
  | nil => exact List.Pairwise.nil
  | cons x r ih => exact ins_asc x _ ih
theorem names_perm {a b : List L} (h : a.Perm b) : (names a).Perm (names b) := h.map _
theorem strict_of_asc {l : List L} (h : Asc l) (hn : (names l).Nodup) : Strict l := by
  induction l with
  | nil => exact List.Pairwise.nil
  | cons x r ih =>
    unfold Asc at h
    rw [List.pairwise_cons] at h
    have hn2 : (bs x.n :: names r).Nodup := hn
    rw [List.nodup_cons] at hn2
    refine List.pairwise_cons.2 ⟨fun z hz => ?_, ih h.2 hn2.2⟩
    refine lt_of_le_ne (h.1 z hz) fun e => hn2.1 ?_
    rw [e]
    exact List.mem_map.2 ⟨z, hz, rfl⟩
theorem nodup_of_strict {l : List L} (h : Strict l) : (names l).Nodup := by
  induction l with
  | nil => exact List.Pairwise.nil
  | cons x r ih =>
    unfold Strict at h
    rw [List.pairwise_cons] at h
    show (bs x.n :: names r).Nodup
    rw [List.nodup_cons]
    refine ⟨fun hm => ?_, ih h.2⟩
    obtain ⟨z, hz, e⟩ := List.mem_map.1 hm
    have := h.1 z hz
    rw [e] at this
    exact List.lt_irrefl _ this
theorem strict_uniq : ∀ (a b : List L), a.Perm b → Strict a → Strict b → a = b
  | [], b, h, _, _ => (List.nil_perm.1 h).symm
  | x :: a, [], h, _, _ => by have := List.perm_nil.1 h; simp at this
  | x :: a, y :: b, h, ha, hb => by
    unfold Strict at ha hb
    rw [List.pairwise_cons] at ha hb
    have hx : x ∈ y :: b := h.mem_iff.1 List.mem_cons_self
    have hy : y ∈ x :: a := h.mem_iff.2 List.mem_cons_self
    have e : x = y := by
      rw [List.mem_cons] at hx hy
      rcases hx with rfl | hx
      · rfl
      · rcases hy with rfl | hy
        · rfl
        · exact absurd (List.lt_trans (ha.1 y hy) (hb.1 x hx)) (List.lt_irrefl _)
    subst e
    rw [strict_uniq a b ((List.perm_cons x).1 h) ha.2 hb.2]
/-- whatever sorts labels of different names, it is this -/
theorem srt_uniq {d l : List L} (hp : d.Perm l) (hs : Strict d) : d = srt l := by
  have hn := nodup_of_strict hs
  have hl : (names (srt l)).Nodup := ((names_perm (hp.trans (srt_perm l).symm)).nodup_iff).1 hn
  exact strict_uniq d (srt l) (hp.trans (srt_perm l).symm) hs (strict_of_asc (srt_asc l) hl)
/-- names one behind the other that differ, in order -/
theorem strict_of_steps (d : List L) (h : ∀ i (h1 : i + 1 < d.length), bs d[i].n < bs d[i + 1].n) : Strict d := by
  unfold Strict
  rw [List.pairwise_iff_getElem]
  intro i j hi hj hij
  obtain ⟨k, rfl⟩ : ∃ k, j = i + 1 + k := ⟨j - i - 1, by omega⟩
  clear hij
  induction k with
  | zero => exact h i hj
  | succ k ih => exact List.lt_trans (ih (by omega)) (h (i + 1 + k) hj)
theorem oneAll_drop (l : List L) (k : Nat) (h : k < l.length) : oneAll (l.drop k) = if one l[k] = 0 then oneAll (l.drop (k + 1)) else one l[k] := by
  rw [List.drop_eq_getElem_cons h]
  rfl
end Go.Proofs.Ytpnpgjjbincigaa.Lab
namespace Go.Proofs.Ytpnpgjjbincigaa.Lab
/-- a label in small numbers -/
structure Sm where
  a : Nat
  b : Nat
def nameL : List ByteArray := [⟨#[97]⟩, ⟨#[98]⟩, ⟨#[99]⟩, ⟨#[106, 111, 98]⟩, ⟨#[105, 110, 115, 116, 97, 110, 99, 101]⟩, ⟨#[95, 95, 110, 97, 109, 101, 95, 95]⟩, ⟨#[95, 95, 97, 100, 100, 114, 101, 115, 115, 95, 95]⟩, ⟨#[95, 95, 109, 101, 116, 97, 95, 120]⟩, ⟨#[101, 120, 112, 111, 114, 116, 101, 100, 95, 97]⟩, ⟨#[101, 120, 112, 111, 114, 116, 101, 100, 95, 98]⟩, ⟨#[101, 120, 112, 111, 114, 116, 101, 100, 95, 106, 111, 98]⟩, ⟨#[101, 120, 112, 111, 114, 116, 101, 100, 95, 101, 120, 112, 111, 114, 116, 101, 100, 95, 97]⟩, ⟨#[108, 101]⟩, ⟨#[65]⟩, ⟨#[95]⟩, ⟨#[120, 57]⟩]
def valueL : List ByteArray := [⟨#[]⟩, ⟨#[49]⟩, ⟨#[50]⟩, ⟨#[195, 169]⟩, ⟨#[117, 112]⟩, ⟨#[97, 32, 98]⟩, ⟨#[10]⟩, ⟨#[57]⟩]
def jobL : List ByteArray := [⟨#[97]⟩, ⟨#[97, 98]⟩, ⟨#[98]⟩, ⟨#[195, 169]⟩, ⟨#[119, 101, 98]⟩, ⟨#[97, 32, 98]⟩, ⟨#[48]⟩, ⟨#[65]⟩]
def made1 (x : Sm) : L := ⟨nameL.getD (x.a % 16) ⟨#[]⟩, valueL.getD (x.b % 8) ⟨#[]⟩⟩
def push1 (out : List L) (y : L) : List L := (out.eraseP fun z => bs z.n == bs y.n) ++ [y]
def madeF (out : List L) : List Sm → List L
  | [] => out
  | x :: r => madeF (push1 out (made1 x)) r
def made (xs : List Sm) : List L := madeF [] (xs.take 40)

/-- where the first one goes -/
theorem erase_at (p : L → Bool) (l : List L) : ∀ (i : Nat) (hi : i < l.length), (∀ j (hj : j < l.length), j < i → p l[j] = false) → p l[i] = true → l.eraseP p = l.take i ++ l.drop (i + 1) := by
  induction l with
  | nil => intro i hi; simp at hi
  | cons x r ih =>
    intro i hi hno hyes
    cases i with
    | zero =>
      have hx : p x = true := hyes
      rw [List.eraseP_cons_of_pos hx]
      simp
    | succ i =>
      have hx : p x = false := hno 0 (by simp) (by omega)
      rw [List.eraseP_cons_of_neg (by simp [hx]), ih i (by simpa using hi) (fun j hj hji => hno (j + 1) (by simpa using hj) (by omega)) hyes]
      simp
theorem erase_none (p : L → Bool) (l : List L) (h : ∀ j (hj : j < l.length), p l[j] = false) : l.eraseP p = l := by
  refine List.eraseP_of_forall_not fun a ha => ?_
  obtain ⟨j, hj, rfl⟩ := List.getElem_of_mem ha
  simp [h j hj]
theorem madeF_drop (out : List L) (xs : List Sm) (k : Nat) (h : k < xs.length) : madeF out (xs.drop k) = madeF (push1 out (made1 xs[k])) (xs.drop (k + 1)) := by
  rw [List.drop_eq_getElem_cons h]
  rfl
theorem push1_length (out : List L) (y : L) : (push1 out y).length ≤ out.length + 1 := by
  unfold push1
  rw [List.length_append]
  have := List.length_eraseP_le (p := fun z => bs z.n == bs y.n) (l := out)
  simp only [List.length_cons, List.length_nil]
  omega
end Go.Proofs.Ytpnpgjjbincigaa.Lab
