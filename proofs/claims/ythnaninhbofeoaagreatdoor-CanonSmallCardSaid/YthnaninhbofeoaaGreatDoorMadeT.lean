/- Plain laws: the labels and targets that Made makes. No program in sight. Contract of the law's own maker: Made (a target in small numbers). -/
import Derived.Test.YthnaninhbofeoaaGreatDoorOneP
import Derived.Test.YthnaninhbofeoaaGreatDoorMadeD
import Derived.Test.YthnaninhbofeoaaGreatDoorMade
import Derived.Test.YthnaninhbofeoaaGreatDoorOfC
import Derived.Test.YthnaninhbofeoaaGreatDoorKeyR
namespace Go.Proofs.YthnaninhbofeoaaGreatDoor.Lab

theorem made1_one (x : Sm) : one (made1 x) = 0 := by
  have h : ∀ i, i < 16 → ∀ j, j < 8 → one ⟨nameL.getD i ⟨#[]⟩, valueL.getD j ⟨#[]⟩⟩ = 0 := by decide +kernel
  exact h _ (Nat.mod_lt _ (by omega)) _ (Nat.mod_lt _ (by omega))
theorem job_ok (k : Nat) (h : k < 8) : Can.job (bs (jobL.getD k ⟨#[]⟩)) = true := by
  have h2 : ∀ k, k < 8 → Can.job (bs (jobL.getD k ⟨#[]⟩)) = true := by decide +kernel
  exact h2 k h
theorem push1_names (out : List L) (y : L) : names (push1 out y) = (names out).erase (bs y.n) ++ [bs y.n] := by
  unfold push1 names
  rw [List.map_append, List.erase_eq_eraseP, List.eraseP_map]
  congr 2
  refine congrArg (fun q => List.eraseP q out) (funext fun z => ?_)
  show (bs z.n == bs y.n) = (bs y.n == bs z.n)
  exact Bool.beq_comm
theorem push1_nodup (out : List L) (y : L) (h : (names out).Nodup) : (names (push1 out y)).Nodup := by
  rw [push1_names, List.nodup_append]
  refine ⟨h.erase _, by simp, fun a ha b hb e => ?_⟩
  rw [List.mem_singleton] at hb
  subst e
  subst hb
  exact h.not_mem_erase ha
theorem push1_mem (out : List L) (y x : L) (h : x ∈ push1 out y) : x ∈ out ∨ x = y := by
  unfold push1 at h
  rw [List.mem_append, List.mem_singleton] at h
  rcases h with h | h
  · exact .inl (List.mem_of_mem_eraseP h)
  · exact .inr h
theorem madeF_ok (xs : List Sm) : ∀ out, (names out).Nodup → (∀ x ∈ out, one x = 0) → (names (madeF out xs)).Nodup ∧ (∀ x ∈ madeF out xs, one x = 0) ∧ (madeF out xs).length ≤ out.length + xs.length := by
  induction xs with
  | nil => intro out h1 h2; exact ⟨h1, h2, by simp [madeF]⟩
  | cons y r ih =>
    intro out h1 h2
    have := ih (push1 out (made1 y)) (push1_nodup _ _ h1) (fun x hx => by
      rcases push1_mem _ _ _ hx with h | rfl
      · exact h2 x h
      · exact made1_one y)
    refine ⟨this.1, this.2.1, ?_⟩
    have h3 := this.2.2
    have h4 := push1_length out (made1 y)
    show (madeF (push1 out (made1 y)) r).length ≤ _
    simp only [List.length_cons]
    omega
theorem made_ok (xs : List Sm) : (names (made xs)).Nodup ∧ (∀ x ∈ made xs, one x = 0) ∧ (made xs).length ≤ 40 := by
  have := madeF_ok (xs.take 40) [] List.nodup_nil (fun x hx => by simp at hx)
  refine ⟨this.1, this.2.1, ?_⟩
  have h3 := this.2.2
  rw [List.length_take] at h3
  show (madeF [] (xs.take 40)).length ≤ 40
  simp only [List.length_nil] at h3
  omega
/-- the right labels that small numbers make -/
def tl (xs : List Sm) : List L := full (srt (made xs))
theorem made_of (xs : List Sm) : of (made xs) = (tl xs, 0) := by
  obtain ⟨h1, h2, h3⟩ := made_ok xs
  unfold of
  rw [if_pos (oneAll_of _ h2), if_pos h1]
  have h4 : (full (srt (made xs))).length ≤ 64 := by
    have := List.length_filter_le (fun x : L => !(bs x.v).isEmpty) (srt (made xs))
    rw [srt_length] at this
    show (List.filter _ _).length ≤ 64
    omega
  rw [if_neg (by omega)]
  rfl
theorem tl_right (xs : List Sm) : right (tl xs) = true := (of_right _ _ (made_of xs)).1

theorem one_fit (x : L) (h : one x = 0) : x.n.size ≤ 128 ∧ x.v.size ≤ 1024 := by
  unfold one at h
  split at h
  · rename_i h1
    split at h
    · rename_i h2
      unfold named at h1
      unfold value at h2
      simp only [Bool.and_eq_true, decide_eq_true_eq] at h1 h2
      have e1 : (bs x.n).length = x.n.size := Array.length_toList
      have e2 : (bs x.v).length = x.v.size := Array.length_toList
      omega
    · simp at h
  · simp at h
theorem made_fit (xs : List Sm) : Fit maxLen (made xs) := fun x hx => by
  have := one_fit x ((made_ok xs).2.1 x hx)
  unfold maxLen
  omega
theorem right_fit (ls : List L) (h : right ls = true) : Fit 1100 ls ∧ ls.length ≤ 64 := ⟨fun x hx => by
  have := one_fit x ((right_parts ls h).2 x hx)
  omega, (right_parts ls h).1⟩
end Go.Proofs.YthnaninhbofeoaaGreatDoor.Lab
namespace Go.Proofs.YthnaninhbofeoaaGreatDoor
theorem Can.job_size (J : ByteArray) (h : Can.job (Lab.bs J) = true) : J.size ≤ 128 := by
  unfold Can.job at h
  simp only [Bool.and_eq_true, decide_eq_true_eq] at h
  have e : (Lab.bs J).length = J.size := Array.length_toList
  omega
theorem Can.raw_len (ls : List Lab.L) (h : ∀ x ∈ ls, Lab.one x = 0) : (Can.raw ls).length ≤ ls.length * 1154 := by
  induction ls with
  | nil => simp [Can.raw]
  | cons x r ih =>
    have h1 := Lab.one_fit x (h x List.mem_cons_self)
    have h2 := ih fun y hy => h y (List.mem_cons_of_mem _ hy)
    rw [Can.raw_cons]
    have e1 : (Lab.bs x.n).length = x.n.size := Array.length_toList
    have e2 : (Lab.bs x.v).length = x.v.size := Array.length_toList
    simp only [List.length_append, List.length_cons]
    omega
theorem Can.raw_bound (ls : List Lab.L) (h : Lab.right ls = true) : (Can.raw ls).length ≤ 80000 := by
  have := Can.raw_len ls (Lab.right_parts ls h).2
  have := (Lab.right_parts ls h).1
  omega
end Go.Proofs.YthnaninhbofeoaaGreatDoor
namespace Go.Proofs.YthnaninhbofeoaaGreatDoor
open Go.RowKit

set_option maxHeartbeats 1600000 in
set_option maxRecDepth 100000 in
theorem omade_is (j : Nat) (p : Option Addr) (xs : List Lab.Sm) (n c : Nat) (w : World) (hj : j < 256) (hn : xs.length = n) (hA : Lab.SmAt p xs w) (hF : Lab.SmFit xs) (hlc : n ≤ c) (hc : c ≤ maxLen) :
    Calls Tryz.prog 18 #[.agg #[.int .u8 (j : Int), .slice p n c]] w fun e w' => (∃ v, e = .returned (.tuple #[.agg #[.string (Lab.jobL.getD (j % 8) ⟨#[]⟩), v], .bool true]) ∧ OwnLabels w.heap.size v (Lab.tl xs) w') ∧ Below w.heap.size w w' := by
  have HM := Lib.hid (fun w hA => lmade_is p xs n c (Lab.made xs) rfl w hn hA hF hlc hc)
  have hml := (Lab.made_ok xs).2.2
  have HO := Lib.hid (fun p n c w hn hA => lof_is p (Lab.made xs) n c (Lab.tl xs) 0 (Lab.made_of xs) w hn hA (Lab.made_fit xs))
  obtain ⟨ms, hms⟩ : ∃ ms, Lab.made xs = ms := ⟨_, rfl⟩
  obtain ⟨ts, hts⟩ : ∃ ts, Lab.tl xs = ts := ⟨_, rfl⟩
  rw [hms] at HM HO hml
  rw [hts] at HO ⊢
  have hjx : Lab.jobL[j % 8]? = some (Lab.jobL.getD (j % 8) ⟨#[]⟩) := by
    rw [List.getElem?_eq_getElem (show j % 8 < Lab.jobL.length from Nat.mod_lt _ (by omega))]
    simp [List.getD, List.getElem?_eq_getElem (show j % 8 < Lab.jobL.length from Nat.mod_lt _ (by omega))]
  obtain ⟨J, hJ⟩ : ∃ J, Lab.jobL.getD (j % 8) ⟨#[]⟩ = J := ⟨_, rfl⟩
  rw [hJ] at hjx ⊢
  have hj2 : (Lab.jobL.map Value.string)[j % 8]? = some (.string J) := by rw [List.getElem?_map, hjx]; rfl
  have hj3 : [Value.string ⟨#[97]⟩, .string ⟨#[97, 98]⟩, .string ⟨#[98]⟩, .string ⟨#[195, 169]⟩, .string ⟨#[119, 101, 98]⟩, .string ⟨#[97, 32, 98]⟩, .string ⟨#[48]⟩, .string ⟨#[65]⟩][j % 8]? = some (.string J) := hj2
  obtain ⟨hq, hj4⟩ := List.getElem?_eq_some_iff.1 hj3
  have r1 : Int.tmod (j : Int) 8 = ((j % 8 : Nat) : Int) := by rw [Int.tmod_eq_emod_of_nonneg (by omega)]; omega
  have r3 : j % 8 < 8 := by omega
  have q0 : (0 : Int) ≤ (j : Int) % 8 := by omega
  have q1 : (j : Int) % 8 < 8 := by omega
  have q2 : ((j : Int) % 8).toNat = j % 8 := by omega
  clear hjx hJ hj2 hj3 hms hts hn hF
  go_enter Tryz.func18, Tryz.ntmps18
  go_wp2_with (go_at_call 51; refine (HM.out _ ((hA.alloc _).alloc _)).mono ?_)
  first | rintro e w1 v1 rfl hv1 hb1 | rintro e w1 ⟨⟨v1, rfl, hv1⟩, hb1⟩
  obtain ⟨p1, c1, rfl, hA1, _, _⟩ := OwnLabels.open hv1
  go_wp2_with (go_at_call 50; refine (HO.out _ _ _ _ rfl hA1 (by omega)).mono ?_)
  first | rintro e w2 v2 rfl hv2 hb2 | rintro e w2 ⟨⟨v2, rfl, hv2⟩, hb2⟩
  obtain ⟨p2, c2, rfl, hA2, _, _⟩ := OwnLabels.open hv2
  have hb12 := below_next hb1 hb2
  have hs12 := hb12.size
  simp only [World.size_alloc] at hs12
  have k0 := below_kept hb12 (below_kept ((Below.refl _ (w.alloc (.cells #[.int .u8 (j : Int), .slice p n c] 52))).alloc (Nat.le_refl _) _) (alloc_new w _) (by simp)) (by simp; omega)
  have k1 := below_kept hb12 (alloc_new (w.alloc _) _) (by simp)
  have c0 : w2.cell? ⟨w.heap.size, 0, none⟩ = some (.int .u8 (j : Int)) := by rw [Lib.cell_of_heap k0]; rfl
  have d0 : w2.cell? ⟨w.heap.size + 1, 0, none⟩ = some (.string ⟨#[]⟩) := by rw [show w.heap.size + 1 = (w.alloc (.cells #[.int .u8 (j : Int), .slice p n c] 52)).heap.size by simp, Lib.cell_of_heap k1]; rfl
  have d1 : w2.cell? ⟨w.heap.size + 1, 1, none⟩ = some (.slice none 0 0) := by rw [show w.heap.size + 1 = (w.alloc (.cells #[.int .u8 (j : Int), .slice p n c] 52)).heap.size by simp, Lib.cell_of_heap k1]; rfl
  have f0 : w2.frozen? ⟨w.heap.size + 1, 0, none⟩ = false := by
    have := Lib.frozen_of_heap k1 0
    simpa using this
  have f1 : w2.frozen? ⟨w.heap.size + 1, 1, none⟩ = false := by
    have := Lib.frozen_of_heap k1 1
    simpa using this
  have hB : Below w.heap.size w w2 := (((Below.refl _ _).alloc (Nat.le_refl _) _).alloc (by simp) _).trans (hb12.mono (by simp; omega))
  have hs1 : w.heap.size + 1 < w1.heap.size := by have := hb1.size; simp at this; omega
  have hv3 : OwnLabels w.heap.size (.slice p2 ts.length c2) ts ((w2.setCell ⟨w.heap.size + 1, 0, none⟩ (.string J)).setCell ⟨w.heap.size + 1, 1, none⟩ (.slice p2 ts.length c2)) :=
    row_lift (row_aside (row_aside hv2 (a := ⟨w.heap.size + 1, 0, none⟩) hs1 _) (a := ⟨w.heap.size + 1, 1, none⟩) hs1 _) (by omega)
  have l0 : w.heap.size < w2.heap.size := by omega
  have l1 : w.heap.size + 1 < w2.heap.size := by omega
  clear k0 k1 hb12 hb1 hb2 hv1 hv2 hA hA1 hA2 HM HO
  go_wp2_with fail
  have dd := two_cells w2 (w.heap.size + 1) (.string J) (.slice p2 ts.length c2) (by rw [d0]; rfl) (by rw [d1]; rfl)
  refine bodyPost_ret (v := .tuple #[.agg #[(.string J), (.slice p2 ts.length c2)], .bool true]) ?_ rfl ⟨⟨_, rfl, hv3.alloc _⟩, ((hB.setCell (p := ⟨w.heap.size + 1, 0, none⟩) (Nat.le_succ _) _).setCell (p := ⟨w.heap.size + 1, 1, none⟩) (Nat.le_succ _) _).alloc (by simp [World.setCell]; omega) _⟩
  have hz : ((w2.setCell ⟨w.heap.size + 1, 0, none⟩ (.string J)).setCell ⟨w.heap.size + 1, 1, none⟩ (.slice p2 ts.length c2)).heap.size = w2.heap.size := by simp [World.setCell]
  rw [← hz] at l1
  generalize (w2.setCell ⟨w.heap.size + 1, 0, none⟩ (.string J)).setCell ⟨w.heap.size + 1, 1, none⟩ (.slice p2 ts.length c2) = W at dd l1
  obtain ⟨d0, d1⟩ := dd
  simp [results, Tryz.f18, go_sem, d0, d1, l1]
end Go.Proofs.YthnaninhbofeoaaGreatDoor
