/- The statement LabelChanges holds: the law returns true for every input, and changes nothing that was there. No condition. (Printed by frame4.py.) -/
import Derived.Test.YtflmojjpdmbnaaaL5E
import Derived.Test.YtflmojjpdmbnaaaLCh
import Derived.ProofKit
import Derived.OpenShut
import Derived.ShutString
namespace Go.Proofs.Ytflmojjpdmbnaaa.labelChanges
open Go.ChangeShapes Go.WideShapes Go.ChangeAt Go.RowKit
open Go.ChangeMaps (open_string shut_string)
set_option linter.unusedVariables false
set_option maxRecDepth 100000 in
theorem lifted (os : Os) (started : os.Started) (H : Type) (enc : TypeId × Value → H) :
    ReturnsInHanded {} Try.checked os 8 .any (Rows.labelChangesSpec.pre6 enc Try.prog Try.f8 Rows.labelChangesRow.domain false) (Rows.labelChangesSpec.post enc Try.prog Try.f8 false true false false) := by
  refine returnsInHanded_of_change (C := Try.checked) row.own started (by kernel_rfl) Try.func8
    (ChangeSpec.witness6 (enc := enc) (C := Try.checked) false ⟨#[], #[.slice none 0 0, .slice none 0 0, .slice none 0 0, .slice none 0 0], []⟩ 8 (by kernel_rfl) (by kernel_rfl) (by kernel_rfl) (by kernel_rfl)) ?_
  intro W base args ds gs before hval0 hW hcnd _
  have hval : ∀ (j : Nat) t v, Try.f8.params[j]? = some t → args[j]? = some v → Value.okWide Try.prog W .any base t v := hval0
  have hW' := hW
  obtain ⟨p, q, hA0, hV, rfl, hfz, hnd⟩ := hW
  have hA : DataW.TrodAll enc Try.prog W 0 (fun _ => true) true Try.f8.params.toList args.toList ds p := hA0
  rw [Try.params8] at hA hval
  obtain ⟨v0, v1, v2, v3, d0, d1, d2, d3, p0, p1, p2, p3, rfl, rfl, rfl, h0, h1, h2, h3⟩ := trodAll_four hA
  obtain ⟨rfl, rfl⟩ := trodVars_none hV
  clear hA0 hval0
  simp only [List.append_nil] at hW'
  obtain ⟨a0, len0, cap0, rfl⟩ := okWide_slice Try.underlying22 (hval 0 22 v0 rfl rfl)
  obtain ⟨fuel0, hh0⟩ := h0
  obtain ⟨_, _, _, xs0, hc0, hlen0, hAt0, hFit0, hnone0, hmax0⟩ := row.open_labels Try.underlying22 hh0
  simp only [Value.cells, List.cons.injEq, Value.slice.injEq, and_true] at hc0
  obtain ⟨rfl, rfl, rfl⟩ := hc0
  have hlt0 : ∀ x ∈ p0, x.block < W.heap.size := fun x hx => by simpa using hW'.lt x (by simp [hx])
  obtain ⟨a1, len1, cap1, rfl⟩ := okWide_slice Try.underlying22 (hval 1 22 v1 rfl rfl)
  obtain ⟨fuel1, hh1⟩ := h1
  obtain ⟨_, _, _, xs1, hc1, hlen1, hAt1, hFit1, hnone1, hmax1⟩ := row.open_labels Try.underlying22 hh1
  simp only [Value.cells, List.cons.injEq, Value.slice.injEq, and_true] at hc1
  obtain ⟨rfl, rfl, rfl⟩ := hc1
  have hlt1 : ∀ x ∈ p1, x.block < W.heap.size := fun x hx => by simpa using hW'.lt x (by simp [hx])
  obtain ⟨a2, len2, cap2, rfl⟩ := okWide_slice Try.underlying22 (hval 2 22 v2 rfl rfl)
  obtain ⟨fuel2, hh2⟩ := h2
  obtain ⟨_, _, _, xs2, hc2, hlen2, hAt2, hFit2, hnone2, hmax2⟩ := row.open_labels Try.underlying22 hh2
  simp only [Value.cells, List.cons.injEq, Value.slice.injEq, and_true] at hc2
  obtain ⟨rfl, rfl, rfl⟩ := hc2
  have hlt2 : ∀ x ∈ p2, x.block < W.heap.size := fun x hx => by simpa using hW'.lt x (by simp [hx])
  obtain ⟨a3, len3, cap3, rfl⟩ := okWide_slice Try.underlying33 (hval 3 33 v3 rfl rfl)
  obtain ⟨fuel3, hh3⟩ := h3
  obtain ⟨_, _, _, xs3, hc3, hlen3, hAt3, hFit3, hnone3, hmax3⟩ := row.open_texts Try.underlying33 hh3
  simp only [Value.cells, List.cons.injEq, Value.slice.injEq, and_true] at hc3
  obtain ⟨rfl, rfl, rfl⟩ := hc3
  have hlt3 : ∀ x ∈ p3, x.block < W.heap.size := fun x hx => by simpa using hW'.lt x (by simp [hx])
  try simp only [List.append_nil] at hW'
  refine (walk_LabelChanges a0 xs0 len0 cap0 a1 xs1 len1 cap1 a2 xs2 len2 cap2 a3 xs3 len3 cap3 W hlen0 hAt0 hFit0 hnone0 hmax0 hlen1 hAt1 hFit1 hnone1 hmax1 hlen2 hAt2 hFit2 hnone2 hmax2 hlen3 hAt3 hFit3 hnone3 hmax3).mono fun e W' ⟨he, bel⟩ => ?_
  subst he
  exact ⟨_, rfl, _, _, _, [], p0 ++ (p1 ++ (p2 ++ p3)), [], hW', trodAll_mk1 (shut_bool Try.underlying4 _), trodAll_mk4 (Below.trod row.laidOut (by kernel_rfl) (of_decide_eq_true (by kernel_rfl)) ⟨fuel0, hh0⟩ bel hlt0) (Below.trod row.laidOut (by kernel_rfl) (of_decide_eq_true (by kernel_rfl)) ⟨fuel1, hh1⟩ bel hlt1) (Below.trod row.laidOut (by kernel_rfl) (of_decide_eq_true (by kernel_rfl)) ⟨fuel2, hh2⟩ bel hlt2) (Below.trod row.laidOut (by kernel_rfl) (of_decide_eq_true (by kernel_rfl)) ⟨fuel3, hh3⟩ bel hlt3), rfl, bel.frame _, fun h => by cases h⟩
theorem over : Rows.labelChangesRow.holds Try.pinned (OpenSpec.ofChange Rows.labelChangesSpec) :=
  OpenClaim.holds_of_wide 8 Try.f8 rfl rfl rfl rfl rfl rfl rfl ⟨rfl, rfl, rfl, rfl, rfl⟩ rfl rfl rfl rfl rfl (by kernel_rfl) Try.func8 (by kernel_rfl)
    (of_decide_eq_true (by kernel_rfl)) (by unfold Func.isWrapper; first | (rw [if_pos (by decide +kernel)]; kernel_rfl) | (rw [if_neg (by decide +kernel)]; exact ⟨rfl, rfl⟩))
    (fun os started H enc _ => lifted os started H enc)
theorem proved : Rows.LabelChangesSaid := over
end Go.Proofs.Ytflmojjpdmbnaaa.labelChanges
