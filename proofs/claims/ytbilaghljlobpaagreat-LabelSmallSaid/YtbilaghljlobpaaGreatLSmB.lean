/- A region of LabelSmall that draws its order. (Printed by gen_sm.py.) -/
import Derived.Test.YtbilaghljlobpaaGreatSm

import Derived.Deep.DeepCutAuto
namespace Go.Proofs.YtbilaghljlobpaaGreat
open Go.RowKit
set_option linter.unusedVariables false
set_option maxHeartbeats 25600000 in
set_option maxRecDepth 100000 in
theorem Sm.r26 (c : Code) (hc : (Tryz.f3.body.bind (Cut.reg 26)) = some c) (x1 x2 x3 : Lab.L) (P Qb Rb : Nat) (zn1 : x1.n.size ≤ 10) (zn2 : x2.n.size ≤ 10) (zv3 : x3.v.size ≤ 10) (W5 : World) (HZ0 : Hid (W5.cell? ⟨P, 0, none⟩ = some (.string x1.n))) (HZ1 : Hid (W5.cell? ⟨Qb, 0, none⟩ = some (.string x2.n))) (HZ2 : Hid (W5.cell? ⟨Rb, 1, none⟩ = some (.string x3.v))) (HLA : Hid (∀ w', Below W5.heap.size W5 w' → Lab.At (some ⟨Rb + 1, 0, none⟩) [x1, x2, x3] w')) (HFT : Hid (Lab.Fit maxLen [x1, x2, x3])) (K : Act → World → Prop) (X : Exit → Act → World → Prop) (hX : ∀ (d : Nat) v p a w, X (.panic p) (Act.put a (some d) v) w → X (.panic p) a w) (t0 t1 t2 t3 t4 t5 t6 t7 t9 t11 t14 t15 t16 t17 t18 t19 t20 t21 t22 t23 t24 t25 t26 t27 t28 t29 t30 t31 t32 t33 t34 t35 t36 t37 t38 t39 t40 t41 t42 t43 t44 t45 t46 t47 t48 t49 t50 t51 t52 t53 t54 t55 t56 t57 t58 t59 t60 t61 t62 t63 t64 t65 t66 t67 t68 t69 t70 t71 t72 t73 t74 t75 t76 t77 t78 t79 t80 t81 t82 t83 t84 t85 t86 t87 t88 t89 t90 t91 t92 t93 t94 t95 t96 t97 t98 t99 t100 t101 t102 t103 t104 t105 t106 t107 t108 t109 t110 t111 t112 t113 t114 t115 t116 t117 t118 t119 t120 t121 t122 t123 t124 t125 t126 t127 t128 t129 t130 t131 t132 t133 t134 t135 t136 t137 t138 t139 t140 t141 t142 t143 t144 t145 t146 t147 t148 t149 t150 t151 t152 t153 t154 t155 t156 t157 t158 t159 t160 t161 t162 t163 t164 t165 t166 t167 t168 t169 t170 t171 t172 t173 t174 t175 t176 t177 t178 t179 t180 t181 t182 t183 t184 t185 t186 t187 t188 t189 t190 t191 t192 t193 t194 t195 t196 t197 t198 t199 t200 t201 t202 t203 t204 t205 t206 t207 t208 t209 t210 t211 t212 t213 t214 t215 t216 t217 t218 t219 t220 t221 t222 t223 t224 t225 t226 t227 t228 t229 t230 t231 t232 t233 t234 t235 t236 t237 t238 t239 t240 : Value)
    (hK : ∀ (u127 u128 u129 u130 u131 u132 u133 u134 u135 u136 u137 u138 u139 u140 u141 u142 u143 u144 u145 u146 u147 u148 u149 u150 u151 u152 u153 u154 : Value) (w' : World), Below W5.heap.size W5 w' → K ⟨#[t0, t1, t2, t3, t4, t5, t6, t7, .pointer (some ⟨P, 0, none⟩), t9, .pointer (some ⟨Qb, 0, none⟩), t11, .pointer (some ⟨Rb, 0, none⟩), .slice (some ⟨Rb + 1, 0, none⟩) 3 3, t14, t15, t16, t17, t18, t19, t20, t21, t22, t23, t24, t25, t26, t27, t28, t29, t30, t31, t32, t33, t34, t35, t36, t37, t38, t39, t40, t41, t42, t43, t44, t45, t46, t47, t48, t49, t50, t51, t52, t53, t54, t55, t56, t57, t58, t59, t60, t61, t62, t63, t64, t65, t66, t67, t68, t69, t70, t71, t72, t73, t74, t75, t76, t77, t78, t79, t80, t81, t82, t83, t84, t85, t86, t87, t88, t89, t90, t91, t92, t93, t94, t95, t96, t97, t98, t99, t100, t101, t102, t103, t104, t105, t106, t107, t108, t109, t110, t111, t112, t113, t114, t115, t116, t117, t118, t119, t120, t121, t122, t123, t124, t125, t126, u127, u128, u129, u130, u131, u132, u133, u134, u135, u136, u137, u138, u139, u140, u141, u142, u143, u144, u145, u146, u147, u148, u149, u150, u151, u152, u153, u154, .bool false, t156, t157, t158, t159, t160, t161, t162, t163, t164, t165, t166, t167, t168, t169, t170, t171, t172, t173, t174, t175, t176, t177, t178, t179, t180, t181, t182, t183, t184, t185, t186, t187, t188, t189, t190, t191, t192, t193, t194, t195, t196, t197, t198, t199, t200, t201, t202, t203, t204, t205, t206, t207, t208, t209, t210, t211, t212, t213, t214, t215, t216, t217, t218, t219, t220, t221, t222, t223, t224, t225, t226, t227, t228, t229, t230, t231, t232, t233, t234, t235, t236, t237, t238, t239, t240], []⟩ w') : Code.wp Tryz.prog c (Exit.then K X) ⟨#[t0, t1, t2, t3, t4, t5, t6, t7, .pointer (some ⟨P, 0, none⟩), t9, .pointer (some ⟨Qb, 0, none⟩), t11, .pointer (some ⟨Rb, 0, none⟩), .slice (some ⟨Rb + 1, 0, none⟩) 3 3, t14, t15, t16, t17, t18, t19, t20, t21, t22, t23, t24, t25, t26, t27, t28, t29, t30, t31, t32, t33, t34, t35, t36, t37, t38, t39, t40, t41, t42, t43, t44, t45, t46, t47, t48, t49, t50, t51, t52, t53, t54, t55, t56, t57, t58, t59, t60, t61, t62, t63, t64, t65, t66, t67, t68, t69, t70, t71, t72, t73, t74, t75, t76, t77, t78, t79, t80, t81, t82, t83, t84, t85, t86, t87, t88, t89, t90, t91, t92, t93, t94, t95, t96, t97, t98, t99, t100, t101, t102, t103, t104, t105, t106, t107, t108, t109, t110, t111, t112, t113, t114, t115, t116, t117, t118, t119, t120, t121, t122, t123, t124, t125, t126, t127, t128, t129, t130, t131, t132, t133, t134, t135, t136, t137, t138, t139, t140, t141, t142, t143, t144, t145, t146, t147, t148, t149, t150, t151, t152, t153, t154, t155, t156, t157, t158, t159, t160, t161, t162, t163, t164, t165, t166, t167, t168, t169, t170, t171, t172, t173, t174, t175, t176, t177, t178, t179, t180, t181, t182, t183, t184, t185, t186, t187, t188, t189, t190, t191, t192, t193, t194, t195, t196, t197, t198, t199, t200, t201, t202, t203, t204, t205, t206, t207, t208, t209, t210, t211, t212, t213, t214, t215, t216, t217, t218, t219, t220, t221, t222, t223, t224, t225, t226, t227, t228, t229, t230, t231, t232, t233, t234, t235, t236, t237, t238, t239, t240], []⟩ W5 := by
  conv at hc => lhs; whnf
  obtain rfl := Option.some.inj hc
  refine wp_region_held_drew (S := fun w' => Below W5.heap.size W5 w') (by kernel_rfl) (Below.refl _ _).drew (fun hHeld => ?_)
  refine Lab.take (i := 0) (v := ?_) rfl (by kernel_rfl) (by kernel_rfl) (by kernel_rfl) (fun _ _ _ h => hX _ _ _ _ _ h) (.inl ⟨by rfl, ?_⟩) (by assumption) ?_
  rotate_left
  · (intro w9 hS9; (try dsimp only at hS9); go_simp; try with_reducible rfl)
  try simp only [Act.put, List.setIfInBounds_toArray, List.set_cons_zero, List.set_cons_succ]
  refine Lab.take (i := 1) (v := ?_) rfl (by kernel_rfl) (by kernel_rfl) (by kernel_rfl) (fun _ _ _ h => hX _ _ _ _ _ h) (.inl ⟨by rfl, ?_⟩) (by assumption) ?_
  rotate_left
  · (intro w9 hS9; (try dsimp only at hS9); have q9 := cell_later hS9 HZ0.out (Nat.le_refl _); go_simp; try with_reducible rfl)
  try simp only [Act.put, List.setIfInBounds_toArray, List.set_cons_zero, List.set_cons_succ]
  refine Lab.take (i := 2) (v := ?_) rfl (by kernel_rfl) (by kernel_rfl) (by kernel_rfl) (fun _ _ _ h => hX _ _ _ _ _ h) (.inl ⟨by rfl, ?_⟩) (by assumption) ?_
  rotate_left
  · (intro w9 hS9; (try dsimp only at hS9); go_simp; try with_reducible rfl)
  try simp only [Act.put, List.setIfInBounds_toArray, List.set_cons_zero, List.set_cons_succ]
  refine wpAnyH_ready (rs := [3]) (by kernel_rfl) (by simp) ?_
  refine AllReadyH.cons rfl (fun K hK => ?_) AllReadyH.nil
  go_simp
  (go_at_call 4; refine (Sm.tells _ (Sm.max zn1 (Sm.ble rfl)) _ _ _ _ _ HFT.out rfl (HLA.out _ hHeld) (fun h => by cases h) (Sm.ble rfl)).mono ?_; rintro e v12 ⟨rfl, hb12⟩)
  refine hK.out _ _ (hHeld.trans (hb12.mono hHeld.size)) (fun hHeld => ?_)
  clear hK K
  try simp only [Act.put, List.setIfInBounds_toArray, List.set_cons_zero, List.set_cons_succ]
  clear hb12 
  refine Lab.take (i := 4) (v := ?_) rfl (by kernel_rfl) (by kernel_rfl) (by kernel_rfl) (fun _ _ _ h => hX _ _ _ _ _ h) (.inl ⟨by rfl, ?_⟩) (by assumption) ?_
  rotate_left
  · (intro w9 hS9; (try dsimp only at hS9); go_simp; try with_reducible rfl)
  try simp only [Act.put, List.setIfInBounds_toArray, List.set_cons_zero, List.set_cons_succ]
  refine Lab.take (i := 5) (v := ?_) rfl (by kernel_rfl) (by kernel_rfl) (by kernel_rfl) (fun _ _ _ h => hX _ _ _ _ _ h) (.inl ⟨by rfl, ?_⟩) (by assumption) ?_
  rotate_left
  · (intro w9 hS9; (try dsimp only at hS9); go_simp; try with_reducible rfl)
  try simp only [Act.put, List.setIfInBounds_toArray, List.set_cons_zero, List.set_cons_succ]
  refine Lab.take (i := 8) (v := ?_) rfl (by kernel_rfl) (by kernel_rfl) (by kernel_rfl) (fun _ _ _ h => hX _ _ _ _ _ h) (.inl ⟨by rfl, ?_⟩) (by assumption) ?_
  rotate_left
  · (intro w9 hS9; (try dsimp only at hS9); go_simp; try with_reducible rfl)
  try simp only [Act.put, List.setIfInBounds_toArray, List.set_cons_zero, List.set_cons_succ]
  refine Lab.take (i := 9) (v := ?_) rfl (by kernel_rfl) (by kernel_rfl) (by kernel_rfl) (fun _ _ _ h => hX _ _ _ _ _ h) (.inl ⟨by rfl, ?_⟩) (by assumption) ?_
  rotate_left
  · (intro w9 hS9; (try dsimp only at hS9); go_simp; try with_reducible rfl)
  try simp only [Act.put, List.setIfInBounds_toArray, List.set_cons_zero, List.set_cons_succ]
  refine Lab.take (i := 10) (v := ?_) rfl (by kernel_rfl) (by kernel_rfl) (by kernel_rfl) (fun _ _ _ h => hX _ _ _ _ _ h) (.inl ⟨by rfl, ?_⟩) (by assumption) ?_
  rotate_left
  · (intro w9 hS9; (try dsimp only at hS9); go_simp; try with_reducible rfl)
  try simp only [Act.put, List.setIfInBounds_toArray, List.set_cons_zero, List.set_cons_succ]
  refine Lab.take (i := 11) (v := ?_) rfl (by kernel_rfl) (by kernel_rfl) (by kernel_rfl) (fun _ _ _ h => hX _ _ _ _ _ h) (.inl ⟨by rfl, ?_⟩) (by assumption) ?_
  rotate_left
  · (intro w9 hS9; (try dsimp only at hS9); go_simp; try with_reducible rfl)
  try simp only [Act.put, List.setIfInBounds_toArray, List.set_cons_zero, List.set_cons_succ]
  refine Lab.take (i := 12) (v := ?_) rfl (by kernel_rfl) (by kernel_rfl) (by kernel_rfl) (fun _ _ _ h => hX _ _ _ _ _ h) (.inl ⟨by rfl, ?_⟩) (by assumption) ?_
  rotate_left
  · (intro w9 hS9; (try dsimp only at hS9); have q9 := cell_later hS9 HZ1.out (Nat.le_refl _); go_simp; try with_reducible rfl)
  try simp only [Act.put, List.setIfInBounds_toArray, List.set_cons_zero, List.set_cons_succ]
  refine Lab.take (i := 13) (v := ?_) rfl (by kernel_rfl) (by kernel_rfl) (by kernel_rfl) (fun _ _ _ h => hX _ _ _ _ _ h) (.inl ⟨by rfl, ?_⟩) (by assumption) ?_
  rotate_left
  · (intro w9 hS9; (try dsimp only at hS9); go_simp; try with_reducible rfl)
  try simp only [Act.put, List.setIfInBounds_toArray, List.set_cons_zero, List.set_cons_succ]
  refine Lab.take (i := 14) (v := ?_) rfl (by kernel_rfl) (by kernel_rfl) (by kernel_rfl) (fun _ _ _ h => hX _ _ _ _ _ h) (.inl ⟨by rfl, ?_⟩) (by assumption) ?_
  rotate_left
  · (intro w9 hS9; (try dsimp only at hS9); have q9 := cell_later hS9 HZ2.out (Nat.le_refl _); go_simp; try with_reducible rfl)
  try simp only [Act.put, List.setIfInBounds_toArray, List.set_cons_zero, List.set_cons_succ]
  have HUP : Hid (∀ x ∈ ([(6, Sm.Bs [⟨#[97]⟩, ⟨#[49]⟩, ⟨#[98]⟩, ⟨#[50]⟩]), (7, Sm.Ls [⟨⟨#[97]⟩, ⟨#[49]⟩⟩, ⟨⟨#[98]⟩, ⟨#[50]⟩⟩]), (15, Sm.Bs [x2.n, x3.v])] : List (Nat × (Value → World → Prop))), Grp.Up x.2) := fun x hx => by
    simp only [List.mem_cons, List.not_mem_nil, or_false] at hx
    rcases hx with rfl | rfl | rfl
    · exact Sm.bs_up _
    · exact Sm.ls_up _
    · exact Sm.bs_up _
  refine Grp.law [6, 7, 15] _ 13 rfl (fun a0 d a w' => ∃ t133 t134 t142 : Value, a = (((a0.put (some 133) t133).put (some 134) t134).put (some 142) t142) ∧ Grp.I W5.heap.size W5 [(6, Sm.Bs [⟨#[97]⟩, ⟨#[49]⟩, ⟨#[98]⟩, ⟨#[50]⟩]), (7, Sm.Ls [⟨⟨#[97]⟩, ⟨#[49]⟩⟩, ⟨⟨#[98]⟩, ⟨#[50]⟩⟩]), (15, Sm.Bs [x2.n, x3.v])] d [t133, t134, t142] w') (by kernel_rfl) (by assumption) ?h0g200 ?hsg200 ?heg200
  case h0g200 => exact ⟨_, _, _, (Grp.puts_self _ [133, 134, 142]).symm, Grp.I.start hHeld⟩
  case hsg200 =>
    refine ⟨⟨_, rfl, ?_⟩, ⟨_, rfl, ?_⟩, ⟨_, rfl, ?_⟩, trivial⟩
    · intro d a w' hd hdep hJ hS K hK
      obtain ⟨t133, t134, t142, ha, h⟩ := hJ
      rw [ha]
      clear ha
      go_frame
      rw [if_pos (by rfl)]
      go_simp
      exact hK _ _ ⟨_, _, _, (by go_frame), h.next HUP.out [6, 7, 15] rfl (by decide) ((Below.refl _ _).alloc (Nat.le_refl _) _) hS.size 0 rfl _ (Sm.bs_new [⟨#[97]⟩, ⟨#[49]⟩, ⟨#[98]⟩, ⟨#[50]⟩] _ rfl 4 rfl _ _ rfl)⟩ (hS.trans (((Below.refl _ _).alloc (Nat.le_refl _) _).mono hS.size))
    · intro d a w' hd hdep hJ hS K hK
      obtain ⟨t133, t134, t142, ha, h⟩ := hJ
      rw [ha]
      clear ha
      go_frame
      rw [if_pos (by rfl)]
      have hf := h.get 0 rfl rfl (hdep 6 (by decide) (by decide))
      go_simp
      (go_at_call 5; refine (Sm.of_bs hf [⟨⟨#[97]⟩, ⟨#[49]⟩⟩, ⟨⟨#[98]⟩, ⟨#[50]⟩⟩] 4 rfl rfl (by omega) (by omega) rfl).mono ?_; rintro e w2 ⟨⟨uu, rfl, hu⟩, hb2⟩)
      exact hK _ _ ⟨_, _, _, (by go_frame), h.next HUP.out [6, 7, 15] rfl (by decide) hb2 hS.size 1 rfl _ hu⟩ (hS.trans (hb2.mono hS.size))
    · intro d a w' hd hdep hJ hS K hK
      obtain ⟨t133, t134, t142, ha, h⟩ := hJ
      rw [ha]
      clear ha
      go_frame
      rw [if_pos (by rfl)]
      go_simp
      exact hK _ _ ⟨_, _, _, (by go_frame), h.next HUP.out [6, 7, 15] rfl (by decide) ((Below.refl _ _).alloc (Nat.le_refl _) _) hS.size 2 rfl _ (Sm.bs_new [x2.n, x3.v] _ rfl 2 rfl _ _ rfl)⟩ (hS.trans (((Below.refl _ _).alloc (Nat.le_refl _) _).mono hS.size))
  case heg200 =>
    rintro a w' ⟨t133, t134, t142, rfl, h⟩ hHeld
    have q1 := h.get 1 rfl rfl (by decide)
    have q2 := h.get 2 rfl rfl (by decide)
    clear h HUP
    obtain ⟨ga, ca, rfl, hA1⟩ := q1
    obtain ⟨gb, rfl, hT2⟩ := Sm.bs_at q2
    clear q2
    refine wpAnyH_ready (rs := [16]) (by kernel_rfl) (by simp) ?_
    refine AllReadyH.cons rfl (fun K hK => ?_) AllReadyH.nil
    go_simp
    (go_at_call 7; refine (Sm.changes _ _ _ _ _ _ _ _ _ _ _ _ _ _ _ _ _ rfl rfl rfl rfl hA1 (Sm.take (HLA.out _ hHeld) 2) (HLA.out _ hHeld) hT2 (Sm.fit2 (Sm.max Sm.lit (Sm.ble rfl)) (Sm.max Sm.lit (Sm.ble rfl)) (Sm.max Sm.lit (Sm.ble rfl)) (Sm.max Sm.lit (Sm.ble rfl))) (Sm.fit_sub HFT.out (fun x hx => List.mem_of_mem_take hx)) HFT.out (Sm.txts2 (Sm.max zn2 (Sm.ble rfl)) (Sm.max zv3 (Sm.ble rfl))) (fun h => by cases h) (fun h => by cases h) (fun h => by cases h) (fun h => by cases h) (Sm.ble rfl) (Sm.ble rfl) (Sm.ble rfl) (Sm.ble rfl)).mono ?_; rintro e v13 ⟨rfl, hb13⟩)
    refine hK.out _ _ (hHeld.trans (hb13.mono hHeld.size)) (fun hHeld => ?_)
    clear hK K
    try simp only [Act.put, List.setIfInBounds_toArray, List.set_cons_zero, List.set_cons_succ]
    clear hb13 hA1 hT2
    refine Lab.take (i := 17) (v := ?_) rfl (by kernel_rfl) (by kernel_rfl) (by kernel_rfl) (fun _ _ _ h => hX _ _ _ _ _ h) (.inl ⟨by rfl, ?_⟩) (by assumption) ?_
    rotate_left
    · (intro w9 hS9; (try dsimp only at hS9); go_simp; try with_reducible rfl)
    try simp only [Act.put, List.setIfInBounds_toArray, List.set_cons_zero, List.set_cons_succ]
    refine Lab.take (i := 18) (v := ?_) rfl (by kernel_rfl) (by kernel_rfl) (by kernel_rfl) (fun _ _ _ h => hX _ _ _ _ _ h) (.inl ⟨by rfl, ?_⟩) (by assumption) ?_
    rotate_left
    · (intro w9 hS9; (try dsimp only at hS9); go_simp; try with_reducible rfl)
    try simp only [Act.put, List.setIfInBounds_toArray, List.set_cons_zero, List.set_cons_succ]
    refine Lab.take (i := 19) (v := ?_) rfl (by kernel_rfl) (by kernel_rfl) (by kernel_rfl) (fun _ _ _ h => hX _ _ _ _ _ h) (.inl ⟨by rfl, ?_⟩) (by assumption) ?_
    rotate_left
    · (intro w9 hS9; (try dsimp only at hS9); go_simp; try with_reducible rfl)
    try simp only [Act.put, List.setIfInBounds_toArray, List.set_cons_zero, List.set_cons_succ]
    refine Lab.take (i := 20) (v := ?_) rfl (by kernel_rfl) (by kernel_rfl) (by kernel_rfl) (fun _ _ _ h => hX _ _ _ _ _ h) (.inl ⟨by rfl, ?_⟩) (by assumption) ?_
    rotate_left
    · (intro w9 hS9; (try dsimp only at hS9); go_simp; try with_reducible rfl)
    try simp only [Act.put, List.setIfInBounds_toArray, List.set_cons_zero, List.set_cons_succ]
    refine Lab.take (i := 21) (v := ?_) rfl (by kernel_rfl) (by kernel_rfl) (by kernel_rfl) (fun _ _ _ h => hX _ _ _ _ _ h) (.inl ⟨by rfl, ?_⟩) (by assumption) ?_
    rotate_left
    · (intro w9 hS9; (try dsimp only at hS9); go_simp; try with_reducible rfl)
    try simp only [Act.put, List.setIfInBounds_toArray, List.set_cons_zero, List.set_cons_succ]
    refine Lab.take (i := 24) (v := ?_) rfl (by kernel_rfl) (by kernel_rfl) (by kernel_rfl) (fun _ _ _ h => hX _ _ _ _ _ h) (.inl ⟨by rfl, ?_⟩) (by assumption) ?_
    rotate_left
    · (intro w9 hS9; (try dsimp only at hS9); go_simp; try with_reducible rfl)
    try simp only [Act.put, List.setIfInBounds_toArray, List.set_cons_zero, List.set_cons_succ]
    have HUP : Hid (∀ x ∈ ([(22, Sm.Bs [⟨#[97]⟩, ⟨#[53]⟩, ⟨#[101, 120, 112, 111, 114, 116, 101, 100, 95, 97]⟩, ⟨#[54]⟩]), (23, Sm.Ls [⟨⟨#[97]⟩, ⟨#[53]⟩⟩, ⟨⟨#[101, 120, 112, 111, 114, 116, 101, 100, 95, 97]⟩, ⟨#[54]⟩⟩]), (25, Sm.Bs [⟨#[101, 120, 112, 111, 114, 116, 101, 100, 95]⟩])] : List (Nat × (Value → World → Prop))), Grp.Up x.2) := fun x hx => by
      simp only [List.mem_cons, List.not_mem_nil, or_false] at hx
      rcases hx with rfl | rfl | rfl
      · exact Sm.bs_up _
      · exact Sm.ls_up _
      · exact Sm.bs_up _
    refine Grp.law [22, 23, 25] _ 3 rfl (fun a0 d a w' => ∃ t149 t150 t152 : Value, a = (((a0.put (some 149) t149).put (some 150) t150).put (some 152) t152) ∧ Grp.I W5.heap.size W5 [(22, Sm.Bs [⟨#[97]⟩, ⟨#[53]⟩, ⟨#[101, 120, 112, 111, 114, 116, 101, 100, 95, 97]⟩, ⟨#[54]⟩]), (23, Sm.Ls [⟨⟨#[97]⟩, ⟨#[53]⟩⟩, ⟨⟨#[101, 120, 112, 111, 114, 116, 101, 100, 95, 97]⟩, ⟨#[54]⟩⟩]), (25, Sm.Bs [⟨#[101, 120, 112, 111, 114, 116, 101, 100, 95]⟩])] d [t149, t150, t152] w') (by kernel_rfl) (by assumption) ?h0g201 ?hsg201 ?heg201
    case h0g201 => exact ⟨_, _, _, (Grp.puts_self _ [149, 150, 152]).symm, Grp.I.start hHeld⟩
    case hsg201 =>
      refine ⟨⟨_, rfl, ?_⟩, ⟨_, rfl, ?_⟩, ⟨_, rfl, ?_⟩, trivial⟩
      · intro d a w' hd hdep hJ hS K hK
        obtain ⟨t149, t150, t152, ha, h⟩ := hJ
        rw [ha]
        clear ha
        go_frame
        rw [if_pos (by rfl)]
        go_simp
        exact hK _ _ ⟨_, _, _, (by go_frame), h.next HUP.out [22, 23, 25] rfl (by decide) ((Below.refl _ _).alloc (Nat.le_refl _) _) hS.size 0 rfl _ (Sm.bs_new [⟨#[97]⟩, ⟨#[53]⟩, ⟨#[101, 120, 112, 111, 114, 116, 101, 100, 95, 97]⟩, ⟨#[54]⟩] _ rfl 4 rfl _ _ rfl)⟩ (hS.trans (((Below.refl _ _).alloc (Nat.le_refl _) _).mono hS.size))
      · intro d a w' hd hdep hJ hS K hK
        obtain ⟨t149, t150, t152, ha, h⟩ := hJ
        rw [ha]
        clear ha
        go_frame
        rw [if_pos (by rfl)]
        have hf := h.get 0 rfl rfl (hdep 22 (by decide) (by decide))
        go_simp
        (go_at_call 5; refine (Sm.of_bs hf [⟨⟨#[97]⟩, ⟨#[53]⟩⟩, ⟨⟨#[101, 120, 112, 111, 114, 116, 101, 100, 95, 97]⟩, ⟨#[54]⟩⟩] 4 rfl rfl (by omega) (by omega) rfl).mono ?_; rintro e w2 ⟨⟨uu, rfl, hu⟩, hb2⟩)
        exact hK _ _ ⟨_, _, _, (by go_frame), h.next HUP.out [22, 23, 25] rfl (by decide) hb2 hS.size 1 rfl _ hu⟩ (hS.trans (hb2.mono hS.size))
      · intro d a w' hd hdep hJ hS K hK
        obtain ⟨t149, t150, t152, ha, h⟩ := hJ
        rw [ha]
        clear ha
        go_frame
        rw [if_pos (by rfl)]
        go_simp
        exact hK _ _ ⟨_, _, _, (by go_frame), h.next HUP.out [22, 23, 25] rfl (by decide) ((Below.refl _ _).alloc (Nat.le_refl _) _) hS.size 2 rfl _ (Sm.bs_new [⟨#[101, 120, 112, 111, 114, 116, 101, 100, 95]⟩] _ rfl 1 rfl _ _ rfl)⟩ (hS.trans (((Below.refl _ _).alloc (Nat.le_refl _) _).mono hS.size))
    case heg201 =>
      rintro a w' ⟨t149, t150, t152, rfl, h⟩ hHeld
      have q1 := h.get 1 rfl rfl (by decide)
      have q2 := h.get 2 rfl rfl (by decide)
      clear h HUP
      obtain ⟨ga, ca, rfl, hA1⟩ := q1
      obtain ⟨gb, rfl, hT2⟩ := Sm.bs_at q2
      clear q2
      refine wpAnyH_ready (rs := [26]) (by kernel_rfl) (by simp) ?_
      refine AllReadyH.cons rfl (fun K hK => ?_) AllReadyH.nil
      go_simp
      (go_at_call 7; refine (Sm.changes _ _ _ _ _ _ _ _ _ _ _ _ _ _ _ _ _ rfl rfl rfl rfl (Sm.drop rfl (HLA.out _ hHeld) 1) hA1 (HLA.out _ hHeld) hT2 (Sm.fit_sub HFT.out (fun x hx => List.mem_of_mem_drop hx)) (Sm.fit2 (Sm.max Sm.lit (Sm.ble rfl)) (Sm.max Sm.lit (Sm.ble rfl)) (Sm.max Sm.lit (Sm.ble rfl)) (Sm.max Sm.lit (Sm.ble rfl))) HFT.out (Sm.txts1 (Sm.max Sm.lit (Sm.ble rfl))) (fun h => by cases h) (fun h => by cases h) (fun h => by cases h) (fun h => by cases h) (Sm.ble rfl) (Sm.ble rfl) (Sm.ble rfl) (Sm.ble rfl)).mono ?_; rintro e v14 ⟨rfl, hb14⟩)
      refine hK.out _ _ (hHeld.trans (hb14.mono hHeld.size)) (fun hHeld => ?_)
      clear hK K
      try simp only [Act.put, List.setIfInBounds_toArray, List.set_cons_zero, List.set_cons_succ]
      clear hb14 hA1 hT2
      refine Lab.take (i := 27) (v := ?_) rfl (by kernel_rfl) (by kernel_rfl) (by kernel_rfl) (fun _ _ _ h => hX _ _ _ _ _ h) (.inl ⟨by rfl, ?_⟩) (by assumption) ?_
      rotate_left
      · (intro w9 hS9; (try dsimp only at hS9); go_simp; try with_reducible rfl)
      try simp only [Act.put, List.setIfInBounds_toArray, List.set_cons_zero, List.set_cons_succ]
      refine Lab.take (i := 28) (v := ?_) rfl (by kernel_rfl) (by kernel_rfl) (by kernel_rfl) (fun _ _ _ h => hX _ _ _ _ _ h) (.inl ⟨by rfl, ?_⟩) (by assumption) ?_
      rotate_left
      · (intro w9 hS9; (try dsimp only at hS9); go_simp; try with_reducible rfl)
      try simp only [Act.put, List.setIfInBounds_toArray, List.set_cons_zero, List.set_cons_succ]
      refine wpAnyH_done (by kernel_rfl) ?_ _
      exact hK _ _ _ _ _ _ _ _ _ _ _ _ _ _ _ _ _ _ _ _ _ _ _ _ _ _ _ _ _ hHeld
end Go.Proofs.YtbilaghljlobpaaGreat
