/- A region of LabelSmall that draws its order. (Printed by gen_sm.py.) -/
import Derived.Test.YtbilaghljlobpaaGreatSm

import Derived.Deep.DeepCutAuto
namespace Go.Proofs.YtbilaghljlobpaaGreat
open Go.RowKit
set_option linter.unusedVariables false
set_option maxHeartbeats 25600000 in
set_option maxRecDepth 100000 in
theorem Sm.r12 (c : Code) (hc : (Tryz.f3.body.bind (Cut.reg 12)) = some c) (R : ByteArray) (z1 : R.size ≤ 1025) (z2 : 2 ≤ R.size) (z3 : (2 : Int) ≤ (R.size : Int)) (z4 : ¬ 9223372036854775807 < R.size) (v0 : World) (K : Act → World → Prop) (X : Exit → Act → World → Prop) (hX : ∀ (d : Nat) v p a w, X (.panic p) (Act.put a (some d) v) w → X (.panic p) a w) (t0 t1 t2 t3 t4 t6 t7 t8 t9 t10 t11 t12 t13 t14 t15 t16 t17 t18 t19 t20 t21 t22 t23 t24 t25 t26 t27 t28 t29 t30 t31 t32 t33 t34 t35 t36 t37 t38 t39 t40 t41 t42 t43 t44 t45 t46 t47 t48 t49 t50 t51 t52 t53 t54 t55 t56 t57 t58 t59 t60 t61 t62 t63 t64 t65 t66 t67 t68 t69 t70 t71 t72 t73 t74 t75 t76 t77 t78 t79 t80 t81 t82 t83 t84 t85 t86 t87 t88 t89 t90 t91 t92 t93 t94 t95 t96 t97 t98 t99 t100 t101 t102 t103 t104 t105 t106 t107 t108 t109 t110 t111 t112 t113 t114 t115 t116 t117 t118 t119 t120 t121 t122 t123 t124 t125 t126 t127 t128 t129 t130 t131 t132 t133 t134 t135 t136 t137 t138 t139 t140 t141 t142 t143 t144 t145 t146 t147 t148 t149 t150 t151 t152 t153 t154 t155 t156 t157 t158 t159 t160 t161 t162 t163 t164 t165 t166 t167 t168 t169 t170 t171 t172 t173 t174 t175 t176 t177 t178 t179 t180 t181 t182 t183 t184 t185 t186 t187 t188 t189 t190 t191 t192 t193 t194 t195 t196 t197 t198 t199 t200 t201 t202 t203 t204 t205 t206 t207 t208 t209 t210 t211 t212 t213 t214 t215 t216 t217 t218 t219 t220 t221 t222 t223 t224 t225 t226 t227 t228 t229 t230 t231 t232 t233 t234 t235 t236 t237 t238 t239 t240 : Value)
    (hK : ∀ (u63 u64 u65 u66 u67 u68 u69 u70 u71 u72 u73 u74 u75 u76 u77 u78 u79 u80 u81 u82 u83 u84 u85 u86 u87 u88 u89 u90 u91 u92 u93 : Value) (w' : World), Below v0.heap.size v0 w' → K ⟨#[t0, t1, t2, t3, t4, .string R, t6, t7, t8, t9, t10, t11, t12, t13, t14, t15, t16, t17, t18, t19, t20, t21, t22, t23, t24, t25, t26, t27, t28, t29, t30, t31, t32, t33, t34, t35, t36, t37, t38, t39, t40, t41, t42, t43, t44, t45, t46, t47, t48, t49, t50, t51, t52, t53, t54, t55, t56, t57, t58, t59, t60, t61, t62, u63, u64, u65, u66, u67, u68, u69, u70, u71, u72, u73, u74, u75, u76, u77, u78, u79, u80, u81, u82, u83, u84, u85, u86, u87, u88, u89, u90, u91, u92, u93, .bool false, t95, t96, t97, t98, t99, t100, t101, t102, t103, t104, t105, t106, t107, t108, t109, t110, t111, t112, t113, t114, t115, t116, t117, t118, t119, t120, t121, t122, t123, t124, t125, t126, t127, t128, t129, t130, t131, t132, t133, t134, t135, t136, t137, t138, t139, t140, t141, t142, t143, t144, t145, t146, t147, t148, t149, t150, t151, t152, t153, t154, t155, t156, t157, t158, t159, t160, t161, t162, t163, t164, t165, t166, t167, t168, t169, t170, t171, t172, t173, t174, t175, t176, t177, t178, t179, t180, t181, t182, t183, t184, t185, t186, t187, t188, t189, t190, t191, t192, t193, t194, t195, t196, t197, t198, t199, t200, t201, t202, t203, t204, t205, t206, t207, t208, t209, t210, t211, t212, t213, t214, t215, t216, t217, t218, t219, t220, t221, t222, t223, t224, t225, t226, t227, t228, t229, t230, t231, t232, t233, t234, t235, t236, t237, t238, t239, t240], []⟩ w') : Code.wp Tryz.prog c (Exit.then K X) ⟨#[t0, t1, t2, t3, t4, .string R, t6, t7, t8, t9, t10, t11, t12, t13, t14, t15, t16, t17, t18, t19, t20, t21, t22, t23, t24, t25, t26, t27, t28, t29, t30, t31, t32, t33, t34, t35, t36, t37, t38, t39, t40, t41, t42, t43, t44, t45, t46, t47, t48, t49, t50, t51, t52, t53, t54, t55, t56, t57, t58, t59, t60, t61, t62, t63, t64, t65, t66, t67, t68, t69, t70, t71, t72, t73, t74, t75, t76, t77, t78, t79, t80, t81, t82, t83, t84, t85, t86, t87, t88, t89, t90, t91, t92, t93, t94, t95, t96, t97, t98, t99, t100, t101, t102, t103, t104, t105, t106, t107, t108, t109, t110, t111, t112, t113, t114, t115, t116, t117, t118, t119, t120, t121, t122, t123, t124, t125, t126, t127, t128, t129, t130, t131, t132, t133, t134, t135, t136, t137, t138, t139, t140, t141, t142, t143, t144, t145, t146, t147, t148, t149, t150, t151, t152, t153, t154, t155, t156, t157, t158, t159, t160, t161, t162, t163, t164, t165, t166, t167, t168, t169, t170, t171, t172, t173, t174, t175, t176, t177, t178, t179, t180, t181, t182, t183, t184, t185, t186, t187, t188, t189, t190, t191, t192, t193, t194, t195, t196, t197, t198, t199, t200, t201, t202, t203, t204, t205, t206, t207, t208, t209, t210, t211, t212, t213, t214, t215, t216, t217, t218, t219, t220, t221, t222, t223, t224, t225, t226, t227, t228, t229, t230, t231, t232, t233, t234, t235, t236, t237, t238, t239, t240], []⟩ v0 := by
  conv at hc => lhs; whnf
  obtain rfl := Option.some.inj hc
  refine wp_region_held_drew (S := fun w' => Below v0.heap.size v0 w') (by kernel_rfl) (Below.refl _ _).drew (fun hHeld => ?_)
  refine Lab.take (i := 0) (v := ?_) rfl (by kernel_rfl) (by kernel_rfl) (by kernel_rfl) (fun _ _ _ h => hX _ _ _ _ _ h) (.inl ⟨by rfl, ?_⟩) (by assumption) ?_
  rotate_left
  · (intro w9 hS9; (try dsimp only at hS9); go_simp; try with_reducible rfl)
  try simp only [Act.put, List.setIfInBounds_toArray, List.set_cons_zero, List.set_cons_succ]
  refine Lab.take (i := 1) (v := ?_) rfl (by kernel_rfl) (by kernel_rfl) (by kernel_rfl) (fun _ _ _ h => hX _ _ _ _ _ h) (.inl ⟨by rfl, ?_⟩) (by assumption) ?_
  rotate_left
  · (intro w9 hS9; (try dsimp only at hS9); go_simp; try with_reducible rfl)
  try simp only [Act.put, List.setIfInBounds_toArray, List.set_cons_zero, List.set_cons_succ]
  refine Lab.take (i := 2) (v := ?_) rfl (by kernel_rfl) (by kernel_rfl) (by kernel_rfl) (fun _ _ _ h => hX _ _ _ _ _ h) (.inl ⟨by rfl, ?_⟩) (by assumption) ?_
  rotate_left
  · (intro w9 hS9; (try dsimp only at hS9); go_simp; try with_reducible rfl)
  try simp only [Act.put, List.setIfInBounds_toArray, List.set_cons_zero, List.set_cons_succ]
  refine wpAnyH_ready (rs := [3]) (by kernel_rfl) (by simp) ?_
  refine AllReadyH.cons rfl (fun K hK => ?_) AllReadyH.nil
  go_simp
  refine hK.out _ _ (hHeld.alloc hHeld.size _) (fun hHeld => ?_)
  clear hK K
  try simp only [Act.put, List.setIfInBounds_toArray, List.set_cons_zero, List.set_cons_succ]
  refine wpAnyH_ready (rs := [4]) (by kernel_rfl) (by simp) ?_
  refine AllReadyH.cons rfl (fun K hK => ?_) AllReadyH.nil
  go_simp
  (go_at_call 5; refine (Sm.of_top [R, ⟨#[97]⟩, ⟨#[121]⟩, R] _ rfl 4 rfl (by omega) (by omega) (by omega) [⟨R, ⟨#[97]⟩⟩, ⟨⟨#[121]⟩, R⟩] rfl _ _ _ (by rfl) (by first | rfl | simp)).mono ?_; rintro e v7 ⟨⟨g7, c7, rfl, hA⟩, hb7⟩)
  refine hK.out _ _ (hHeld.trans (hb7.mono hHeld.size)) (fun hHeld => ?_)
  clear hK K
  try simp only [Act.put, List.setIfInBounds_toArray, List.set_cons_zero, List.set_cons_succ]
  clear hb7
  have HhA := Lib.hid hA
  clear hA
  refine wpAnyH_ready (rs := [5]) (by kernel_rfl) (by simp) ?_
  refine AllReadyH.cons rfl (fun K hK => ?_) AllReadyH.nil
  go_simp
  (go_at_call 4; refine (Sm.tells _ (Sm.max z1 (Sm.ble rfl)) _ _ _ _ _ (Sm.fit2 (Sm.max z1 (Sm.ble rfl)) (Sm.max Sm.lit (Sm.ble rfl)) (Sm.max Sm.lit (Sm.ble rfl)) (Sm.max z1 (Sm.ble rfl))) rfl HhA.out (fun h => by cases h) (Sm.ble rfl)).mono ?_; rintro e v8 ⟨rfl, hb8⟩)
  refine hK.out _ _ (hHeld.trans (hb8.mono hHeld.size)) (fun hHeld => ?_)
  clear hK K
  try simp only [Act.put, List.setIfInBounds_toArray, List.set_cons_zero, List.set_cons_succ]
  clear hb8 HhA
  refine Lab.take (i := 6) (v := ?_) rfl (by kernel_rfl) (by kernel_rfl) (by kernel_rfl) (fun _ _ _ h => hX _ _ _ _ _ h) (.inl ⟨by rfl, ?_⟩) (by assumption) ?_
  rotate_left
  · (intro w9 hS9; (try dsimp only at hS9); go_simp; try with_reducible rfl)
  try simp only [Act.put, List.setIfInBounds_toArray, List.set_cons_zero, List.set_cons_succ]
  refine Lab.take (i := 7) (v := ?_) rfl (by kernel_rfl) (by kernel_rfl) (by kernel_rfl) (fun _ _ _ h => hX _ _ _ _ _ h) (.inl ⟨by rfl, ?_⟩) (by assumption) ?_
  rotate_left
  · (intro w9 hS9; (try dsimp only at hS9); go_simp; try with_reducible rfl)
  try simp only [Act.put, List.setIfInBounds_toArray, List.set_cons_zero, List.set_cons_succ]
  refine Lab.take (i := 8) (v := ?_) rfl (by kernel_rfl) (by kernel_rfl) (by kernel_rfl) (fun _ _ _ h => hX _ _ _ _ _ h) (.inl ⟨by rfl, ?_⟩) (by assumption) ?_
  rotate_left
  · (intro w9 hS9; (try dsimp only at hS9); go_simp; try with_reducible rfl)
  try simp only [Act.put, List.setIfInBounds_toArray, List.set_cons_zero, List.set_cons_succ]
  refine Lab.take (i := 9) (v := ?_) rfl (by kernel_rfl) (by kernel_rfl) (by kernel_rfl) (fun _ _ _ h => hX _ _ _ _ _ h) (.inl ⟨by rfl, ?_⟩) (by assumption) ?_
  rotate_left
  · (intro w9 hS9; (try dsimp only at hS9); go_simp; try with_reducible rfl)
  try simp only [Act.put, List.setIfInBounds_toArray, List.set_cons_zero, List.set_cons_succ]
  refine Lab.take (i := 10) (v := ?_) rfl (by kernel_rfl) (by kernel_rfl) (by kernel_rfl) (fun _ _ _ h => hX _ _ _ _ _ h) (.inl ⟨by rfl, ?_⟩) (by assumption) ?_
  rotate_left
  · (intro w9 hS9; (try dsimp only at hS9); go_simp; try with_reducible rfl)
  try simp only [Act.put, List.setIfInBounds_toArray, List.set_cons_zero, List.set_cons_succ]
  refine Lab.take (i := 11) (v := ?_) rfl (by kernel_rfl) (by kernel_rfl) (by kernel_rfl) (fun _ _ _ h => hX _ _ _ _ _ h) (.inl ⟨by rfl, ?_⟩) (by assumption) ?_
  rotate_left
  · (intro w9 hS9; (try dsimp only at hS9); go_simp; try with_reducible rfl)
  try simp only [Act.put, List.setIfInBounds_toArray, List.set_cons_zero, List.set_cons_succ]
  refine Lab.take (i := 12) (v := ?_) rfl (by kernel_rfl) (by kernel_rfl) (by kernel_rfl) (fun _ _ _ h => hX _ _ _ _ _ h) (.inl ⟨by rfl, ?_⟩) (by assumption) ?_
  rotate_left
  · (intro w9 hS9; (try dsimp only at hS9); go_simp; try with_reducible rfl)
  try simp only [Act.put, List.setIfInBounds_toArray, List.set_cons_zero, List.set_cons_succ]
  refine Lab.take (i := 13) (v := ?_) rfl (by kernel_rfl) (by kernel_rfl) (by kernel_rfl) (fun _ _ _ h => hX _ _ _ _ _ h) (.inl ⟨by rfl, ?_⟩) (by assumption) ?_
  rotate_left
  · (intro w9 hS9; (try dsimp only at hS9); go_simp; try with_reducible rfl)
  try simp only [Act.put, List.setIfInBounds_toArray, List.set_cons_zero, List.set_cons_succ]
  refine wpAnyH_ready (rs := [14]) (by kernel_rfl) (by simp) ?_
  refine AllReadyH.cons rfl (fun K hK => ?_) AllReadyH.nil
  go_simp
  refine hK.out _ _ (hHeld.alloc hHeld.size _) (fun hHeld => ?_)
  clear hK K
  try simp only [Act.put, List.setIfInBounds_toArray, List.set_cons_zero, List.set_cons_succ]
  refine wpAnyH_ready (rs := [15]) (by kernel_rfl) (by simp) ?_
  refine AllReadyH.cons rfl (fun K hK => ?_) AllReadyH.nil
  go_simp
  (go_at_call 5; refine (Sm.of_top [⟨#[121]⟩, _] _ rfl 2 rfl (by omega) (by omega) (by omega) [⟨⟨#[121]⟩, _⟩] rfl _ _ _ (by rfl) (by first | rfl | simp)).mono ?_; rintro e v9 ⟨⟨g9, c9, rfl, hA⟩, hb9⟩)
  refine hK.out _ _ (hHeld.trans (hb9.mono hHeld.size)) (fun hHeld => ?_)
  clear hK K
  skip
  clear hb9
  have HhA := Lib.hid hA
  clear hA
  refine wpAnyH_ready (rs := [16]) (by kernel_rfl) (by simp) ?_
  refine AllReadyH.cons rfl (fun K hK => ?_) AllReadyH.nil
  go_simp
  (go_at_call 4; refine (Sm.tells _ (Sm.max (Sm.app Sm.lit (Sm.ext z1)) (Sm.ble rfl)) _ _ _ _ _ (Sm.fit1 (Sm.max Sm.lit (Sm.ble rfl)) (Sm.max (Sm.app Sm.lit (Sm.ext z1)) (Sm.ble rfl))) rfl HhA.out (fun h => by cases h) (Sm.ble rfl)).mono ?_; rintro e v10 ⟨rfl, hb10⟩)
  refine hK.out _ _ (hHeld.trans (hb10.mono hHeld.size)) (fun hHeld => ?_)
  clear hK K
  try simp only [Act.put, List.setIfInBounds_toArray, List.set_cons_zero, List.set_cons_succ]
  clear hb10 HhA
  refine Lab.take (i := 17) (v := ?_) rfl (by kernel_rfl) (by kernel_rfl) (by kernel_rfl) (fun _ _ _ h => hX _ _ _ _ _ h) (.inl ⟨by rfl, ?_⟩) (by assumption) ?_
  rotate_left
  · (intro w9 hS9; (try dsimp only at hS9); go_simp; try with_reducible rfl)
  try simp only [Act.put, List.setIfInBounds_toArray, List.set_cons_zero, List.set_cons_succ]
  refine Lab.take (i := 18) (v := ?_) rfl (by kernel_rfl) (by kernel_rfl) (by kernel_rfl) (fun _ _ _ h => hX _ _ _ _ _ h) (.inl ⟨by rfl, ?_⟩) (by assumption) ?_
  rotate_left
  · (intro w9 hS9; (try dsimp only at hS9); go_simp; try with_reducible rfl)
  try simp only [Act.put, List.setIfInBounds_toArray, List.set_cons_zero, List.set_cons_succ]
  refine Lab.take (i := 19) (v := ?_) rfl (by kernel_rfl) (by kernel_rfl) (by kernel_rfl) (fun _ _ _ h => hX _ _ _ _ _ h) (.inl ⟨by rfl, ?_⟩) (by assumption) ?_
  rotate_left
  · (intro w9 hS9; (try dsimp only at hS9); go_simp; try with_reducible rfl)
  try simp only [Act.put, List.setIfInBounds_toArray, List.set_cons_zero, List.set_cons_succ]
  refine Lab.take (i := 20) (v := ?_) rfl (by kernel_rfl) (by kernel_rfl) (by kernel_rfl) (fun _ _ _ h => hX _ _ _ _ _ h) (.inl ⟨by rfl, ?_⟩) (by assumption) ?_
  rotate_left
  · (intro w9 hS9; (try dsimp only at hS9); go_simp; try with_reducible rfl)
  try simp only [Act.put, List.setIfInBounds_toArray, List.set_cons_zero, List.set_cons_succ]
  refine Lab.take (i := 25) (v := ?_) rfl (by kernel_rfl) (by kernel_rfl) (by kernel_rfl) (fun _ _ _ h => hX _ _ _ _ _ h) (.inl ⟨by rfl, ?_⟩) (by assumption) ?_
  rotate_left
  · (intro w9 hS9; (try dsimp only at hS9); go_simp; try with_reducible rfl)
  try simp only [Act.put, List.setIfInBounds_toArray, List.set_cons_zero, List.set_cons_succ]
  refine Lab.take (i := 26) (v := ?_) rfl (by kernel_rfl) (by kernel_rfl) (by kernel_rfl) (fun _ _ _ h => hX _ _ _ _ _ h) (.inl ⟨by rfl, ?_⟩) (by assumption) ?_
  rotate_left
  · (intro w9 hS9; (try dsimp only at hS9); go_simp; try with_reducible rfl)
  try simp only [Act.put, List.setIfInBounds_toArray, List.set_cons_zero, List.set_cons_succ]
  have HUP : Hid (∀ x ∈ ([(21, Sm.Bs [⟨#[120]⟩, R]), (22, Sm.Ls [⟨⟨#[120]⟩, R⟩]), (23, Sm.Bs [⟨#[120]⟩, ⟨#[49]⟩]), (24, Sm.Ls [⟨⟨#[120]⟩, ⟨#[49]⟩⟩]), (27, Sm.Bs [⟨#[120]⟩, R, R, ⟨#[49]⟩]), (28, Sm.Ls [⟨⟨#[120]⟩, R⟩, ⟨R, ⟨#[49]⟩⟩])] : List (Nat × (Value → World → Prop))), Grp.Up x.2) := fun x hx => by
    simp only [List.mem_cons, List.not_mem_nil, or_false] at hx
    rcases hx with rfl | rfl | rfl | rfl | rfl | rfl
    · exact Sm.bs_up _
    · exact Sm.ls_up _
    · exact Sm.bs_up _
    · exact Sm.ls_up _
    · exact Sm.bs_up _
    · exact Sm.ls_up _
  refine Grp.law [21, 22, 23, 24, 27, 28] _ 3 rfl (fun a0 d a w' => ∃ t84 t85 t86 t87 t90 t91 : Value, a = ((((((a0.put (some 84) t84).put (some 85) t85).put (some 86) t86).put (some 87) t87).put (some 90) t90).put (some 91) t91) ∧ Grp.I v0.heap.size v0 [(21, Sm.Bs [⟨#[120]⟩, R]), (22, Sm.Ls [⟨⟨#[120]⟩, R⟩]), (23, Sm.Bs [⟨#[120]⟩, ⟨#[49]⟩]), (24, Sm.Ls [⟨⟨#[120]⟩, ⟨#[49]⟩⟩]), (27, Sm.Bs [⟨#[120]⟩, R, R, ⟨#[49]⟩]), (28, Sm.Ls [⟨⟨#[120]⟩, R⟩, ⟨R, ⟨#[49]⟩⟩])] d [t84, t85, t86, t87, t90, t91] w') (by kernel_rfl) (by assumption) ?h0g100 ?hsg100 ?heg100
  case h0g100 => exact ⟨_, _, _, _, _, _, (Grp.puts_self _ [84, 85, 86, 87, 90, 91]).symm, Grp.I.start hHeld⟩
  case hsg100 =>
    refine ⟨⟨_, rfl, ?_⟩, ⟨_, rfl, ?_⟩, ⟨_, rfl, ?_⟩, ⟨_, rfl, ?_⟩, ⟨_, rfl, ?_⟩, ⟨_, rfl, ?_⟩, trivial⟩
    · intro d a w' hd hdep hJ hS K hK
      obtain ⟨t84, t85, t86, t87, t90, t91, ha, h⟩ := hJ
      rw [ha]
      clear ha
      go_frame
      rw [if_pos (by rfl)]
      go_simp
      exact hK _ _ ⟨_, _, _, _, _, _, (by go_frame), h.next HUP.out [21, 22, 23, 24, 27, 28] rfl (by decide) ((Below.refl _ _).alloc (Nat.le_refl _) _) hS.size 0 rfl _ (Sm.bs_new [⟨#[120]⟩, R] _ rfl 2 rfl _ _ rfl)⟩ (hS.trans (((Below.refl _ _).alloc (Nat.le_refl _) _).mono hS.size))
    · intro d a w' hd hdep hJ hS K hK
      obtain ⟨t84, t85, t86, t87, t90, t91, ha, h⟩ := hJ
      rw [ha]
      clear ha
      go_frame
      rw [if_pos (by rfl)]
      have hf := h.get 0 rfl rfl (hdep 21 (by decide) (by decide))
      go_simp
      (go_at_call 5; refine (Sm.of_bs hf [⟨⟨#[120]⟩, R⟩] 2 rfl rfl (by omega) (by omega) rfl).mono ?_; rintro e w2 ⟨⟨uu, rfl, hu⟩, hb2⟩)
      exact hK _ _ ⟨_, _, _, _, _, _, (by go_frame), h.next HUP.out [21, 22, 23, 24, 27, 28] rfl (by decide) hb2 hS.size 1 rfl _ hu⟩ (hS.trans (hb2.mono hS.size))
    · intro d a w' hd hdep hJ hS K hK
      obtain ⟨t84, t85, t86, t87, t90, t91, ha, h⟩ := hJ
      rw [ha]
      clear ha
      go_frame
      rw [if_pos (by rfl)]
      go_simp
      exact hK _ _ ⟨_, _, _, _, _, _, (by go_frame), h.next HUP.out [21, 22, 23, 24, 27, 28] rfl (by decide) ((Below.refl _ _).alloc (Nat.le_refl _) _) hS.size 2 rfl _ (Sm.bs_new [⟨#[120]⟩, ⟨#[49]⟩] _ rfl 2 rfl _ _ rfl)⟩ (hS.trans (((Below.refl _ _).alloc (Nat.le_refl _) _).mono hS.size))
    · intro d a w' hd hdep hJ hS K hK
      obtain ⟨t84, t85, t86, t87, t90, t91, ha, h⟩ := hJ
      rw [ha]
      clear ha
      go_frame
      rw [if_pos (by rfl)]
      have hf := h.get 2 rfl rfl (hdep 23 (by decide) (by decide))
      go_simp
      (go_at_call 5; refine (Sm.of_bs hf [⟨⟨#[120]⟩, ⟨#[49]⟩⟩] 2 rfl rfl (by omega) (by omega) rfl).mono ?_; rintro e w2 ⟨⟨uu, rfl, hu⟩, hb2⟩)
      exact hK _ _ ⟨_, _, _, _, _, _, (by go_frame), h.next HUP.out [21, 22, 23, 24, 27, 28] rfl (by decide) hb2 hS.size 3 rfl _ hu⟩ (hS.trans (hb2.mono hS.size))
    · intro d a w' hd hdep hJ hS K hK
      obtain ⟨t84, t85, t86, t87, t90, t91, ha, h⟩ := hJ
      rw [ha]
      clear ha
      go_frame
      rw [if_pos (by rfl)]
      go_simp
      exact hK _ _ ⟨_, _, _, _, _, _, (by go_frame), h.next HUP.out [21, 22, 23, 24, 27, 28] rfl (by decide) ((Below.refl _ _).alloc (Nat.le_refl _) _) hS.size 4 rfl _ (Sm.bs_new [⟨#[120]⟩, R, R, ⟨#[49]⟩] _ rfl 4 rfl _ _ rfl)⟩ (hS.trans (((Below.refl _ _).alloc (Nat.le_refl _) _).mono hS.size))
    · intro d a w' hd hdep hJ hS K hK
      obtain ⟨t84, t85, t86, t87, t90, t91, ha, h⟩ := hJ
      rw [ha]
      clear ha
      go_frame
      rw [if_pos (by rfl)]
      have hf := h.get 4 rfl rfl (hdep 27 (by decide) (by decide))
      go_simp
      (go_at_call 5; refine (Sm.of_bs hf [⟨⟨#[120]⟩, R⟩, ⟨R, ⟨#[49]⟩⟩] 4 rfl rfl (by omega) (by omega) rfl).mono ?_; rintro e w2 ⟨⟨uu, rfl, hu⟩, hb2⟩)
      exact hK _ _ ⟨_, _, _, _, _, _, (by go_frame), h.next HUP.out [21, 22, 23, 24, 27, 28] rfl (by decide) hb2 hS.size 5 rfl _ hu⟩ (hS.trans (hb2.mono hS.size))
  case heg100 =>
    rintro a w' ⟨t84, t85, t86, t87, t90, t91, rfl, h⟩ hHeld
    have q1 := h.get 1 rfl rfl (by decide)
    have q2 := h.get 3 rfl rfl (by decide)
    have q3 := h.get 5 rfl rfl (by decide)
    clear h HUP
    obtain ⟨ga, ca, rfl, hA1⟩ := q1
    obtain ⟨gb, cb, rfl, hA2⟩ := q2
    obtain ⟨gc, cc, rfl, hA3⟩ := q3
    refine wpAnyH_ready (rs := [29]) (by kernel_rfl) (by simp) ?_
    refine AllReadyH.cons rfl (fun K hK => ?_) AllReadyH.nil
    go_simp
    (go_at_call 7; refine (Sm.changes _ _ _ _ _ _ _ _ _ _ _ _ _ _ _ _ _ rfl rfl rfl rfl hA1 hA2 hA3 (Sm.txt0 _) (Sm.fit1 (Sm.max Sm.lit (Sm.ble rfl)) (Sm.max z1 (Sm.ble rfl))) (Sm.fit1 (Sm.max Sm.lit (Sm.ble rfl)) (Sm.max Sm.lit (Sm.ble rfl))) (Sm.fit2 (Sm.max Sm.lit (Sm.ble rfl)) (Sm.max z1 (Sm.ble rfl)) (Sm.max z1 (Sm.ble rfl)) (Sm.max Sm.lit (Sm.ble rfl))) Sm.txts0 (fun h => by cases h) (fun h => by cases h) (fun h => by cases h) (fun _ => rfl) (Sm.ble rfl) (Sm.ble rfl) (Sm.ble rfl) (Sm.ble rfl)).mono ?_; rintro e v11 ⟨rfl, hb11⟩)
    refine hK.out _ _ (hHeld.trans (hb11.mono hHeld.size)) (fun hHeld => ?_)
    clear hK K
    try simp only [Act.put, List.setIfInBounds_toArray, List.set_cons_zero, List.set_cons_succ]
    clear hb11 hA1 hA2 hA3
    refine Lab.take (i := 30) (v := ?_) rfl (by kernel_rfl) (by kernel_rfl) (by kernel_rfl) (fun _ _ _ h => hX _ _ _ _ _ h) (.inl ⟨by rfl, ?_⟩) (by assumption) ?_
    rotate_left
    · (intro w9 hS9; (try dsimp only at hS9); go_simp; try with_reducible rfl)
    try simp only [Act.put, List.setIfInBounds_toArray, List.set_cons_zero, List.set_cons_succ]
    refine Lab.take (i := 31) (v := ?_) rfl (by kernel_rfl) (by kernel_rfl) (by kernel_rfl) (fun _ _ _ h => hX _ _ _ _ _ h) (.inl ⟨by rfl, ?_⟩) (by assumption) ?_
    rotate_left
    · (intro w9 hS9; (try dsimp only at hS9); go_simp; try with_reducible rfl)
    try simp only [Act.put, List.setIfInBounds_toArray, List.set_cons_zero, List.set_cons_succ]
    refine wpAnyH_done (by kernel_rfl) ?_ _
    exact hK _ _ _ _ _ _ _ _ _ _ _ _ _ _ _ _ _ _ _ _ _ _ _ _ _ _ _ _ _ _ _ _ hHeld
end Go.Proofs.YtbilaghljlobpaaGreat
