/- A region of LabelSmall that draws its order. (Printed by gen_sm.py.) -/
import Derived.Test.YtbilaghljlobpaaGreatSm

import Derived.Deep.DeepCutAuto
namespace Go.Proofs.YtbilaghljlobpaaGreat
open Go.RowKit
set_option linter.unusedVariables false
set_option maxHeartbeats 25600000 in
set_option maxRecDepth 100000 in
theorem Sm.r38 (c : Code) (hc : (Tryz.f3.body.bind (Cut.reg 38)) = some c) (R : ByteArray) (z1 : R.size ≤ 120) (z2 : 119 ≤ R.size) (z3 : (119 : Int) ≤ (R.size : Int)) (g cap : Nat) (l : List Lab.L) (hcp : 65 ≤ cap) (hcm : cap ≤ 9223372036854775807) (hlk : l.length ≤ 65) (i1 : (65 : Int) ≤ (cap : Int)) (i2 : (64 : Int) ≤ (cap : Int)) (i3 : (63 : Int) ≤ (cap : Int)) (i4 : ¬ cap = 1) (i5 : (1 : Int) ≤ (cap : Int)) (v0 : World) (HMN : Hid (∀ w', Below v0.heap.size v0 w' → Lab.At (some ⟨g, 0, none⟩) l w')) (HFM : Hid (Lab.Fit maxLen l)) (HLN : Hid (l.length = 65)) (HL64 : Hid ((l.take 64).length = 64)) (HL63 : Hid ((l.take 63).length = 63)) (HLD : Hid ((l.drop 1).length = 64)) (HGV : Hid (g < v0.heap.size)) (K : Act → World → Prop) (X : Exit → Act → World → Prop) (hX : ∀ (d : Nat) v p a w, X (.panic p) (Act.put a (some d) v) w → X (.panic p) a w) (t0 t1 t2 t3 t4 t5 t6 t7 t8 t9 t10 t11 t12 t13 t15 t17 t18 t19 t20 t21 t22 t23 t24 t25 t26 t27 t28 t29 t30 t31 t32 t33 t34 t35 t36 t37 t38 t39 t40 t41 t42 t43 t44 t45 t46 t47 t48 t49 t50 t51 t52 t53 t54 t55 t56 t57 t58 t59 t60 t61 t62 t63 t64 t65 t66 t67 t68 t69 t70 t71 t72 t73 t74 t75 t76 t77 t78 t79 t80 t81 t82 t83 t84 t85 t86 t87 t88 t89 t90 t91 t92 t93 t94 t95 t96 t97 t98 t99 t100 t101 t102 t103 t104 t105 t106 t107 t108 t109 t110 t111 t112 t113 t114 t115 t116 t117 t118 t119 t120 t121 t122 t123 t124 t125 t126 t127 t128 t129 t130 t131 t132 t133 t134 t135 t136 t137 t138 t139 t140 t141 t142 t143 t144 t145 t146 t147 t148 t149 t150 t151 t152 t153 t154 t155 t156 t157 t158 t159 t160 t161 t162 t163 t164 t165 t166 t167 t168 t169 t170 t171 t172 t173 t174 t175 t176 t177 t178 t179 t180 t181 t182 t183 t184 t185 t186 t187 t188 t189 t190 t191 t192 t193 t194 t195 t196 t197 t198 t199 t200 t201 t202 t203 t204 t205 t206 t207 t208 t209 t210 t211 t212 t213 t214 t215 t216 t217 t218 t219 t220 t221 t222 t223 t224 t225 t226 t227 t228 t229 t230 t231 t232 t233 t234 t235 t236 t237 t238 t239 t240 : Value)
    (hK : ∀ (u179 u180 u181 u182 u183 u184 u185 u186 u187 u188 u189 u190 u191 u192 u193 u194 u195 u196 u197 u198 u199 u200 u201 u202 u203 u204 u205 u206 u207 u208 u209 u210 u211 u212 u213 u214 u215 u216 u217 u218 u219 u220 u221 u222 u223 u224 u225 u226 u227 u228 u229 u230 u231 u232 u233 u234 u235 u236 u237 u238 u239 u240 : Value) (w' : World), Below v0.heap.size v0 w' → K ⟨#[.bool true, t1, t2, t3, t4, t5, t6, t7, t8, t9, t10, t11, t12, t13, .slice (some ⟨g, 0, none⟩) 65 cap, t15, .string R, t17, t18, t19, t20, t21, t22, t23, t24, t25, t26, t27, t28, t29, t30, t31, t32, t33, t34, t35, t36, t37, t38, t39, t40, t41, t42, t43, t44, t45, t46, t47, t48, t49, t50, t51, t52, t53, t54, t55, t56, t57, t58, t59, t60, t61, t62, t63, t64, t65, t66, t67, t68, t69, t70, t71, t72, t73, t74, t75, t76, t77, t78, t79, t80, t81, t82, t83, t84, t85, t86, t87, t88, t89, t90, t91, t92, t93, t94, t95, t96, t97, t98, t99, t100, t101, t102, t103, t104, t105, t106, t107, t108, t109, t110, t111, t112, t113, t114, t115, t116, t117, t118, t119, t120, t121, t122, t123, t124, t125, t126, t127, t128, t129, t130, t131, t132, t133, t134, t135, t136, t137, t138, t139, t140, t141, t142, t143, t144, t145, t146, t147, t148, t149, t150, t151, t152, t153, t154, t155, t156, t157, t158, t159, t160, t161, t162, t163, t164, t165, t166, t167, t168, t169, t170, t171, t172, t173, t174, t175, t176, t177, t178, u179, u180, u181, u182, u183, u184, u185, u186, u187, u188, u189, u190, u191, u192, u193, u194, u195, u196, u197, u198, u199, u200, u201, u202, u203, u204, u205, u206, u207, u208, u209, u210, u211, u212, u213, u214, u215, u216, u217, u218, u219, u220, u221, u222, u223, u224, u225, u226, u227, u228, u229, u230, u231, u232, u233, u234, u235, u236, u237, u238, u239, u240], []⟩ w') : Code.wp Tryz.prog c (Exit.then K X) ⟨#[t0, t1, t2, t3, t4, t5, t6, t7, t8, t9, t10, t11, t12, t13, .slice (some ⟨g, 0, none⟩) 65 cap, t15, .string R, t17, t18, t19, t20, t21, t22, t23, t24, t25, t26, t27, t28, t29, t30, t31, t32, t33, t34, t35, t36, t37, t38, t39, t40, t41, t42, t43, t44, t45, t46, t47, t48, t49, t50, t51, t52, t53, t54, t55, t56, t57, t58, t59, t60, t61, t62, t63, t64, t65, t66, t67, t68, t69, t70, t71, t72, t73, t74, t75, t76, t77, t78, t79, t80, t81, t82, t83, t84, t85, t86, t87, t88, t89, t90, t91, t92, t93, t94, t95, t96, t97, t98, t99, t100, t101, t102, t103, t104, t105, t106, t107, t108, t109, t110, t111, t112, t113, t114, t115, t116, t117, t118, t119, t120, t121, t122, t123, t124, t125, t126, t127, t128, t129, t130, t131, t132, t133, t134, t135, t136, t137, t138, t139, t140, t141, t142, t143, t144, t145, t146, t147, t148, t149, t150, t151, t152, t153, t154, t155, t156, t157, t158, t159, t160, t161, t162, t163, t164, t165, t166, t167, t168, t169, t170, t171, t172, t173, t174, t175, t176, t177, t178, t179, t180, t181, t182, t183, t184, t185, t186, t187, t188, t189, t190, t191, t192, t193, t194, t195, t196, t197, t198, t199, t200, t201, t202, t203, t204, t205, t206, t207, t208, t209, t210, t211, t212, t213, t214, t215, t216, t217, t218, t219, t220, t221, t222, t223, t224, t225, t226, t227, t228, t229, t230, t231, t232, t233, t234, t235, t236, t237, t238, t239, t240], []⟩ v0 := by
  conv at hc => lhs; whnf
  obtain rfl := Option.some.inj hc
  refine wp_region_held_drew (S := fun w' => Below v0.heap.size v0 w') (by kernel_rfl) (Below.refl _ _).drew (fun hHeld => ?_)
  refine Lab.take (i := 0) (v := ?_) rfl (by kernel_rfl) (by kernel_rfl) (by kernel_rfl) (fun _ _ _ h => hX _ _ _ _ _ h) (.inl ⟨by rfl, ?_⟩) (by assumption) ?_
  rotate_left
  · (intro w9 hS9; (try dsimp only at hS9); go_simp; try with_reducible rfl)
  try simp only [Act.put, List.setIfInBounds_toArray, List.set_cons_zero, List.set_cons_succ]
  refine wpAnyH_ready (rs := [1]) (by kernel_rfl) (by simp) ?_
  refine AllReadyH.cons rfl (fun K hK => ?_) AllReadyH.nil
  go_simp
  (go_at_call 4; refine (Sm.tells _ (Sm.max Sm.lit (Sm.ble rfl)) _ _ _ _ _ HFM.out HLN.out (HMN.out _ hHeld) (fun h => by cases h) (Sm.ble rfl)).mono ?_; rintro e v15 ⟨rfl, hb15⟩)
  refine hK.out _ _ (hHeld.trans (hb15.mono hHeld.size)) (fun hHeld => ?_)
  clear hK K
  try simp only [Act.put, List.setIfInBounds_toArray, List.set_cons_zero, List.set_cons_succ]
  clear hb15 
  refine Lab.take (i := 2) (v := ?_) rfl (by kernel_rfl) (by kernel_rfl) (by kernel_rfl) (fun _ _ _ h => hX _ _ _ _ _ h) (.inl ⟨by rfl, ?_⟩) (by assumption) ?_
  rotate_left
  · (intro w9 hS9; (try dsimp only at hS9); go_simp; try with_reducible rfl)
  try simp only [Act.put, List.setIfInBounds_toArray, List.set_cons_zero, List.set_cons_succ]
  refine Lab.take (i := 3) (v := ?_) rfl (by kernel_rfl) (by kernel_rfl) (by kernel_rfl) (fun _ _ _ h => hX _ _ _ _ _ h) (.inl ⟨by rfl, ?_⟩) (by assumption) ?_
  rotate_left
  · (intro w9 hS9; (try dsimp only at hS9); go_simp; try with_reducible rfl)
  try simp only [Act.put, List.setIfInBounds_toArray, List.set_cons_zero, List.set_cons_succ]
  refine Lab.take (i := 4) (v := ?_) rfl (by kernel_rfl) (by kernel_rfl) (by kernel_rfl) (fun _ _ _ h => hX _ _ _ _ _ h) (.inl ⟨by rfl, ?_⟩) (by assumption) ?_
  rotate_left
  · (intro w9 hS9; (try dsimp only at hS9); go_simp; try with_reducible rfl)
  try simp only [Act.put, List.setIfInBounds_toArray, List.set_cons_zero, List.set_cons_succ]
  refine wpAnyH_ready (rs := [5]) (by kernel_rfl) (by simp) ?_
  refine AllReadyH.cons rfl (fun K hK => ?_) AllReadyH.nil
  go_simp
  (go_at_call 4; refine (Sm.tells _ (Sm.max Sm.lit (Sm.ble rfl)) _ _ _ _ _ (Sm.fit_sub HFM.out (fun x hx => List.mem_of_mem_take hx)) HL64.out (Sm.take (HMN.out _ hHeld) 64) (fun h => by cases h) (Sm.ble rfl)).mono ?_; rintro e v16 ⟨rfl, hb16⟩)
  refine hK.out _ _ (hHeld.trans (hb16.mono hHeld.size)) (fun hHeld => ?_)
  clear hK K
  try simp only [Act.put, List.setIfInBounds_toArray, List.set_cons_zero, List.set_cons_succ]
  clear hb16 
  refine Lab.take (i := 6) (v := ?_) rfl (by kernel_rfl) (by kernel_rfl) (by kernel_rfl) (fun _ _ _ h => hX _ _ _ _ _ h) (.inl ⟨by rfl, ?_⟩) (by assumption) ?_
  rotate_left
  · (intro w9 hS9; (try dsimp only at hS9); go_simp; try with_reducible rfl)
  try simp only [Act.put, List.setIfInBounds_toArray, List.set_cons_zero, List.set_cons_succ]
  refine Lab.take (i := 7) (v := ?_) rfl (by kernel_rfl) (by kernel_rfl) (by kernel_rfl) (fun _ _ _ h => hX _ _ _ _ _ h) (.inl ⟨by rfl, ?_⟩) (by assumption) ?_
  rotate_left
  · (intro w9 hS9; (try dsimp only at hS9); go_simp; try with_reducible rfl)
  try simp only [Act.put, List.setIfInBounds_toArray, List.set_cons_zero, List.set_cons_succ]
  refine Lab.take (i := 10) (v := ?_) rfl (by kernel_rfl) (by kernel_rfl) (by kernel_rfl) (fun _ _ _ h => hX _ _ _ _ _ h) (.inl ⟨by rfl, ?_⟩) (by assumption) ?_
  rotate_left
  · (intro w9 hS9; (try dsimp only at hS9); go_simp; try with_reducible rfl)
  try simp only [Act.put, List.setIfInBounds_toArray, List.set_cons_zero, List.set_cons_succ]
  refine Lab.take (i := 11) (v := ?_) rfl (by kernel_rfl) (by kernel_rfl) (by kernel_rfl) (fun _ _ _ h => hX _ _ _ _ _ h) (.inl ⟨by rfl, ?_⟩) (by assumption) ?_
  rotate_left
  · (intro w9 hS9; (try dsimp only at hS9); go_simp; try with_reducible rfl)
  try simp only [Act.put, List.setIfInBounds_toArray, List.set_cons_zero, List.set_cons_succ]
  have HBS := Lib.hid hHeld.size
  refine wpAnyH_ready (rs := [8]) (by kernel_rfl) (by simp) ?_
  refine AllReadyH.cons rfl (fun K hK => ?_) AllReadyH.nil
  go_simp
  refine hK.out _ _ (hHeld.alloc hHeld.size _) (fun hHeld => ?_)
  clear hK K
  try simp only [Act.put, List.setIfInBounds_toArray, List.set_cons_zero, List.set_cons_succ]
  refine wpAnyH_ready (rs := [9]) (by kernel_rfl) (by simp) ?_
  refine AllReadyH.cons rfl (fun K hK => ?_) AllReadyH.nil
  go_simp
  (go_at_call 5; refine (Sm.of_own [⟨#[122]⟩, ⟨#[]⟩] _ rfl 2 rfl (by omega) (by omega) (by omega) [⟨⟨#[122]⟩, ⟨#[]⟩⟩] rfl _ _ _ (by rfl) (by first | rfl | simp)).mono ?_; rintro e v17 ⟨⟨uu, rfl, hu⟩, hb17⟩)
  refine hK.out _ _ (hHeld.trans (hb17.mono hHeld.size)) (fun hHeld => ?_)
  clear hK K
  try simp only [Act.put, List.setIfInBounds_toArray, List.set_cons_zero, List.set_cons_succ]
  have HBT := Lib.hid hb17.size
  clear hb17
  have HOW := Lib.hid hu
  clear hu
  refine wpAnyH_ready (rs := [12]) (by kernel_rfl) (by simp) ?_
  refine AllReadyH.cons rfl (fun K hK => ?_) AllReadyH.nil
  rw [if_pos (by rfl)]
  refine Sm.cat 25 Tryz.underlying25 _ _ (by rfl) _ _ [⟨⟨#[122]⟩, ⟨#[]⟩⟩] (by rfl) HOW.out (l.take 64) ⟨g, 0, none⟩ 64 cap (by rfl) HL64.out (Sm.news (Sm.take (HMN.out _ hHeld) 64)) (by omega) (by simp) ?cm9 ?_
  case cm9 => (have h1 := HBT.out; (try simp at h1); omega)
  intro g9 cap9 w9 hown9 hg9
  have hBV : Below v0.heap.size v0 w9 := hHeld.grown hg9 hHeld.size (fun j hj => by have h1 := (World.ownsRow.lt HOW.out j hj).1; have h2 := HBS.out; (try simp at h1); (try simp at h2); omega)
  refine hK.out _ _ hBV (fun hHeld => ?_)
  clear hK K
  try simp only [Act.put, List.setIfInBounds_toArray]
  have HO9 := Lib.hid hown9
  clear hown9 hg9 hBV HOW HBT HBS
  refine wpAnyH_ready (rs := [13]) (by kernel_rfl) (by simp) ?_
  refine AllReadyH.cons rfl (fun K hK => ?_) AllReadyH.nil
  go_simp
  (go_at_call 4; refine (Sm.tells _ (Sm.max Sm.lit (Sm.ble rfl)) _ _ _ _ _ (Sm.fit_app (Sm.fit1 (Sm.max Sm.lit (Sm.ble rfl)) (Sm.max Sm.lit (Sm.ble rfl))) (Sm.fit_sub HFM.out (fun x hx => List.mem_of_mem_take hx))) (Sm.len_cat HL64.out) HO9.out.at (fun h => by cases h) (Sm.ble rfl)).mono ?_; rintro e v18 ⟨rfl, hb18⟩)
  refine hK.out _ _ (hHeld.trans (hb18.mono hHeld.size)) (fun hHeld => ?_)
  clear hK K
  try simp only [Act.put, List.setIfInBounds_toArray, List.set_cons_zero, List.set_cons_succ]
  clear hb18 HO9
  refine Lab.take (i := 14) (v := ?_) rfl (by kernel_rfl) (by kernel_rfl) (by kernel_rfl) (fun _ _ _ h => hX _ _ _ _ _ h) (.inl ⟨by rfl, ?_⟩) (by assumption) ?_
  rotate_left
  · (intro w9 hS9; (try dsimp only at hS9); go_simp; try with_reducible rfl)
  try simp only [Act.put, List.setIfInBounds_toArray, List.set_cons_zero, List.set_cons_succ]
  refine Lab.take (i := 15) (v := ?_) rfl (by kernel_rfl) (by kernel_rfl) (by kernel_rfl) (fun _ _ _ h => hX _ _ _ _ _ h) (.inl ⟨by rfl, ?_⟩) (by assumption) ?_
  rotate_left
  · (intro w9 hS9; (try dsimp only at hS9); go_simp; try with_reducible rfl)
  try simp only [Act.put, List.setIfInBounds_toArray, List.set_cons_zero, List.set_cons_succ]
  refine Lab.take (i := 16) (v := ?_) rfl (by kernel_rfl) (by kernel_rfl) (by kernel_rfl) (fun _ _ _ h => hX _ _ _ _ _ h) (.inl ⟨by rfl, ?_⟩) (by assumption) ?_
  rotate_left
  · (intro w9 hS9; (try dsimp only at hS9); go_simp; try with_reducible rfl)
  try simp only [Act.put, List.setIfInBounds_toArray, List.set_cons_zero, List.set_cons_succ]
  refine Lab.take (i := 17) (v := ?_) rfl (by kernel_rfl) (by kernel_rfl) (by kernel_rfl) (fun _ _ _ h => hX _ _ _ _ _ h) (.inl ⟨by rfl, ?_⟩) (by assumption) ?_
  rotate_left
  · (intro w9 hS9; (try dsimp only at hS9); go_simp; try with_reducible rfl)
  try simp only [Act.put, List.setIfInBounds_toArray, List.set_cons_zero, List.set_cons_succ]
  refine Lab.take (i := 18) (v := ?_) rfl (by kernel_rfl) (by kernel_rfl) (by kernel_rfl) (fun _ _ _ h => hX _ _ _ _ _ h) (.inl ⟨by rfl, ?_⟩) (by assumption) ?_
  rotate_left
  · (intro w9 hS9; (try dsimp only at hS9); go_simp; try with_reducible rfl)
  try simp only [Act.put, List.setIfInBounds_toArray, List.set_cons_zero, List.set_cons_succ]
  refine Lab.take (i := 19) (v := ?_) rfl (by kernel_rfl) (by kernel_rfl) (by kernel_rfl) (fun _ _ _ h => hX _ _ _ _ _ h) (.inl ⟨by rfl, ?_⟩) (by assumption) ?_
  rotate_left
  · (intro w9 hS9; (try dsimp only at hS9); go_simp; try with_reducible rfl)
  try simp only [Act.put, List.setIfInBounds_toArray, List.set_cons_zero, List.set_cons_succ]
  refine Lab.take (i := 20) (v := ?_) rfl (by kernel_rfl) (by kernel_rfl) (by kernel_rfl) (fun _ _ _ h => hX _ _ _ _ _ h) (.inl ⟨by rfl, ?_⟩) (by assumption) ?_
  rotate_left
  · (intro w9 hS9; (try dsimp only at hS9); go_simp; try with_reducible rfl)
  try simp only [Act.put, List.setIfInBounds_toArray, List.set_cons_zero, List.set_cons_succ]
  have HUP : Hid (∀ x ∈ ([(21, Sm.Bs [⟨#[110]⟩])] : List (Nat × (Value → World → Prop))), Grp.Up x.2) := fun x hx => by
    simp only [List.mem_cons, List.not_mem_nil, or_false] at hx
    rcases hx with rfl
    · exact Sm.bs_up _
  refine Grp.law [21] _ 41 rfl (fun a0 d a w' => ∃ t200 : Value, a = (a0.put (some 200) t200) ∧ Grp.I v0.heap.size v0 [(21, Sm.Bs [⟨#[110]⟩])] d [t200] w') (by kernel_rfl) (by assumption) ?h0g300 ?hsg300 ?heg300
  case h0g300 => exact ⟨_, (Grp.puts_self _ [200]).symm, Grp.I.start hHeld⟩
  case hsg300 =>
    refine ⟨⟨_, rfl, ?_⟩, trivial⟩
    · intro d a w' hd hdep hJ hS K hK
      obtain ⟨t200, ha, h⟩ := hJ
      rw [ha]
      clear ha
      go_frame
      rw [if_pos (by rfl)]
      go_simp
      exact hK _ _ ⟨_, (by go_frame), h.next HUP.out [21] rfl (by decide) ((Below.refl _ _).alloc (Nat.le_refl _) _) hS.size 0 rfl _ (Sm.bs_new [⟨#[110]⟩] _ rfl 1 rfl _ _ rfl)⟩ (hS.trans (((Below.refl _ _).alloc (Nat.le_refl _) _).mono hS.size))
  case heg300 =>
    rintro a w' ⟨t200, rfl, h⟩ hHeld
    have q1 := h.get 0 rfl rfl (by decide)
    clear h HUP
    obtain ⟨gb, rfl, hT2⟩ := Sm.bs_at q1
    clear q1
    refine wpAnyH_ready (rs := [22]) (by kernel_rfl) (by simp) ?_
    refine AllReadyH.cons rfl (fun K hK => ?_) AllReadyH.nil
    go_simp
    (go_at_call 7; refine (Sm.changes _ _ _ _ _ _ _ _ _ _ _ _ _ _ _ _ _ HL64.out HLD.out HLN.out rfl (Sm.take (HMN.out _ hHeld) 64) (Sm.drop rfl (HMN.out _ hHeld) 1) (HMN.out _ hHeld) hT2 (Sm.fit_sub HFM.out (fun x hx => List.mem_of_mem_take hx)) (Sm.fit_sub HFM.out (fun x hx => List.mem_of_mem_drop hx)) HFM.out (Sm.txts1 (Sm.max Sm.lit (Sm.ble rfl))) (fun h => by cases h) (fun h => by cases h) (fun h => by cases h) (fun h => by cases h) (Sm.ble rfl) (Sm.ble rfl) (Sm.ble rfl) (Sm.ble rfl)).mono ?_; rintro e v19 ⟨rfl, hb19⟩)
    refine hK.out _ _ (hHeld.trans (hb19.mono hHeld.size)) (fun hHeld => ?_)
    clear hK K
    try simp only [Act.put, List.setIfInBounds_toArray, List.set_cons_zero, List.set_cons_succ]
    clear hb19 hT2
    refine Lab.take (i := 23) (v := ?_) rfl (by kernel_rfl) (by kernel_rfl) (by kernel_rfl) (fun _ _ _ h => hX _ _ _ _ _ h) (.inl ⟨by rfl, ?_⟩) (by assumption) ?_
    rotate_left
    · (intro w9 hS9; (try dsimp only at hS9); go_simp; try with_reducible rfl)
    try simp only [Act.put, List.setIfInBounds_toArray, List.set_cons_zero, List.set_cons_succ]
    refine Lab.take (i := 24) (v := ?_) rfl (by kernel_rfl) (by kernel_rfl) (by kernel_rfl) (fun _ _ _ h => hX _ _ _ _ _ h) (.inl ⟨by rfl, ?_⟩) (by assumption) ?_
    rotate_left
    · (intro w9 hS9; (try dsimp only at hS9); go_simp; try with_reducible rfl)
    try simp only [Act.put, List.setIfInBounds_toArray, List.set_cons_zero, List.set_cons_succ]
    refine Lab.take (i := 25) (v := ?_) rfl (by kernel_rfl) (by kernel_rfl) (by kernel_rfl) (fun _ _ _ h => hX _ _ _ _ _ h) (.inl ⟨by rfl, ?_⟩) (by assumption) ?_
    rotate_left
    · (intro w9 hS9; (try dsimp only at hS9); go_simp; try with_reducible rfl)
    try simp only [Act.put, List.setIfInBounds_toArray, List.set_cons_zero, List.set_cons_succ]
    refine Lab.take (i := 26) (v := ?_) rfl (by kernel_rfl) (by kernel_rfl) (by kernel_rfl) (fun _ _ _ h => hX _ _ _ _ _ h) (.inl ⟨by rfl, ?_⟩) (by assumption) ?_
    rotate_left
    · (intro w9 hS9; (try dsimp only at hS9); go_simp; try with_reducible rfl)
    try simp only [Act.put, List.setIfInBounds_toArray, List.set_cons_zero, List.set_cons_succ]
    refine Lab.take (i := 27) (v := ?_) rfl (by kernel_rfl) (by kernel_rfl) (by kernel_rfl) (fun _ _ _ h => hX _ _ _ _ _ h) (.inl ⟨by rfl, ?_⟩) (by assumption) ?_
    rotate_left
    · (intro w9 hS9; (try dsimp only at hS9); go_simp; try with_reducible rfl)
    try simp only [Act.put, List.setIfInBounds_toArray, List.set_cons_zero, List.set_cons_succ]
    refine Lab.take (i := 28) (v := ?_) rfl (by kernel_rfl) (by kernel_rfl) (by kernel_rfl) (fun _ _ _ h => hX _ _ _ _ _ h) (.inl ⟨by rfl, ?_⟩) (by assumption) ?_
    rotate_left
    · (intro w9 hS9; (try dsimp only at hS9); go_simp; try with_reducible rfl)
    try simp only [Act.put, List.setIfInBounds_toArray, List.set_cons_zero, List.set_cons_succ]
    refine wpAnyH_ready (rs := [29]) (by kernel_rfl) (by simp) ?_
    refine AllReadyH.cons rfl (fun K hK => ?_) AllReadyH.nil
    go_simp
    refine hK.out _ _ (hHeld.alloc hHeld.size _) (fun hHeld => ?_)
    clear hK K
    try simp only [Act.put, List.setIfInBounds_toArray, List.set_cons_zero, List.set_cons_succ]
    refine wpAnyH_ready (rs := [30]) (by kernel_rfl) (by simp) ?_
    refine AllReadyH.cons rfl (fun K hK => ?_) AllReadyH.nil
    go_simp
    (go_at_call 5; refine (Sm.of_top [⟨#[122, 122]⟩, ⟨#[49]⟩, ⟨#[122, 122]⟩, ⟨#[]⟩] _ rfl 4 rfl (by omega) (by omega) (by omega) [⟨⟨#[122, 122]⟩, ⟨#[49]⟩⟩, ⟨⟨#[122, 122]⟩, ⟨#[]⟩⟩] rfl _ _ _ (by rfl) (by first | rfl | simp)).mono ?_; rintro e v20 ⟨⟨g20, c20, rfl, hA⟩, hb20⟩)
    refine hK.out _ _ (hHeld.trans (hb20.mono hHeld.size)) (fun hHeld => ?_)
    clear hK K
    try simp only [Act.put, List.setIfInBounds_toArray, List.set_cons_zero, List.set_cons_succ]
    clear hb20
    have HhA := Lib.hid hA
    clear hA
    refine wpAnyH_ready (rs := [31]) (by kernel_rfl) (by simp) ?_
    refine AllReadyH.cons rfl (fun K hK => ?_) AllReadyH.nil
    go_simp
    (go_at_call 7; refine (Sm.changes _ _ _ _ _ _ _ _ _ _ _ _ _ _ _ _ _ HL64.out HL64.out rfl rfl (Sm.take (HMN.out _ hHeld) 64) (Sm.take (HMN.out _ hHeld) 64) HhA.out (Sm.txt0 _) (Sm.fit_sub HFM.out (fun x hx => List.mem_of_mem_take hx)) (Sm.fit_sub HFM.out (fun x hx => List.mem_of_mem_take hx)) (Sm.fit2 (Sm.max Sm.lit (Sm.ble rfl)) (Sm.max Sm.lit (Sm.ble rfl)) (Sm.max Sm.lit (Sm.ble rfl)) (Sm.max Sm.lit (Sm.ble rfl))) Sm.txts0 (fun h => by cases h) (fun h => by cases h) (fun h => by cases h) (fun _ => rfl) (Sm.ble rfl) (Sm.ble rfl) (Sm.ble rfl) (Sm.ble rfl)).mono ?_; rintro e v21 ⟨rfl, hb21⟩)
    refine hK.out _ _ (hHeld.trans (hb21.mono hHeld.size)) (fun hHeld => ?_)
    clear hK K
    try simp only [Act.put, List.setIfInBounds_toArray, List.set_cons_zero, List.set_cons_succ]
    clear hb21 HhA
    refine Lab.take (i := 32) (v := ?_) rfl (by kernel_rfl) (by kernel_rfl) (by kernel_rfl) (fun _ _ _ h => hX _ _ _ _ _ h) (.inl ⟨by rfl, ?_⟩) (by assumption) ?_
    rotate_left
    · (intro w9 hS9; (try dsimp only at hS9); go_simp; try with_reducible rfl)
    try simp only [Act.put, List.setIfInBounds_toArray, List.set_cons_zero, List.set_cons_succ]
    refine Lab.take (i := 33) (v := ?_) rfl (by kernel_rfl) (by kernel_rfl) (by kernel_rfl) (fun _ _ _ h => hX _ _ _ _ _ h) (.inl ⟨by rfl, ?_⟩) (by assumption) ?_
    rotate_left
    · (intro w9 hS9; (try dsimp only at hS9); go_simp; try with_reducible rfl)
    try simp only [Act.put, List.setIfInBounds_toArray, List.set_cons_zero, List.set_cons_succ]
    refine Lab.take (i := 34) (v := ?_) rfl (by kernel_rfl) (by kernel_rfl) (by kernel_rfl) (fun _ _ _ h => hX _ _ _ _ _ h) (.inl ⟨by rfl, ?_⟩) (by assumption) ?_
    rotate_left
    · (intro w9 hS9; (try dsimp only at hS9); go_simp; try with_reducible rfl)
    try simp only [Act.put, List.setIfInBounds_toArray, List.set_cons_zero, List.set_cons_succ]
    refine Lab.take (i := 35) (v := ?_) rfl (by kernel_rfl) (by kernel_rfl) (by kernel_rfl) (fun _ _ _ h => hX _ _ _ _ _ h) (.inl ⟨by rfl, ?_⟩) (by assumption) ?_
    rotate_left
    · (intro w9 hS9; (try dsimp only at hS9); go_simp; try with_reducible rfl)
    try simp only [Act.put, List.setIfInBounds_toArray, List.set_cons_zero, List.set_cons_succ]
    have HUP : Hid (∀ x ∈ ([(36, Sm.Bs [⟨#[110, 97]⟩, ⟨#[49]⟩, ⟨#[122, 122]⟩, ⟨#[50]⟩]), (37, Sm.Ls [⟨⟨#[110, 97]⟩, ⟨#[49]⟩⟩, ⟨⟨#[122, 122]⟩, ⟨#[50]⟩⟩]), (38, Sm.Bs [⟨#[122, 122]⟩, ⟨#[49]⟩, ⟨#[122, 122, 122]⟩, ⟨#[49]⟩]), (39, Sm.Ls [⟨⟨#[122, 122]⟩, ⟨#[49]⟩⟩, ⟨⟨#[122, 122, 122]⟩, ⟨#[49]⟩⟩]), (40, Sm.Bs [⟨#[]⟩])] : List (Nat × (Value → World → Prop))), Grp.Up x.2) := fun x hx => by
      simp only [List.mem_cons, List.not_mem_nil, or_false] at hx
      rcases hx with rfl | rfl | rfl | rfl | rfl
      · exact Sm.bs_up _
      · exact Sm.ls_up _
      · exact Sm.bs_up _
      · exact Sm.ls_up _
      · exact Sm.bs_up _
    refine Grp.law [36, 37, 38, 39, 40] _ 22 rfl (fun a0 d a w' => ∃ t215 t216 t217 t218 t219 : Value, a = (((((a0.put (some 215) t215).put (some 216) t216).put (some 217) t217).put (some 218) t218).put (some 219) t219) ∧ Grp.I v0.heap.size v0 [(36, Sm.Bs [⟨#[110, 97]⟩, ⟨#[49]⟩, ⟨#[122, 122]⟩, ⟨#[50]⟩]), (37, Sm.Ls [⟨⟨#[110, 97]⟩, ⟨#[49]⟩⟩, ⟨⟨#[122, 122]⟩, ⟨#[50]⟩⟩]), (38, Sm.Bs [⟨#[122, 122]⟩, ⟨#[49]⟩, ⟨#[122, 122, 122]⟩, ⟨#[49]⟩]), (39, Sm.Ls [⟨⟨#[122, 122]⟩, ⟨#[49]⟩⟩, ⟨⟨#[122, 122, 122]⟩, ⟨#[49]⟩⟩]), (40, Sm.Bs [⟨#[]⟩])] d [t215, t216, t217, t218, t219] w') (by kernel_rfl) (by assumption) ?h0g301 ?hsg301 ?heg301
    case h0g301 => exact ⟨_, _, _, _, _, (Grp.puts_self _ [215, 216, 217, 218, 219]).symm, Grp.I.start hHeld⟩
    case hsg301 =>
      refine ⟨⟨_, rfl, ?_⟩, ⟨_, rfl, ?_⟩, ⟨_, rfl, ?_⟩, ⟨_, rfl, ?_⟩, ⟨_, rfl, ?_⟩, trivial⟩
      · intro d a w' hd hdep hJ hS K hK
        obtain ⟨t215, t216, t217, t218, t219, ha, h⟩ := hJ
        rw [ha]
        clear ha
        go_frame
        rw [if_pos (by rfl)]
        go_simp
        exact hK _ _ ⟨_, _, _, _, _, (by go_frame), h.next HUP.out [36, 37, 38, 39, 40] rfl (by decide) ((Below.refl _ _).alloc (Nat.le_refl _) _) hS.size 0 rfl _ (Sm.bs_new [⟨#[110, 97]⟩, ⟨#[49]⟩, ⟨#[122, 122]⟩, ⟨#[50]⟩] _ rfl 4 rfl _ _ rfl)⟩ (hS.trans (((Below.refl _ _).alloc (Nat.le_refl _) _).mono hS.size))
      · intro d a w' hd hdep hJ hS K hK
        obtain ⟨t215, t216, t217, t218, t219, ha, h⟩ := hJ
        rw [ha]
        clear ha
        go_frame
        rw [if_pos (by rfl)]
        have hf := h.get 0 rfl rfl (hdep 36 (by decide) (by decide))
        go_simp
        (go_at_call 5; refine (Sm.of_bs hf [⟨⟨#[110, 97]⟩, ⟨#[49]⟩⟩, ⟨⟨#[122, 122]⟩, ⟨#[50]⟩⟩] 4 rfl rfl (by omega) (by omega) rfl).mono ?_; rintro e w2 ⟨⟨uu, rfl, hu⟩, hb2⟩)
        exact hK _ _ ⟨_, _, _, _, _, (by go_frame), h.next HUP.out [36, 37, 38, 39, 40] rfl (by decide) hb2 hS.size 1 rfl _ hu⟩ (hS.trans (hb2.mono hS.size))
      · intro d a w' hd hdep hJ hS K hK
        obtain ⟨t215, t216, t217, t218, t219, ha, h⟩ := hJ
        rw [ha]
        clear ha
        go_frame
        rw [if_pos (by rfl)]
        go_simp
        exact hK _ _ ⟨_, _, _, _, _, (by go_frame), h.next HUP.out [36, 37, 38, 39, 40] rfl (by decide) ((Below.refl _ _).alloc (Nat.le_refl _) _) hS.size 2 rfl _ (Sm.bs_new [⟨#[122, 122]⟩, ⟨#[49]⟩, ⟨#[122, 122, 122]⟩, ⟨#[49]⟩] _ rfl 4 rfl _ _ rfl)⟩ (hS.trans (((Below.refl _ _).alloc (Nat.le_refl _) _).mono hS.size))
      · intro d a w' hd hdep hJ hS K hK
        obtain ⟨t215, t216, t217, t218, t219, ha, h⟩ := hJ
        rw [ha]
        clear ha
        go_frame
        rw [if_pos (by rfl)]
        have hf := h.get 2 rfl rfl (hdep 38 (by decide) (by decide))
        go_simp
        (go_at_call 5; refine (Sm.of_bs hf [⟨⟨#[122, 122]⟩, ⟨#[49]⟩⟩, ⟨⟨#[122, 122, 122]⟩, ⟨#[49]⟩⟩] 4 rfl rfl (by omega) (by omega) rfl).mono ?_; rintro e w2 ⟨⟨uu, rfl, hu⟩, hb2⟩)
        exact hK _ _ ⟨_, _, _, _, _, (by go_frame), h.next HUP.out [36, 37, 38, 39, 40] rfl (by decide) hb2 hS.size 3 rfl _ hu⟩ (hS.trans (hb2.mono hS.size))
      · intro d a w' hd hdep hJ hS K hK
        obtain ⟨t215, t216, t217, t218, t219, ha, h⟩ := hJ
        rw [ha]
        clear ha
        go_frame
        rw [if_pos (by rfl)]
        go_simp
        exact hK _ _ ⟨_, _, _, _, _, (by go_frame), h.next HUP.out [36, 37, 38, 39, 40] rfl (by decide) ((Below.refl _ _).alloc (Nat.le_refl _) _) hS.size 4 rfl _ (Sm.bs_new [⟨#[]⟩] _ rfl 1 rfl _ _ rfl)⟩ (hS.trans (((Below.refl _ _).alloc (Nat.le_refl _) _).mono hS.size))
    case heg301 =>
      rintro a w' ⟨t215, t216, t217, t218, t219, rfl, h⟩ hHeld
      have q1 := h.get 1 rfl rfl (by decide)
      have q2 := h.get 3 rfl rfl (by decide)
      have q3 := h.get 4 rfl rfl (by decide)
      clear h HUP
      obtain ⟨ga, ca, rfl, hA1⟩ := q1
      obtain ⟨gb, cb, rfl, hA2⟩ := q2
      obtain ⟨gc, rfl, hT2⟩ := Sm.bs_at q3
      clear q3
      refine wpAnyH_ready (rs := [41]) (by kernel_rfl) (by simp) ?_
      refine AllReadyH.cons rfl (fun K hK => ?_) AllReadyH.nil
      go_simp
      (go_at_call 7; refine (Sm.changes _ _ _ _ _ _ _ _ _ _ _ _ _ _ _ _ _ HL63.out rfl rfl rfl (Sm.take (HMN.out _ hHeld) 63) hA1 hA2 hT2 (Sm.fit_sub HFM.out (fun x hx => List.mem_of_mem_take hx)) (Sm.fit2 (Sm.max Sm.lit (Sm.ble rfl)) (Sm.max Sm.lit (Sm.ble rfl)) (Sm.max Sm.lit (Sm.ble rfl)) (Sm.max Sm.lit (Sm.ble rfl))) (Sm.fit2 (Sm.max Sm.lit (Sm.ble rfl)) (Sm.max Sm.lit (Sm.ble rfl)) (Sm.max Sm.lit (Sm.ble rfl)) (Sm.max Sm.lit (Sm.ble rfl))) (Sm.txts1 (Sm.max Sm.lit (Sm.ble rfl))) (fun h => by cases h) (fun h => by cases h) (fun h => by cases h) (fun h => by cases h) (Sm.ble rfl) (Sm.ble rfl) (Sm.ble rfl) (Sm.ble rfl)).mono ?_; rintro e v22 ⟨rfl, hb22⟩)
      refine hK.out _ _ (hHeld.trans (hb22.mono hHeld.size)) (fun hHeld => ?_)
      clear hK K
      try simp only [Act.put, List.setIfInBounds_toArray, List.set_cons_zero, List.set_cons_succ]
      clear hb22 hA1 hA2 hT2
      refine Lab.take (i := 42) (v := ?_) rfl (by kernel_rfl) (by kernel_rfl) (by kernel_rfl) (fun _ _ _ h => hX _ _ _ _ _ h) (.inl ⟨by rfl, ?_⟩) (by assumption) ?_
      rotate_left
      · (intro w9 hS9; (try dsimp only at hS9); go_simp; try with_reducible rfl)
      try simp only [Act.put, List.setIfInBounds_toArray, List.set_cons_zero, List.set_cons_succ]
      refine Lab.take (i := 43) (v := ?_) rfl (by kernel_rfl) (by kernel_rfl) (by kernel_rfl) (fun _ _ _ h => hX _ _ _ _ _ h) (.inl ⟨by rfl, ?_⟩) (by assumption) ?_
      rotate_left
      · (intro w9 hS9; (try dsimp only at hS9); go_simp; try with_reducible rfl)
      try simp only [Act.put, List.setIfInBounds_toArray, List.set_cons_zero, List.set_cons_succ]
      refine Lab.take (i := 44) (v := ?_) rfl (by kernel_rfl) (by kernel_rfl) (by kernel_rfl) (fun _ _ _ h => hX _ _ _ _ _ h) (.inl ⟨by rfl, ?_⟩) (by assumption) ?_
      rotate_left
      · (intro w9 hS9; (try dsimp only at hS9); go_simp; try with_reducible rfl)
      try simp only [Act.put, List.setIfInBounds_toArray, List.set_cons_zero, List.set_cons_succ]
      refine Lab.take (i := 45) (v := ?_) rfl (by kernel_rfl) (by kernel_rfl) (by kernel_rfl) (fun _ _ _ h => hX _ _ _ _ _ h) (.inl ⟨by rfl, ?_⟩) (by assumption) ?_
      rotate_left
      · (intro w9 hS9; (try dsimp only at hS9); go_simp; try with_reducible rfl)
      try simp only [Act.put, List.setIfInBounds_toArray, List.set_cons_zero, List.set_cons_succ]
      refine Lab.take (i := 46) (v := ?_) rfl (by kernel_rfl) (by kernel_rfl) (by kernel_rfl) (fun _ _ _ h => hX _ _ _ _ _ h) (.inl ⟨by rfl, ?_⟩) (by assumption) ?_
      rotate_left
      · (intro w9 hS9; (try dsimp only at hS9); go_simp; try with_reducible rfl)
      try simp only [Act.put, List.setIfInBounds_toArray, List.set_cons_zero, List.set_cons_succ]
      refine Lab.take (i := 49) (v := ?_) rfl (by kernel_rfl) (by kernel_rfl) (by kernel_rfl) (fun _ _ _ h => hX _ _ _ _ _ h) (.inl ⟨by rfl, ?_⟩) (by assumption) ?_
      rotate_left
      · (intro w9 hS9; (try dsimp only at hS9); go_simp; try with_reducible rfl)
      try simp only [Act.put, List.setIfInBounds_toArray, List.set_cons_zero, List.set_cons_succ]
      refine Lab.take (i := 50) (v := ?_) rfl (by kernel_rfl) (by kernel_rfl) (by kernel_rfl) (fun _ _ _ h => hX _ _ _ _ _ h) (.inl ⟨by rfl, ?_⟩) (by assumption) ?_
      rotate_left
      · (intro w9 hS9; (try dsimp only at hS9); go_simp; try with_reducible rfl)
      try simp only [Act.put, List.setIfInBounds_toArray, List.set_cons_zero, List.set_cons_succ]
      refine Lab.take (i := 51) (v := ?_) rfl (by kernel_rfl) (by kernel_rfl) (by kernel_rfl) (fun _ _ _ h => hX _ _ _ _ _ h) (.inl ⟨by rfl, ?_⟩) (by assumption) ?_
      rotate_left
      · (intro w9 hS9; (try dsimp only at hS9); go_simp; try with_reducible rfl)
      try simp only [Act.put, List.setIfInBounds_toArray, List.set_cons_zero, List.set_cons_succ]
      have HUP : Hid (∀ x ∈ ([(47, Sm.Bs [(R.extract 0 119), ⟨#[49]⟩, R, ⟨#[50]⟩]), (48, Sm.Ls [⟨(R.extract 0 119), ⟨#[49]⟩⟩, ⟨R, ⟨#[50]⟩⟩]), (52, Sm.Bs [(R.extract 0 119), ⟨#[51]⟩, R, ⟨#[52]⟩]), (53, Sm.Ls [⟨(R.extract 0 119), ⟨#[51]⟩⟩, ⟨R, ⟨#[52]⟩⟩])] : List (Nat × (Value → World → Prop))), Grp.Up x.2) := fun x hx => by
        simp only [List.mem_cons, List.not_mem_nil, or_false] at hx
        rcases hx with rfl | rfl | rfl | rfl
        · exact Sm.bs_up _
        · exact Sm.ls_up _
        · exact Sm.bs_up _
        · exact Sm.ls_up _
      refine Grp.law [47, 48, 52, 53] _ 9 rfl (fun a0 d a w' => ∃ t226 t227 t231 t232 : Value, a = ((((a0.put (some 226) t226).put (some 227) t227).put (some 231) t231).put (some 232) t232) ∧ Grp.I v0.heap.size v0 [(47, Sm.Bs [(R.extract 0 119), ⟨#[49]⟩, R, ⟨#[50]⟩]), (48, Sm.Ls [⟨(R.extract 0 119), ⟨#[49]⟩⟩, ⟨R, ⟨#[50]⟩⟩]), (52, Sm.Bs [(R.extract 0 119), ⟨#[51]⟩, R, ⟨#[52]⟩]), (53, Sm.Ls [⟨(R.extract 0 119), ⟨#[51]⟩⟩, ⟨R, ⟨#[52]⟩⟩])] d [t226, t227, t231, t232] w') (by kernel_rfl) (by assumption) ?h0g302 ?hsg302 ?heg302
      case h0g302 => exact ⟨_, _, _, _, (Grp.puts_self _ [226, 227, 231, 232]).symm, Grp.I.start hHeld⟩
      case hsg302 =>
        refine ⟨⟨_, rfl, ?_⟩, ⟨_, rfl, ?_⟩, ⟨_, rfl, ?_⟩, ⟨_, rfl, ?_⟩, trivial⟩
        · intro d a w' hd hdep hJ hS K hK
          obtain ⟨t226, t227, t231, t232, ha, h⟩ := hJ
          rw [ha]
          clear ha
          go_frame
          rw [if_pos (by rfl)]
          go_simp
          exact hK _ _ ⟨_, _, _, _, (by go_frame), h.next HUP.out [47, 48, 52, 53] rfl (by decide) ((Below.refl _ _).alloc (Nat.le_refl _) _) hS.size 0 rfl _ (Sm.bs_new [(R.extract 0 119), ⟨#[49]⟩, R, ⟨#[50]⟩] _ rfl 4 rfl _ _ rfl)⟩ (hS.trans (((Below.refl _ _).alloc (Nat.le_refl _) _).mono hS.size))
        · intro d a w' hd hdep hJ hS K hK
          obtain ⟨t226, t227, t231, t232, ha, h⟩ := hJ
          rw [ha]
          clear ha
          go_frame
          rw [if_pos (by rfl)]
          have hf := h.get 0 rfl rfl (hdep 47 (by decide) (by decide))
          go_simp
          (go_at_call 5; refine (Sm.of_bs hf [⟨(R.extract 0 119), ⟨#[49]⟩⟩, ⟨R, ⟨#[50]⟩⟩] 4 rfl rfl (by omega) (by omega) rfl).mono ?_; rintro e w2 ⟨⟨uu, rfl, hu⟩, hb2⟩)
          exact hK _ _ ⟨_, _, _, _, (by go_frame), h.next HUP.out [47, 48, 52, 53] rfl (by decide) hb2 hS.size 1 rfl _ hu⟩ (hS.trans (hb2.mono hS.size))
        · intro d a w' hd hdep hJ hS K hK
          obtain ⟨t226, t227, t231, t232, ha, h⟩ := hJ
          rw [ha]
          clear ha
          go_frame
          rw [if_pos (by rfl)]
          go_simp
          exact hK _ _ ⟨_, _, _, _, (by go_frame), h.next HUP.out [47, 48, 52, 53] rfl (by decide) ((Below.refl _ _).alloc (Nat.le_refl _) _) hS.size 2 rfl _ (Sm.bs_new [(R.extract 0 119), ⟨#[51]⟩, R, ⟨#[52]⟩] _ rfl 4 rfl _ _ rfl)⟩ (hS.trans (((Below.refl _ _).alloc (Nat.le_refl _) _).mono hS.size))
        · intro d a w' hd hdep hJ hS K hK
          obtain ⟨t226, t227, t231, t232, ha, h⟩ := hJ
          rw [ha]
          clear ha
          go_frame
          rw [if_pos (by rfl)]
          have hf := h.get 2 rfl rfl (hdep 52 (by decide) (by decide))
          go_simp
          (go_at_call 5; refine (Sm.of_bs hf [⟨(R.extract 0 119), ⟨#[51]⟩⟩, ⟨R, ⟨#[52]⟩⟩] 4 rfl rfl (by omega) (by omega) rfl).mono ?_; rintro e w2 ⟨⟨uu, rfl, hu⟩, hb2⟩)
          exact hK _ _ ⟨_, _, _, _, (by go_frame), h.next HUP.out [47, 48, 52, 53] rfl (by decide) hb2 hS.size 3 rfl _ hu⟩ (hS.trans (hb2.mono hS.size))
      case heg302 =>
        rintro a w' ⟨t226, t227, t231, t232, rfl, h⟩ hHeld
        have q1 := h.get 1 rfl rfl (by decide)
        have q2 := h.get 3 rfl rfl (by decide)
        clear h HUP
        obtain ⟨ga, ca, rfl, hA1⟩ := q1
        obtain ⟨gb, cb, rfl, hA2⟩ := q2
        refine wpAnyH_ready (rs := [54]) (by kernel_rfl) (by simp) ?_
        refine AllReadyH.cons rfl (fun K hK => ?_) AllReadyH.nil
        go_simp
        (go_at_call 7; refine (Sm.changes _ _ _ _ _ _ _ _ _ _ _ _ _ _ _ _ _ rfl rfl rfl rfl hA1 hA2 (Sm.lab0 _) (Sm.txt0 _) (Sm.fit2 (Sm.max (Sm.ext z1) (Sm.ble rfl)) (Sm.max Sm.lit (Sm.ble rfl)) (Sm.max z1 (Sm.ble rfl)) (Sm.max Sm.lit (Sm.ble rfl))) (Sm.fit2 (Sm.max (Sm.ext z1) (Sm.ble rfl)) (Sm.max Sm.lit (Sm.ble rfl)) (Sm.max z1 (Sm.ble rfl)) (Sm.max Sm.lit (Sm.ble rfl))) Sm.fit0 Sm.txts0 (fun h => by cases h) (fun h => by cases h) (fun _ => rfl) (fun _ => rfl) (Sm.ble rfl) (Sm.ble rfl) (Sm.ble rfl) (Sm.ble rfl)).mono ?_; rintro e v23 ⟨rfl, hb23⟩)
        refine hK.out _ _ (hHeld.trans (hb23.mono hHeld.size)) (fun hHeld => ?_)
        clear hK K
        try simp only [Act.put, List.setIfInBounds_toArray, List.set_cons_zero, List.set_cons_succ]
        clear hb23 hA1 hA2
        refine Lab.take (i := 55) (v := ?_) rfl (by kernel_rfl) (by kernel_rfl) (by kernel_rfl) (fun _ _ _ h => hX _ _ _ _ _ h) (.inl ⟨by rfl, ?_⟩) (by assumption) ?_
        rotate_left
        · (intro w9 hS9; (try dsimp only at hS9); go_simp; try with_reducible rfl)
        try simp only [Act.put, List.setIfInBounds_toArray, List.set_cons_zero, List.set_cons_succ]
        refine Lab.take (i := 56) (v := ?_) rfl (by kernel_rfl) (by kernel_rfl) (by kernel_rfl) (fun _ _ _ h => hX _ _ _ _ _ h) (.inl ⟨by rfl, ?_⟩) (by assumption) ?_
        rotate_left
        · (intro w9 hS9; (try dsimp only at hS9); go_simp; try with_reducible rfl)
        try simp only [Act.put, List.setIfInBounds_toArray, List.set_cons_zero, List.set_cons_succ]
        refine wpAnyH_ready (rs := [57]) (by kernel_rfl) (by simp) ?_
        refine AllReadyH.cons rfl (fun K hK => ?_) AllReadyH.nil
        go_simp
        (go_at_call 7; refine (Sm.changes _ _ _ _ _ _ _ _ _ _ _ _ _ _ _ _ _ rfl rfl rfl rfl (Sm.lab0 _) (Sm.lab0 _) (Sm.lab0 _) (Sm.txt0 _) Sm.fit0 Sm.fit0 Sm.fit0 Sm.txts0 (fun _ => rfl) (fun _ => rfl) (fun _ => rfl) (fun _ => rfl) (Sm.ble rfl) (Sm.ble rfl) (Sm.ble rfl) (Sm.ble rfl)).mono ?_; rintro e v24 ⟨rfl, hb24⟩)
        refine hK.out _ _ (hHeld.trans (hb24.mono hHeld.size)) (fun hHeld => ?_)
        clear hK K
        try simp only [Act.put, List.setIfInBounds_toArray, List.set_cons_zero, List.set_cons_succ]
        clear hb24 
        refine Lab.take (i := 58) (v := ?_) rfl (by kernel_rfl) (by kernel_rfl) (by kernel_rfl) (fun _ _ _ h => hX _ _ _ _ _ h) (.inl ⟨by rfl, ?_⟩) (by assumption) ?_
        rotate_left
        · (intro w9 hS9; (try dsimp only at hS9); go_simp; try with_reducible rfl)
        try simp only [Act.put, List.setIfInBounds_toArray, List.set_cons_zero, List.set_cons_succ]
        refine Lab.take (i := 59) (v := ?_) rfl (by kernel_rfl) (by kernel_rfl) (by kernel_rfl) (fun _ _ _ h => hX _ _ _ _ _ h) (.inl ⟨by rfl, ?_⟩) (by assumption) ?_
        rotate_left
        · (intro w9 hS9; (try dsimp only at hS9); go_simp; try with_reducible rfl)
        try simp only [Act.put, List.setIfInBounds_toArray, List.set_cons_zero, List.set_cons_succ]
        refine wpAnyH_ready (rs := [60]) (by kernel_rfl) (by simp) ?_
        refine AllReadyH.cons rfl (fun K hK => ?_) AllReadyH.nil
        go_simp
        (go_at_call 8; refine (awake4_true _).mono ?_; rintro e v25 ⟨rfl, hb25⟩)
        refine hK.out _ _ (hHeld.trans (hb25.mono hHeld.size)) (fun hHeld => ?_)
        clear hK K
        try simp only [Act.put, List.setIfInBounds_toArray, List.set_cons_zero, List.set_cons_succ]
        clear hb25
        refine Lab.take (i := 61) (v := ?_) rfl (by kernel_rfl) (by kernel_rfl) (by kernel_rfl) (fun _ _ _ h => hX _ _ _ _ _ h) (.inl ⟨by rfl, ?_⟩) (by assumption) ?_
        rotate_left
        · (intro w9 hS9; (try dsimp only at hS9); go_simp; try with_reducible rfl)
        try simp only [Act.put, List.setIfInBounds_toArray, List.set_cons_zero, List.set_cons_succ]
        refine Lab.take (i := 62) (v := ?_) rfl (by kernel_rfl) (by kernel_rfl) (by kernel_rfl) (fun _ _ _ h => hX _ _ _ _ _ h) (.inl ⟨by rfl, ?_⟩) (by assumption) ?_
        rotate_left
        · (intro w9 hS9; (try dsimp only at hS9); go_simp; try with_reducible rfl)
        try simp only [Act.put, List.setIfInBounds_toArray, List.set_cons_zero]
        refine wpAnyH_done (by kernel_rfl) ?_ _
        exact hK _ _ _ _ _ _ _ _ _ _ _ _ _ _ _ _ _ _ _ _ _ _ _ _ _ _ _ _ _ _ _ _ _ _ _ _ _ _ _ _ _ _ _ _ _ _ _ _ _ _ _ _ _ _ _ _ _ _ _ _ _ _ _ hHeld
end Go.Proofs.YtbilaghljlobpaaGreat
