/- Contracts of the reader: list. (Printed by gen_list.py.) -/
import Derived.Test.YtmmijebekipdeaaDoorJsL
import Derived.Test.YtmmijebekipdeaaDoorReg
import Derived.Test.YtmmijebekipdeaaDoorJsN
import Derived.Deep.RegionHeld3
import Derived.BigQuiet
import Derived.Deep.LoopGhost
namespace Go.Proofs.YtmmijebekipdeaaDoor
open Go.RowKit
set_option maxRecDepth 100000

/-- what value does, where d arrays and objects more may be opened -/
def Js.ValIs (R : Nat) (s : ByteArray) (o d : Nat) : Prop :=
  ∀ (k b : Nat) (w : World), w.heap[R]? = some (Js.obj s k o b) → k ≤ s.size → b ≤ 4096 → Calls Tryd.prog 52 #[.pointer (some ⟨R, 0, none⟩)] w (Js.VRes R s o w (Js.val s d k b))
/-- where a value ends -/
def Js.ValOk (s : ByteArray) (d : Nat) : Prop := ∀ k b x j b2, k ≤ s.size → b ≤ 4096 → Js.val s d k b = .ok (x, j, b2) → k ≤ j ∧ j ≤ s.size ∧ b2 ≤ 4096

/-- what follows an item -/
def Js.tail (s : ByteArray) (obj : Bool) (more : Nat → Nat → List ByteArray → List Js.V → Js.R (Js.V × Nat × Nat)) (ns : List ByteArray) (xs : List Js.V) : Js.R (Js.V × Nat × Nat) → Js.R (Js.V × Nat × Nat)
  | .error e => .error e
  | .ok (x, k, b) => if Js.nx s (Js.sp s k) = Js.ends obj then .ok (.mk (if obj then 7 else 6) ⟨#[]⟩ ns (xs ++ [x]), Js.sp s k + 1, b) else if Js.nx s (Js.sp s k) = 44 then more (Js.sp s k + 1) b ns (xs ++ [x]) else .error (Js.wrong s (Js.sp s k))
theorem Js.lsF_obj (s : ByteArray) (val : Nat → Nat → Js.R (Js.V × Nat × Nat)) (f i b : Nat) (ns : List ByteArray) (xs : List Js.V) : Js.lsF s true val (f + 1) i b ns xs =
    if Js.nx s (Js.sp s i) = 34 then (match Js.tx s (Js.sp s i) with
      | .error e => .error e
      | .ok (t, c) => if ns.contains ⟨t.toArray⟩ = true then .error (Js.sp s i, 141) else if Js.nx s (Js.sp s c) = 58 then Js.tail s true (Js.lsF s true val f) (ns ++ [⟨t.toArray⟩]) xs (val (Js.sp s c + 1) b) else .error (Js.wrong s (Js.sp s c)))
    else .error (Js.wrong s (Js.sp s i)) := by
  rw [Js.lsF]
  by_cases h : Js.nx s (Js.sp s i) = 34
  · rw [if_pos h]
    cases ht : Js.tx s (Js.sp s i) with
    | error e => simp [h, ht]
    | ok tc =>
      obtain ⟨t, c⟩ := tc
      by_cases hc : ns.contains ⟨t.toArray⟩ = true
      · simp only [if_true, h, ht, ne_eq, not_true_eq_false, if_false, hc]
      · by_cases h58 : Js.nx s (Js.sp s c) = 58
        · simp only [if_true, h, ht, ne_eq, not_true_eq_false, if_false, hc, h58, Bool.false_eq_true]
          cases val (Js.sp s c + 1) b with
          | error e => rfl
          | ok y => rfl
        · simp only [if_true, h, ht, ne_eq, not_true_eq_false, if_false, hc, h58, Bool.false_eq_true]
  · rw [if_neg h]
    simp [h]
theorem Js.txF_ok (s : ByteArray) : ∀ f k acc t c, k ≤ s.size → Js.txF s f k acc = .ok (t, c) → k < c ∧ c ≤ s.size
  | 0, k, acc, t, c, _, h => by rw [Js.txF] at h; cases h
  | f + 1, k, acc, t, c, hk, h => by
    rw [Js.txF] at h
    by_cases h0 : Js.nx s k < 32
    · rw [if_pos h0] at h; cases h
    · rw [if_neg h0] at h
      have hlt : k < s.size := Nat.lt_of_not_le fun hh => by have := Js.nx_end s _ hh; omega
      by_cases h1 : Js.nx s k = 34
      · rw [if_pos h1] at h; cases h; omega
      · rw [if_neg h1] at h
        by_cases h2 : Js.nx s k = 92
        · rw [if_pos h2] at h
          cases he : Js.esc s k with
          | error e => rw [he] at h; cases h
          | ok y =>
            obtain ⟨x, j⟩ := y
            rw [he] at h
            have h3 := Js.esc_ok s k x j he
            have := Js.txF_ok s f j _ t c h3.2.2 h
            omega
        · rw [if_neg h2] at h
          have := Js.txF_ok s f (k + 1) _ t c hlt h
          omega
theorem Js.tx_ok (s : ByteArray) (k : Nat) (t : List UInt8) (c : Nat) (h : Js.tx s k = .ok (t, c)) : k < c ∧ c ≤ s.size := by
  unfold Js.tx at h
  by_cases hk : k + 1 ≤ s.size
  · have := Js.txF_ok s _ (k + 1) [] t c hk h
    omega
  · rw [show s.size + 1 - (k + 1) = 0 by omega, Js.txF] at h
    cases h
theorem Js.bytes_beq (a b : ByteArray) : (a == b) = true ↔ a = b := by
  cases a with | mk x => cases b with | mk y =>
  show (x == y) = true ↔ _
  rw [beq_iff_eq]
  exact ⟨fun h => by rw [h], fun h => by cases h; rfl⟩
theorem Js.has_iff (x : ByteArray) : ∀ ns : List ByteArray, ns.contains x = true ↔ x ∈ ns
  | [] => by simp
  | y :: r => by rw [List.contains_cons, Bool.or_eq_true, Js.bytes_beq, Js.has_iff x r, List.mem_cons]
theorem Js.contains_is {B : Nat} {v : Value} {ns : List ByteArray} {w : World} (h : OwnR Js.sR B v ns w) (x : ByteArray) :
    Calls Tryd.prog 85 #[v, .string x] w fun e w' => e = .returned (.bool (ns.contains x)) ∧ w' = w := by
  rcases h.open Js.sOk with ⟨rfl, rfl⟩ | ⟨g, c, rfl, _, _, hc, hm, hA⟩
  · exact Tryd.slices_Contains_string_empty none 0 x w
  · have hb : Lib.containsS (ns.take ns.length) x = ns.contains x := by
      rw [List.take_length]
      by_cases hx : x ∈ ns
      · rw [(Js.has_iff x ns).2 hx, Lib.containsS_iff]; exact hx
      · rw [Bool.eq_iff_iff, Lib.containsS_iff, Js.has_iff]
    have h9 := Tryd.slices_Contains_string g 0 ns.length c ns x w (Nat.le_refl _) (by unfold maxLen at hm; omega) (fun j hj => by
      have h8 := hA j hj 0 (by decide)
      rw [Nat.zero_add, show j = j * Js.sR.k + 0 by simp [Js.sR], h8]
      simp [Js.sR, List.getD_eq_getElem?_getD, hj])
    rw [hb] at h9
    exact h9

theorem Js.lsF_arr (s : ByteArray) (val : Nat → Nat → Js.R (Js.V × Nat × Nat)) (f i b : Nat) (xs : List Js.V) : Js.lsF s false val (f + 1) i b [] xs = match val i b with
    | .error e => .error e
    | .ok (x, k, b) => if Js.nx s (Js.sp s k) = 93 then .ok (.mk 6 ⟨#[]⟩ [] (xs ++ [x]), Js.sp s k + 1, b) else if Js.nx s (Js.sp s k) = 44 then Js.lsF s false val f (Js.sp s k + 1) b [] (xs ++ [x]) else .error (Js.wrong s (Js.sp s k)) := by
  rw [Js.lsF]
  rfl

set_option maxHeartbeats 4000000 in
theorem Js.list_arr (R : Nat) (s : ByteArray) (o d : Nat) (HV : Js.ValIs R s o d) (HVO : Js.ValOk s d) (hs : s.size ≤ 1000000) (k b : Nat) (w : World) (hR : w.heap[R]? = some (Js.obj s k o b)) (hk : k ≤ s.size) (hb : b ≤ 4096) :
    Calls Tryd.prog 82 #[.pointer (some ⟨R, 0, none⟩), .int .u8 91] w (Js.VRes R s o w (Js.ls s false (Js.val s d) k b)) := by
  have HRW := lt_of_heap hR
  obtain ⟨X, hX⟩ : ∃ X, Js.ls s false (Js.val s d) k b = X := ⟨_, rfl⟩
  rw [hX]
  obtain ⟨a, ha⟩ : ∃ a, Js.sp s k = a := ⟨_, rfl⟩
  have hab : a ≤ s.size := ha ▸ Js.sp_le s k hk
  have HX : Hid ((if Js.nx s a = 93 then .ok (.mk 6 ⟨#[]⟩ [] [], a + 1, b) else Js.lsF s false (Js.val s d) (s.size + 1 - a) a b [] [] : Js.R (Js.V × Nat × Nat)) = X) := by
    unfold Js.ls at hX
    rw [ha] at hX
    exact hX
  have HL0 : Hid (Js.LInv R s o 6 w [] (.slice none 0 0) [] (.slice none 0 0) k b ((w.alloc (.cells #[.int .u8 0, .string ⟨#[]⟩, .slice none 0 0, .slice none 0 0] 27)).alloc (.cells #[.int .u8 6, .string ⟨#[]⟩, .slice none 0 0, .slice none 0 0] 27))) :=
    ⟨alloc_kept (alloc_kept hR), alloc_kept (alloc_new _ _), by have h9 := alloc_new (w.alloc (.cells #[.int .u8 0, .string ⟨#[]⟩, .slice none 0 0, .slice none 0 0] 27)) (.cells #[.int .u8 6, .string ⟨#[]⟩, .slice none 0 0, .slice none 0 0] 27); rw [World.size_alloc] at h9; exact h9, Kp.of (((Below.refl w.heap.size w).alloc (Nat.le_refl _) _).alloc (by simp) _) (Nat.le_refl _), OwnR.nil _ _ _, OwnR.nil _ _ _, fun t ht => by cases ht⟩
  have HSP := Lib.hid (fun w' (h : w'.heap[R]? = some (Js.obj s k o b)) => Js.space_is R s k o b w' h hk hs)
  rw [ha] at HSP
  clear hX ha hR
  go_enter Tryd.func82, Tryd.ntmps82
  go_wp2_with (go_at_call 53; refine (HSP.out _ HL0.out.r).mono ?_)
  rintro e w1 ⟨rfl, r1, k1⟩
  have HL1 := Lib.hid (HL0.out.move k1 HRW r1)
  have HN := Lib.hid (fun w' (h : w'.heap[R]? = some (Js.obj s a o b)) => Js.next_is R s a o b w' h hab)
  have hc256 := Js.nx_lt s a
  have f1 := Lib.frozen_of_heap r1 1
  have c1 : w1.cell? ⟨R, 1, none⟩ = some (.int .i64 a) := by rw [Lib.cell_of_heap r1]; rfl
  have hal : Js.nx s a ≠ 0 → a < s.size := fun h => Nat.lt_of_not_le fun hh => h (Js.nx_end s _ hh)
  clear HL0 HSP k1 r1
  by_cases hE9 : Js.nx s a = 93
  · have HE : Hid (X = .ok (.mk 6 ⟨#[]⟩ [] [], a + 1, b)) := by have h9 : _ = X := HX.out; rw [if_pos hE9] at h9; exact h9.symm
    have hlt := hal (by omega)
    rw [hE9] at HN
    have v0 : w1.cell? ⟨w.heap.size + 1, 0, none⟩ = some (.int .u8 6) := by rw [Lib.cell_of_heap HL1.out.v]; rfl
    have v1 : w1.cell? ⟨w.heap.size + 1, 1, none⟩ = some (.string ⟨#[]⟩) := by rw [Lib.cell_of_heap HL1.out.v]; rfl
    have v2 : w1.cell? ⟨w.heap.size + 1, 2, none⟩ = some (.slice none 0 0) := by rw [Lib.cell_of_heap HL1.out.v]; rfl
    have v3 : w1.cell? ⟨w.heap.size + 1, 3, none⟩ = some (.slice none 0 0) := by rw [Lib.cell_of_heap HL1.out.v]; rfl
    have t0 : w1.cell? ⟨w.heap.size, 0, none⟩ = some (.int .u8 0) := by rw [Lib.cell_of_heap HL1.out.res]; rfl
    have g0 : w1.frozen? ⟨w.heap.size, 0, none⟩ = false := Lib.frozen_of_heap HL1.out.res 0
    have t1 : w1.cell? ⟨w.heap.size, 1, none⟩ = some (.string ⟨#[]⟩) := by rw [Lib.cell_of_heap HL1.out.res]; rfl
    have g1 : w1.frozen? ⟨w.heap.size, 1, none⟩ = false := Lib.frozen_of_heap HL1.out.res 1
    have t2 : w1.cell? ⟨w.heap.size, 2, none⟩ = some (.slice none 0 0) := by rw [Lib.cell_of_heap HL1.out.res]; rfl
    have g2 : w1.frozen? ⟨w.heap.size, 2, none⟩ = false := Lib.frozen_of_heap HL1.out.res 2
    have t3 : w1.cell? ⟨w.heap.size, 3, none⟩ = some (.slice none 0 0) := by rw [Lib.cell_of_heap HL1.out.res]; rfl
    have g3 : w1.frozen? ⟨w.heap.size, 3, none⟩ = false := Lib.frozen_of_heap HL1.out.res 3
    clear HX hal
    go_wp2_with fail
    go_quiet ((go_at_call 81; exact Calls.quiet_of (HN.out _ (Js.drew_heap HL1.out.r _))))
    go_wp2
    refine Js.ret_store rfl rfl (((Kp.refl R _).set 1 _).block _ (by simpa using lt_of_heap HL1.out.res) (by omega) |>.trans (by simpa using HL1.out.res)) rfl fun w' kV => Js.VRes.ok _ _ _ HE.out ?_
    have HL2 := (HL1.out.move ((Kp.refl R w1).drew nq) HRW (Js.drew_heap HL1.out.r _)).move ((Kp.refl R _).set 1 (.int .i64 ((a : Int) + 1))) HRW (Js.set_at (Js.drew_heap HL1.out.r _) _ _ (by go_num))
    exact HL2.ret HRW kV
  · have HX1 : Hid (Js.lsF s false (Js.val s d) (s.size + 1 - a) a b [] [] = X) := by have h9 : _ = X := HX.out; rw [if_neg hE9] at h9; exact h9
    clear HX
    obtain ⟨c, hc⟩ : ∃ c, Js.nx s a = c := ⟨_, rfl⟩
    rw [hc] at HN hE9 hal
    clear hc hc256
    have hbE : ((c : Int) == (((⟨#[93]⟩ : ByteArray)[0]'(by decide)).toNat : Int)) = false := Js.beq_f (by show (c : Int) ≠ 93; omega)
    go_wp2_with fail
    go_quiet ((go_at_call 81; exact Calls.quiet_of (HN.out _ (Js.drew_heap HL1.out.r _))))
    have HLs := Lib.hid (HL1.out.move ((Kp.refl R w1).drew nq) HRW (Js.drew_heap HL1.out.r _))
    generalize w1.drewN nq = w2 at HLs ⊢
    clear HN HL1 hal c1 f1 hbE
    go_wp2_with fail
    go_loopg [] (s.size + 1) (fun gk wr => ∃ (i b' f : Nat) (its : List Js.It) (iv : Value), i ≤ s.size ∧ b' ≤ 4096 ∧ s.size + 1 ≤ f + i ∧ s.size < gk + i ∧ its.length ≤ i ∧ Hid (Js.lsF s false (Js.val s d) f i b' [] (its.map Js.It.x) = X) ∧ Hid (Js.LInv R s o 6 w [] (.slice none 0 0) its iv i b' wr))
    case atStart => exact ⟨a, b, s.size + 1 - a, [], .slice none 0 0, hab, hb, by omega, by omega, Nat.zero_le _, HX1.out, HLs.out⟩
    case round =>
      clear HX1 HLs
      obtain ⟨i, b', f, its, iv, hi, hb', hf, hg, hil, HX, HL⟩ := hrel
      obtain ⟨f', rfl⟩ : ∃ f', f = f' + 1 := ⟨f - 1, by omega⟩
      obtain ⟨g', rfl⟩ : ∃ g', gk = g' + 1 := ⟨gk - 1, by omega⟩
      have HV1 := Lib.hid (HV i b')
      have HO1 := HVO i b'
      obtain ⟨E, hE⟩ : ∃ E, Js.val s d i b' = E := ⟨_, rfl⟩
      have HX2 := Lib.hid (Js.lsF_arr s (Js.val s d) f' i b' (its.map Js.It.x))
      rw [hE] at HV1 HO1 HX2
      have HX3 : Hid (_ = X) := (show _ = _ from HX2.out).symm.trans HX.out
      clear hE HX HX2
      go_wp2_with fail
      refine wp_region_inv (by kernel_rfl) (by kernel_rfl) (fun a0 d a w' => ∃ t63 t64 t65 t66 t67 t68 t69 : Value, a = (((((((a0.put (some 63) t63).put (some 64) t64).put (some 65) t65).put (some 66) t66).put (some 67) t67).put (some 68) t68).put (some 69) t69) ∧ Js.RI R s o 6 w [] (.slice none 0 0) its iv i b' E d t63 t64 t65 t66 t67 t68 t69 w') ?h0 ?hs ?he
      case h0 => exact ⟨u63, u64, u65, u66, u67, u68, u69, (by go_frame), Js.RI.start (HL.out.move ((Kp.refl R wr).drew 1) HRW (Js.drew_heap HL.out.r 1))⟩
      case hs =>
        refine ⟨?_, ?_, ?_, ?_, ?_, ?_, ?_, ?_, trivial⟩
        · rintro d a w' hd hdep ⟨t63, t64, t65, t66, t67, t68, t69, rfl, h⟩ K hK
          rw [if_pos (by rfl)]
          go_frame
          go_simp
          exact hK _ _ ⟨.pointer (some ⟨w.heap.size + 1, 3, none⟩), _, _, _, _, _, _, (by go_frame), h.s0 rfl⟩
        · rintro d a w' hd hdep ⟨t63, t64, t65, t66, t67, t68, t69, rfl, h⟩ K hK
          rw [if_pos (by rfl)]
          go_frame
          obtain rfl := h.f0 (hdep 0 (by decide))
          have hc5 : d 5 = false := by cases h5 : d 5 with | false => rfl | true => exact absurd (h.ord h5) (by rw [hd]; decide)
          have hv := h.cell hc5
          have hc : w'.cell? ⟨w.heap.size + 1, 3, none⟩ = some iv := by rw [Lib.cell_of_heap hv]; rfl
          go_simp
          exact hK _ _ ⟨_, iv, _, _, _, _, _, (by go_frame), h.s1 rfl⟩
        · rintro d a w' hd hdep ⟨t63, t64, t65, t66, t67, t68, t69, rfl, h⟩ K hK
          rw [if_pos (by rfl)]
          go_frame
          go_simp
          exact hK _ _ ⟨_, _, .pointer (some ⟨R, 0, none⟩), _, _, _, _, (by go_frame), h.s2 rfl⟩
        · rintro d a w' hd hdep ⟨t63, t64, t65, t66, t67, t68, t69, rfl, h⟩ K hK
          rw [if_pos (by rfl)]
          go_frame
          obtain rfl := h.f2 (hdep 2 (by decide))
          obtain ⟨-, -, -, hL⟩ := h.at3 hd
          go_simp
          refine (HV1.out _ hL.r hi hb').mono ?_
          cases E with
          | error p =>
            rintro e w2 ⟨rfl, k2⟩
            go_simp
            exact bodyPost_stop rfl (Js.VRes.bad p (show .error p = X from HX3.out).symm ⟨rfl, hL.kp.trans k2⟩)
          | ok y =>
            obtain ⟨x, j, b2⟩ := y
            rintro e w2 ⟨t, rfl, rfl, r2, k2, hv2⟩
            go_simp
            exact hK _ _ ⟨_, _, _, .agg #[.int .u8 t.x.kind, .string t.x.text, t.nv, t.iv], _, _, _, (by go_frame), h.s3 hd ⟨t, t.x, j, b2, rfl, rfl, rfl, hL.move k2 HRW r2, hL.item hv2 (Kp.refl _ _) HRW⟩⟩
        · rintro d a w' hd hdep ⟨t63, t64, t65, t66, t67, t68, t69, rfl, h⟩ K hK
          rw [if_pos (by rfl)]
          go_frame
          have h3 := hdep 3 (by decide)
          obtain ⟨-, -, t, x, j, b2, hE, rfl, rfl, hL, hv⟩ := h.at4 h3 hd
          have kA : ∀ o, Kp R w' (w'.alloc o) := fun o => Kp.of ((Below.refl w'.heap.size w').alloc (Nat.le_refl _) o) (Nat.le_refl _)
          go_simp
          exact hK _ _ ⟨_, _, _, _, .slice (some ⟨w'.heap.size, 0, none⟩) 1 1, _, _, (by go_frame), h.s4 h3 hd ⟨t, t.x, j, b2, w'.heap.size, 1, hE, rfl, rfl, alloc_new _ _, hL.move (kA _) HRW (alloc_kept hL.r), Js.VAt.move ⟨fun q hq hl => (kA _).block q hl (by have := hq.1; omega), fun q hq _ => hq⟩ _ _ _ hv⟩⟩
        · rintro d a w' hd hdep ⟨t63, t64, t65, t66, t67, t68, t69, rfl, h⟩ K hK
          rw [if_pos (by rfl)]
          go_frame
          have h1 := hdep 1 (by decide)
          have h3 := hdep 3 (by decide)
          have h4 := hdep 4 (by decide)
          obtain rfl := h.f1 h1
          obtain ⟨-, t, x, j, b2, G, c, hE, rfl, rfl, hG, hL, hv⟩ := h.at5 h3 h4 hd
          refine wp_pushN Js.iOk 25 Tryd.underlying25 (.tmp 64) (.tmp 67) (by rfl) (w.heap.size + 2) t64 its (by simp [Act.eval]) hL.hits t _ rfl G c (by simp [Act.eval]) hG (by omega) (by have h8 := lt_of_heap hL.v; omega) ?_
          intro g cap w2 hown hgrow hfresh
          exact hK _ _ ⟨_, _, _, _, _, _, _, (by go_frame), h.s5 h1 h3 h4 hd ⟨t, t.x, j, b2, _, _, _, hE, rfl, rfl, (hgrow.block _ (lt_of_heap hL.v) (fun e => by have h8 := (hL.hits.block_lt e.symm).1; omega)).trans hL.v, hL.push HRW t hv hown hgrow hfresh⟩⟩
        · rintro d a w' hd hdep ⟨t63, t64, t65, t66, t67, t68, t69, rfl, h⟩ K hK
          rw [if_pos (by rfl)]
          go_frame
          go_simp
          exact hK _ _ ⟨_, _, _, _, _, _, .pointer (some ⟨w.heap.size + 1, 3, none⟩), (by go_frame), h.s6 rfl⟩
        · rintro d a w' hd hdep ⟨t63, t64, t65, t66, t67, t68, t69, rfl, h⟩ K hK
          rw [if_pos (by rfl)]
          go_frame
          have h5 := hdep 5 (by decide)
          obtain rfl := h.f6 (hdep 6 (by decide))
          obtain ⟨-, -, t, x, j, b2, q, m, c, hE, rfl, rfl, hv, hL⟩ := h.at7 h5 hd
          have hc : w'.cell? ⟨w.heap.size + 1, 3, none⟩ = some iv := by rw [Lib.cell_of_heap hv]; rfl
          have hf := Lib.frozen_of_heap hv 3
          go_simp
          exact hK _ _ ⟨_, _, _, _, _, _, _, (by go_frame), h.s7 h5 hd ⟨t, t.x, j, b2, _, hE, rfl, hL⟩⟩
      case he =>
        rintro a0 w5 ⟨t63, t64, t65, t66, t67, t68, t69, rfl, h⟩
        obtain ⟨t, x, j, b2, iv2, rfl, rfl, hL⟩ := h.fin
        go_frame
        clear h
        obtain ⟨hj1, hj2, hb2⟩ := HO1 t.x j b2 hi hb' rfl
        have HX4 : Hid ((if Js.nx s (Js.sp s j) = 93 then .ok (.mk 6 ⟨#[]⟩ [] (its.map Js.It.x ++ [t.x]), Js.sp s j + 1, b2) else if Js.nx s (Js.sp s j) = 44 then Js.lsF s false (Js.val s d) f' (Js.sp s j + 1) b2 [] (its.map Js.It.x ++ [t.x]) else .error (Js.wrong s (Js.sp s j)) : Js.R (Js.V × Nat × Nat)) = X) := HX3.out
        have hmap : its.map Js.It.x ++ [t.x] = (its ++ [t]).map Js.It.x := by rw [List.map_append]; rfl
        rw [hmap] at HX4
        have HLt := Lib.hid hL
        have hlen2 : (its ++ [t]).length ≤ i + 1 := by rw [List.length_append]; simpa using hil
        generalize its ++ [t] = its2 at HX4 HLt hlen2
        clear HX3 HO1 HV1 hL hmap HL hil
        obtain ⟨a2, ha2⟩ : ∃ a2, Js.sp s j = a2 := ⟨_, rfl⟩
        have ha2b : j ≤ a2 ∧ a2 ≤ s.size := ha2 ▸ ⟨Js.sp_ge s j, Js.sp_le s j hj2⟩
        have HSP2 := Lib.hid (fun w' (h : w'.heap[R]? = some (Js.obj s j o b2)) => Js.space_is R s j o b2 w' h hj2 hs)
        rw [ha2] at HX4 HSP2
        clear ha2
        go_wp2_with (go_at_call 53; refine (HSP2.out _ HLt.out.r).mono ?_)
        rintro e w6 ⟨rfl, r6, k6⟩
        have HL6 := Lib.hid (HLt.out.move k6 HRW r6)
        have ha3 : Js.nx s a2 ≠ 0 → a2 < s.size := fun h => Nat.lt_of_not_le fun hh => h (Js.nx_end s _ hh)
        clear HSP2 r6 k6 HLt
        by_cases hE9 : Js.nx s a2 = 93
        · have HE : Hid (X = .ok (.mk 6 ⟨#[]⟩ [] (its2.map Js.It.x), a2 + 1, b2)) := by have h9 : _ = X := HX4.out; rw [if_pos hE9] at h9; exact h9.symm
          have hlt := ha3 (by omega)
          have HW := Lib.hid (fun w' (h : w'.heap[R]? = some (Js.obj s a2 o b2)) => Js.want_ok ⟨#[44, 93]⟩ R s a2 o b2 w' h hlt hs (by omega) (by rw [hE9]; decide))
          rw [hE9] at HW
          clear HX4
          go_wp2_with fail
          go_region_held3 (fun _ => True) (first | trivial | go_keep) ((go_at_call 106; refine (HW.out _ (Js.drew_heap HL6.out.r 1)).mono ?_; rintro e w7 ⟨rfl, r7, k7⟩))
          all_goals
            have HL7 := Lib.hid ((HL6.out.move ((Kp.refl R w6).drew 1) HRW (Js.drew_heap HL6.out.r 1)).move k7 HRW r7)
            obtain ⟨q, cq, hq, -⟩ := HL7.out.hits.shape
            subst hq
            have v0 : w7.cell? ⟨w.heap.size + 1, 0, none⟩ = some (.int .u8 6) := by rw [Lib.cell_of_heap HL7.out.v]; rfl
            have v1 : w7.cell? ⟨w.heap.size + 1, 1, none⟩ = some (.string ⟨#[]⟩) := by rw [Lib.cell_of_heap HL7.out.v]; rfl
            have v2 : w7.cell? ⟨w.heap.size + 1, 2, none⟩ = some (.slice none 0 0) := by rw [Lib.cell_of_heap HL7.out.v]; rfl
            have v3 : w7.cell? ⟨w.heap.size + 1, 3, none⟩ = some (.slice q its2.length cq) := by rw [Lib.cell_of_heap HL7.out.v]; rfl
            have t0 : w7.cell? ⟨w.heap.size, 0, none⟩ = some (.int .u8 0) := by rw [Lib.cell_of_heap HL7.out.res]; rfl
            have g0 : w7.frozen? ⟨w.heap.size, 0, none⟩ = false := Lib.frozen_of_heap HL7.out.res 0
            have t1 : w7.cell? ⟨w.heap.size, 1, none⟩ = some (.string ⟨#[]⟩) := by rw [Lib.cell_of_heap HL7.out.res]; rfl
            have g1 : w7.frozen? ⟨w.heap.size, 1, none⟩ = false := Lib.frozen_of_heap HL7.out.res 1
            have t2 : w7.cell? ⟨w.heap.size, 2, none⟩ = some (.slice none 0 0) := by rw [Lib.cell_of_heap HL7.out.res]; rfl
            have g2 : w7.frozen? ⟨w.heap.size, 2, none⟩ = false := Lib.frozen_of_heap HL7.out.res 2
            have t3 : w7.cell? ⟨w.heap.size, 3, none⟩ = some (.slice none 0 0) := by rw [Lib.cell_of_heap HL7.out.res]; rfl
            have g3 : w7.frozen? ⟨w.heap.size, 3, none⟩ = false := Lib.frozen_of_heap HL7.out.res 3
            clear r7 k7 HL6 HW
            go_wp2
            refine Js.ret_store rfl rfl HL7.out.res rfl fun w' kV => Js.VRes.ok _ _ _ HE.out (HL7.out.ret HRW kV)
        · by_cases h44 : Js.nx s a2 = 44
          · have HX5 : Hid (Js.lsF s false (Js.val s d) f' (a2 + 1) b2 [] (its2.map Js.It.x) = X) := by have h9 : _ = X := HX4.out; rw [if_neg hE9, if_pos h44] at h9; exact h9
            have hlt := ha3 (by omega)
            have HW := Lib.hid (fun w' (h : w'.heap[R]? = some (Js.obj s a2 o b2)) => Js.want_ok ⟨#[44, 93]⟩ R s a2 o b2 w' h hlt hs (by omega) (by rw [h44]; decide))
            rw [h44] at HW
            clear HX4
            go_wp2_with fail
            go_region_held3 (fun _ => True) (first | trivial | go_keep) ((go_at_call 106; refine (HW.out _ (Js.drew_heap HL6.out.r 1)).mono ?_; rintro e w7 ⟨rfl, r7, k7⟩))
            all_goals
              have HL7 := Lib.hid ((HL6.out.move ((Kp.refl R w6).drew 1) HRW (Js.drew_heap HL6.out.r 1)).move k7 HRW r7)
              clear r7 k7 HL6 HW
              go_wp2
              go_roundg g'
              case measure => omega
              case rel => exact ⟨a2 + 1, b2, f', its2, iv2, by omega, hb2, by omega, by omega, by omega, HX5.out, HL7.out⟩
          · have HE : Hid (X = .error (Js.wrong s a2)) := by have h9 : _ = X := HX4.out; rw [if_neg hE9, if_neg h44] at h9; exact h9.symm
            have HW := Lib.hid (fun w' (h : w'.heap[R]? = some (Js.obj s a2 o b2)) => Js.want_bad ⟨#[44, 93]⟩ R s a2 o b2 w' h ha2b.2 (fun _ => by
              show decide (0 ≤ Lib.indexByte [44, 93] (UInt8.ofNat (Js.nx s a2))) = false
              rw [Js.ix_two, show (44 : UInt8) = UInt8.ofNat 44 from rfl, show (93 : UInt8) = UInt8.ofNat 93 from rfl, Js.u8_eq _ 44 (Js.nx_lt s _) (by omega), Js.u8_eq _ 93 (Js.nx_lt s _) (by omega), decide_eq_false h44, decide_eq_false hE9]; rfl))
            clear HX4
            go_wp2_with fail
            refine wp_region_inv (by kernel_rfl) (by kernel_rfl) (fun a0 d a w' => ∃ t72 t73 t74 t75 t76 t77 t78 : Value, a = (((((((a0.put (some 72) t72).put (some 73) t73).put (some 74) t74).put (some 75) t75).put (some 76) t76).put (some 77) t77).put (some 78) t78) ∧ w' = w6.drew ∧ d 3 = false ∧ (d 0 = true → t72 = .pointer (some ⟨R, 0, none⟩)) ∧ (d 1 = true → t73 = .string ⟨#[93]⟩) ∧ (d 2 = true → t74 = .string ⟨#[44, 93]⟩) ∧ (d 4 = true → t76 = .string ⟨#[93]⟩)) ?h0 ?hs ?he
            case h0 => exact ⟨u72, u73, u74, u75, u76, u77, u78, (by go_frame), rfl, rfl, (fun q => by cases q), (fun q => by cases q), (fun q => by cases q), (fun q => by cases q)⟩
            case hs =>
              refine ⟨?_, ?_, ?_, ?_, ?_, ?_, ?_, trivial⟩
              · rintro d a w' hd hdep ⟨t72, t73, t74, t75, t76, t77, t78, rfl, rfl, q3, q0, q1, q2, q4⟩ K hK
                rw [if_pos (by rfl)]
                go_frame
                go_simp
                exact hK _ _ ⟨.pointer (some ⟨R, 0, none⟩), t73, t74, t75, t76, t77, t78, (by go_frame), rfl, (by simp [q3]), (fun _ => rfl), (fun q => q1 (by simpa using q)), (fun q => q2 (by simpa using q)), (fun q => q4 (by simpa using q))⟩
              · rintro d a w' hd hdep ⟨t72, t73, t74, t75, t76, t77, t78, rfl, rfl, q3, q0, q1, q2, q4⟩ K hK
                rw [if_pos (by rfl)]
                go_frame
                go_simp
                exact hK _ _ ⟨t72, .string ⟨#[93]⟩, t74, t75, t76, t77, t78, (by go_frame), rfl, (by simp [q3]), (fun q => q0 (by simpa using q)), (fun _ => rfl), (fun q => q2 (by simpa using q)), (fun q => q4 (by simpa using q))⟩
              · rintro d a w' hd hdep ⟨t72, t73, t74, t75, t76, t77, t78, rfl, rfl, q3, q0, q1, q2, q4⟩ K hK
                rw [if_pos (by rfl)]
                go_frame
                obtain rfl := q1 (hdep 1 (by decide))
                have hcat : (⟨#[44]⟩ : ByteArray) ++ ⟨#[93]⟩ = ⟨#[44, 93]⟩ := by decide
                go_simp
                exact hK _ _ ⟨t72, .string ⟨#[93]⟩, .string ⟨#[44, 93]⟩, t75, t76, t77, t78, (by go_frame), rfl, (by simp [q3]), (fun q => q0 (by simpa using q)), (fun q => q1 (by simpa using q)), (fun _ => rfl), (fun q => q4 (by simpa using q))⟩
              · rintro d a w' hd hdep ⟨t72, t73, t74, t75, t76, t77, t78, rfl, rfl, q3, q0, q1, q2, q4⟩ K hK
                rw [if_pos (by rfl)]
                go_frame
                obtain rfl := q0 (hdep 0 (by decide))
                obtain rfl := q2 (hdep 2 (by decide))
                go_simp
                refine (HW.out _ (Js.drew_heap HL6.out.r 1)).mono ?_
                rintro e w7 ⟨rfl, k7⟩
                go_simp
                exact bodyPost_stop rfl (Js.VRes.bad _ HE.out ⟨rfl, (HL6.out.kp.drew 1).trans k7⟩)
              · rintro d a w' hd hdep ⟨t72, t73, t74, t75, t76, t77, t78, rfl, rfl, q3, q0, q1, q2, q4⟩ K hK
                rw [if_pos (by rfl)]
                go_frame
                go_simp
                exact hK _ _ ⟨t72, t73, t74, t75, .string ⟨#[93]⟩, t77, t78, (by go_frame), rfl, (by simp [q3]), (fun q => q0 (by simpa using q)), (fun q => q1 (by simpa using q)), (fun q => q2 (by simpa using q)), (fun _ => rfl)⟩
              · rintro d a w' hd hdep ⟨t72, t73, t74, t75, t76, t77, t78, rfl, rfl, q3, q0, q1, q2, q4⟩ K hK
                rw [if_pos (by rfl)]
                go_frame
                obtain rfl := q4 (hdep 4 (by decide))
                go_simp
                exact hK _ _ ⟨t72, t73, t74, t75, .string ⟨#[93]⟩, .int .u8 (((⟨#[93]⟩ : ByteArray)[0]'(by decide)).toNat : Int), t78, (by go_frame), rfl, (by simp [q3]), (fun q => q0 (by simpa using q)), (fun q => q1 (by simpa using q)), (fun q => q2 (by simpa using q)), (fun q => q4 (by simpa using q))⟩
              · rintro d a w' hd hdep ⟨t72, t73, t74, t75, t76, t77, t78, rfl, rfl, q3, q0, q1, q2, q4⟩ K hK
                rw [if_pos (by rfl)]
                go_frame
                exact absurd (hdep 3 (by decide)) (by rw [q3]; decide)
            case he =>
              rintro a0 w7 ⟨t72, t73, t74, t75, t76, t77, t78, rfl, rfl, q3, -⟩
              exact absurd q3 (by decide)


set_option maxHeartbeats 4000000 in
theorem Js.list_obj (R : Nat) (s : ByteArray) (o d : Nat) (HV : Js.ValIs R s o d) (HVO : Js.ValOk s d) (hs : s.size ≤ 1000000) (k b : Nat) (w : World) (hR : w.heap[R]? = some (Js.obj s k o b)) (hk : k ≤ s.size) (hb : b ≤ 4096) :
    Calls Tryd.prog 82 #[.pointer (some ⟨R, 0, none⟩), .int .u8 123] w (Js.VRes R s o w (Js.ls s true (Js.val s d) k b)) := by
  have HRW := lt_of_heap hR
  obtain ⟨X, hX⟩ : ∃ X, Js.ls s true (Js.val s d) k b = X := ⟨_, rfl⟩
  rw [hX]
  obtain ⟨a, ha⟩ : ∃ a, Js.sp s k = a := ⟨_, rfl⟩
  have hab : a ≤ s.size := ha ▸ Js.sp_le s k hk
  have HX : Hid ((if Js.nx s a = 125 then .ok (.mk 7 ⟨#[]⟩ [] [], a + 1, b) else Js.lsF s true (Js.val s d) (s.size + 1 - a) a b [] [] : Js.R (Js.V × Nat × Nat)) = X) := by
    unfold Js.ls at hX
    rw [ha] at hX
    exact hX
  have HL0 : Hid (Js.LInv R s o 7 w [] (.slice none 0 0) [] (.slice none 0 0) k b ((w.alloc (.cells #[.int .u8 0, .string ⟨#[]⟩, .slice none 0 0, .slice none 0 0] 27)).alloc (.cells #[.int .u8 7, .string ⟨#[]⟩, .slice none 0 0, .slice none 0 0] 27))) :=
    ⟨alloc_kept (alloc_kept hR), alloc_kept (alloc_new _ _), by have h9 := alloc_new (w.alloc (.cells #[.int .u8 0, .string ⟨#[]⟩, .slice none 0 0, .slice none 0 0] 27)) (.cells #[.int .u8 7, .string ⟨#[]⟩, .slice none 0 0, .slice none 0 0] 27); rw [World.size_alloc] at h9; exact h9, Kp.of (((Below.refl w.heap.size w).alloc (Nat.le_refl _) _).alloc (by simp) _) (Nat.le_refl _), OwnR.nil _ _ _, OwnR.nil _ _ _, fun t ht => by cases ht⟩
  have HSP := Lib.hid (fun w' (h : w'.heap[R]? = some (Js.obj s k o b)) => Js.space_is R s k o b w' h hk hs)
  rw [ha] at HSP
  clear hX ha hR
  go_enter Tryd.func82, Tryd.ntmps82
  go_wp2_with (go_at_call 53; refine (HSP.out _ HL0.out.r).mono ?_)
  rintro e w1 ⟨rfl, r1, k1⟩
  have HL1 := Lib.hid (HL0.out.move k1 HRW r1)
  have HN := Lib.hid (fun w' (h : w'.heap[R]? = some (Js.obj s a o b)) => Js.next_is R s a o b w' h hab)
  have hc256 := Js.nx_lt s a
  have f1 := Lib.frozen_of_heap r1 1
  have c1 : w1.cell? ⟨R, 1, none⟩ = some (.int .i64 a) := by rw [Lib.cell_of_heap r1]; rfl
  have hal : Js.nx s a ≠ 0 → a < s.size := fun h => Nat.lt_of_not_le fun hh => h (Js.nx_end s _ hh)
  clear HL0 HSP k1 r1
  by_cases hE9 : Js.nx s a = 125
  · have HE : Hid (X = .ok (.mk 7 ⟨#[]⟩ [] [], a + 1, b)) := by have h9 : _ = X := HX.out; rw [if_pos hE9] at h9; exact h9.symm
    have hlt := hal (by omega)
    rw [hE9] at HN
    have v0 : w1.cell? ⟨w.heap.size + 1, 0, none⟩ = some (.int .u8 7) := by rw [Lib.cell_of_heap HL1.out.v]; rfl
    have v1 : w1.cell? ⟨w.heap.size + 1, 1, none⟩ = some (.string ⟨#[]⟩) := by rw [Lib.cell_of_heap HL1.out.v]; rfl
    have v2 : w1.cell? ⟨w.heap.size + 1, 2, none⟩ = some (.slice none 0 0) := by rw [Lib.cell_of_heap HL1.out.v]; rfl
    have v3 : w1.cell? ⟨w.heap.size + 1, 3, none⟩ = some (.slice none 0 0) := by rw [Lib.cell_of_heap HL1.out.v]; rfl
    have t0 : w1.cell? ⟨w.heap.size, 0, none⟩ = some (.int .u8 0) := by rw [Lib.cell_of_heap HL1.out.res]; rfl
    have g0 : w1.frozen? ⟨w.heap.size, 0, none⟩ = false := Lib.frozen_of_heap HL1.out.res 0
    have t1 : w1.cell? ⟨w.heap.size, 1, none⟩ = some (.string ⟨#[]⟩) := by rw [Lib.cell_of_heap HL1.out.res]; rfl
    have g1 : w1.frozen? ⟨w.heap.size, 1, none⟩ = false := Lib.frozen_of_heap HL1.out.res 1
    have t2 : w1.cell? ⟨w.heap.size, 2, none⟩ = some (.slice none 0 0) := by rw [Lib.cell_of_heap HL1.out.res]; rfl
    have g2 : w1.frozen? ⟨w.heap.size, 2, none⟩ = false := Lib.frozen_of_heap HL1.out.res 2
    have t3 : w1.cell? ⟨w.heap.size, 3, none⟩ = some (.slice none 0 0) := by rw [Lib.cell_of_heap HL1.out.res]; rfl
    have g3 : w1.frozen? ⟨w.heap.size, 3, none⟩ = false := Lib.frozen_of_heap HL1.out.res 3
    clear HX hal
    go_wp2_with fail
    go_quiet ((go_at_call 81; exact Calls.quiet_of (HN.out _ (Js.drew_heap HL1.out.r _))))
    go_wp2
    refine Js.ret_store rfl rfl (((Kp.refl R _).set 1 _).block _ (by simpa using lt_of_heap HL1.out.res) (by omega) |>.trans (by simpa using HL1.out.res)) rfl fun w' kV => Js.VRes.ok _ _ _ HE.out ?_
    have HL2 := (HL1.out.move ((Kp.refl R w1).drew nq) HRW (Js.drew_heap HL1.out.r _)).move ((Kp.refl R _).set 1 (.int .i64 ((a : Int) + 1))) HRW (Js.set_at (Js.drew_heap HL1.out.r _) _ _ (by go_num))
    exact HL2.ret HRW kV
  · have HX1 : Hid (Js.lsF s true (Js.val s d) (s.size + 1 - a) a b [] [] = X) := by have h9 : _ = X := HX.out; rw [if_neg hE9] at h9; exact h9
    clear HX
    obtain ⟨c, hc⟩ : ∃ c, Js.nx s a = c := ⟨_, rfl⟩
    rw [hc] at HN hE9 hal
    clear hc hc256
    have hbE : ((c : Int) == (((⟨#[125]⟩ : ByteArray)[0]'(by decide)).toNat : Int)) = false := Js.beq_f (by show (c : Int) ≠ 125; omega)
    go_wp2_with fail
    go_quiet ((go_at_call 81; exact Calls.quiet_of (HN.out _ (Js.drew_heap HL1.out.r _))))
    have HLs := Lib.hid (HL1.out.move ((Kp.refl R w1).drew nq) HRW (Js.drew_heap HL1.out.r _))
    generalize w1.drewN nq = w2 at HLs ⊢
    clear HN HL1 hal c1 f1 hbE
    go_wp2_with fail
    go_loopg [] (s.size + 1) (fun gk wr => ∃ (i b' f : Nat) (ns : List ByteArray) (nv : Value) (its : List Js.It) (iv : Value), i ≤ s.size ∧ b' ≤ 4096 ∧ s.size + 1 ≤ f + i ∧ s.size < gk + i ∧ its.length ≤ i ∧ Hid (Js.lsF s true (Js.val s d) f i b' ns (its.map Js.It.x) = X) ∧ Hid (Js.LInv R s o 7 w ns nv its iv i b' wr) ∧ ns.length ≤ i)
    case atStart => exact ⟨a, b, s.size + 1 - a, [], .slice none 0 0, [], .slice none 0 0, hab, hb, by omega, by omega, Nat.zero_le _, HX1.out, HLs.out, Nat.zero_le _⟩
    case round =>
      clear HX1 HLs
      obtain ⟨i, b', f, ns, nv, its, iv, hi, hb', hf, hg, hil, HX, HL, hnl⟩ := hrel
      obtain ⟨f', rfl⟩ : ∃ f', f = f' + 1 := ⟨f - 1, by omega⟩
      obtain ⟨g', rfl⟩ : ∃ g', gk = g' + 1 := ⟨gk - 1, by omega⟩
      obtain ⟨q, hq⟩ : ∃ q, Js.sp s i = q := ⟨_, rfl⟩
      have hqb : i ≤ q ∧ q ≤ s.size := hq ▸ ⟨Js.sp_ge s i, Js.sp_le s i hi⟩
      have HX2 := Lib.hid (Js.lsF_obj s (Js.val s d) f' i b' ns (its.map Js.It.x))
      have HS3 := Lib.hid (fun w' (h : w'.heap[R]? = some (Js.obj s i o b')) => Js.space_is R s i o b' w' h hi hs)
      rw [hq] at HX2 HS3
      have HX6 : Hid (_ = X) := (show _ = _ from HX2.out).symm.trans HX.out
      clear hq HX HX2
      go_wp2_with (go_at_call 53; refine (HS3.out _ HL.out.r).mono ?_)
      rintro e w3 ⟨rfl, r3, k3⟩
      have HL3 := Lib.hid (HL.out.move k3 HRW r3)
      have c3 : w3.cell? ⟨R, 1, none⟩ = some (.int .i64 q) := by rw [Lib.cell_of_heap r3]; rfl
      have HN3 := Lib.hid (fun w' (h : w'.heap[R]? = some (Js.obj s q o b')) => Js.next_is R s q o b' w' h hqb.2)
      have hqc := Js.nx_lt s q
      have hqs : Js.nx s q ≠ 0 → q < s.size := fun h => Nat.lt_of_not_le fun hh => h (Js.nx_end s _ hh)
      clear HS3 r3 k3 HL
      by_cases h34 : Js.nx s q = 34
      case neg =>
        have HE : Hid (X = .error (Js.wrong s q)) := by have h9 : _ = X := HX6.out; rw [if_neg h34] at h9; exact h9.symm
        have HF : Hid (∀ w', w'.heap[R]? = some (Js.obj s q o b') → Calls Tryd.prog 54 #[.pointer (some ⟨R, 0, none⟩), .int .i64 143] w' (Js.Stops R (Js.wrong s q) w')) := fun w' h => by
          have h9 := Js.fail_is R s q o b' 143 w' h
          rw [if_pos rfl] at h9
          exact h9
        clear HX6
        obtain ⟨c, hc⟩ : ∃ c, Js.nx s q = c := ⟨_, rfl⟩
        rw [hc] at HN3 h34
        have hb34 : ((c : Int) == 34) = false := Js.beq_f (by omega)
        clear hc hqs hqc
        go_wp2_with (go_at_call 81; refine (HN3.out _ HL3.out.r).mono ?_)
        rintro e w4 ⟨rfl, q4, rfl⟩
        go_wp2_with (go_at_call 54; refine (HF.out _ (Js.drew_heap HL3.out.r _)).mono ?_)
        rintro e w5 ⟨rfl, k5⟩
        go_wp2
        exact bodyPost_stop rfl (Js.VRes.bad _ HE.out ⟨rfl, (HL3.out.kp.drew _).trans k5⟩)
      have hqlt := hqs (by omega)
      have HX7 : Hid (_ = X) := (if_pos h34).symm.trans HX6.out
      have HT := Lib.hid (fun w' (h : w'.heap[R]? = some (Js.obj s q o b')) => Js.text_is R s q o b' w' h hqlt hs)
      have hTok := Js.tx_ok s q
      rw [h34] at HN3
      clear HX6 hqs hqc h34
      obtain ⟨T, hT⟩ : ∃ T, Js.tx s q = T := ⟨_, rfl⟩
      rw [hT] at HX7 HT hTok
      clear hT
      cases T with
      | error p =>
        have HE : Hid (X = .error p) := HX7.out.symm
        clear hTok HX7
        go_wp2_with (go_at_call 81; refine (HN3.out _ HL3.out.r).mono ?_)
        rintro e w4 ⟨rfl, q4, rfl⟩
        go_wp2_with (go_at_call 83; refine (HT.out _ (Js.drew_heap HL3.out.r _)).mono ?_)
        rintro e w5 ⟨rfl, k5⟩
        go_wp2
        exact bodyPost_stop rfl (Js.VRes.bad _ HE.out ⟨rfl, (HL3.out.kp.drew _).trans k5⟩)
      | ok tc =>
      obtain ⟨tl, cp⟩ := tc
      obtain ⟨hc1, hc2⟩ := hTok tl cp rfl
      clear hTok
      obtain ⟨nm, hnm⟩ : ∃ nm : ByteArray, nm = ⟨tl.toArray⟩ := ⟨_, rfl⟩
      have HX8 : Hid ((if ns.contains nm = true then .error (q, 141) else if Js.nx s (Js.sp s cp) = 58 then Js.tail s true (Js.lsF s true (Js.val s d) f') (ns ++ [nm]) (its.map Js.It.x) (Js.val s d (Js.sp s cp + 1) b') else .error (Js.wrong s (Js.sp s cp)) : Js.R (Js.V × Nat × Nat)) = X) := by rw [hnm]; exact HX7.out
      have HT2 : Hid (∀ w', w'.heap[R]? = some (Js.obj s q o b') → Calls Tryd.prog 83 #[.pointer (some ⟨R, 0, none⟩)] w' (Js.Goes R s cp o b' (.string nm) w')) := by rw [hnm]; exact HT.out
      clear HX7 HT hnm
      go_wp2_with (go_at_call 81; refine (HN3.out _ HL3.out.r).mono ?_)
      rintro e w4 ⟨rfl, q4, rfl⟩
      go_wp2_with (go_at_call 83; refine (HT2.out _ (Js.drew_heap HL3.out.r _)).mono ?_)
      rintro e w5 ⟨rfl, r5, k5⟩
      have HL5 := Lib.hid ((HL3.out.move ((Kp.refl R w3).drew q4) HRW (Js.drew_heap HL3.out.r q4)).move k5 HRW r5)
      have HC5 := Lib.hid (Js.contains_is HL5.out.hns nm)
      have v2 : w5.cell? ⟨w.heap.size + 1, 2, none⟩ = some nv := by rw [Lib.cell_of_heap HL5.out.v]; rfl
      have f2 : w5.frozen? ⟨w.heap.size + 1, 2, none⟩ = false := Lib.frozen_of_heap HL5.out.v 2
      have f1 : w5.frozen? ⟨R, 1, none⟩ = false := Lib.frozen_of_heap HL5.out.r 1
      have c5 : w5.cell? ⟨R, 1, none⟩ = some (.int .i64 cp) := by rw [Lib.cell_of_heap HL5.out.r]; rfl
      clear HL3 HN3 HT2 r5 k5 c3
      cases hcn : ns.contains nm with
      | true =>
        have HE : Hid (X = .error (q, 141)) := by have h9 : _ = X := HX8.out; rw [if_pos hcn] at h9; exact h9.symm
        rw [hcn] at HC5
        have HF : Hid (∀ w', w'.heap[R]? = some (Js.obj s q o b') → Calls Tryd.prog 54 #[.pointer (some ⟨R, 0, none⟩), .int .i64 141] w' (Js.Stops R (q, 141) w')) := fun w' h => by
          have h9 := Js.fail_is R s q o b' 141 w' h
          rw [if_neg (by decide)] at h9
          exact h9
        clear HX8 hcn
        go_wp2_with (go_at_call 85; refine HC5.out.mono ?_)
        rintro e w6 ⟨rfl, rfl⟩
        go_wp2_with (go_at_call 54; refine (HF.out _ (Js.set_at HL5.out.r (q : Int) q rfl)).mono ?_)
        rintro e w7 ⟨rfl, k7⟩
        go_wp2
        exact bodyPost_stop rfl (Js.VRes.bad _ HE.out ⟨rfl, (HL5.out.kp.set 1 _).trans k7⟩)
      | false =>
      rw [hcn] at HC5
      have HX9 : Hid ((if Js.nx s (Js.sp s cp) = 58 then Js.tail s true (Js.lsF s true (Js.val s d) f') (ns ++ [nm]) (its.map Js.It.x) (Js.val s d (Js.sp s cp + 1) b') else .error (Js.wrong s (Js.sp s cp)) : Js.R (Js.V × Nat × Nat)) = X) := by have h9 : _ = X := HX8.out; rw [if_neg (by rw [hcn]; decide)] at h9; exact h9
      clear HX8 hcn
      go_wp2_with (go_at_call 85; refine HC5.out.mono ?_)
      rintro e w6 ⟨rfl, rfl⟩
      have hV6 := lt_of_heap HL5.out.v
      go_wp2_with (at_builtin; refine wpList_pushN Js.sOk 24 Tryd.underlying24 rfl (.tmp 54) (.tmp 56) rfl (w.heap.size + 2) nv ns rfl (HL5.out.hns.alloc _) nm #[.string nm] rfl w6.heap.size 1 rfl (alloc_new _ _) (by omega) (by simp; omega) ?_)
      intro g cap w7 hown hgrow hfresh
      have kA : Kp R w6 (w6.alloc (.cells #[.string nm] 9)) := Kp.of ((Below.refl w6.heap.size w6).alloc (Nat.le_refl _) _) (Nat.le_refl _)
      have HLa := HL5.out.move kA HRW (alloc_kept HL5.out.r)
      have HLn := Lib.hid (HLa.name HRW nm hown hgrow (by simpa using hfresh))
      have hv7 : w7.heap[w.heap.size + 1]? = some (Js.vObj 7 nv iv) := (hgrow.block _ (lt_of_heap HLa.v) (fun e => by have h8 := (HLa.hns.block_lt e.symm).1; omega)).trans HLa.v
      have v7 : w7.cell? ⟨w.heap.size + 1, 2, none⟩ = some nv := by rw [Lib.cell_of_heap hv7]; rfl
      have f7 : w7.frozen? ⟨w.heap.size + 1, 2, none⟩ = false := Lib.frozen_of_heap hv7 2
      have hnl2 : (ns ++ [nm]).length ≤ i + 1 := by rw [List.length_append]; simpa using hnl
      obtain ⟨q2, hq2⟩ : ∃ q2, Js.sp s cp = q2 := ⟨_, rfl⟩
      have hq2b : cp ≤ q2 ∧ q2 ≤ s.size := hq2 ▸ ⟨Js.sp_ge s cp, Js.sp_le s cp hc2⟩
      have HS7 := Lib.hid (fun w' (h : w'.heap[R]? = some (Js.obj s cp o b')) => Js.space_is R s cp o b' w' h hc2 hs)
      rw [hq2] at HX9 HS7
      clear hq2 hown hgrow hfresh kA HLa hv7 HC5 HL5 v2 f2 f1 c5 hV6
      generalize ns ++ [nm] = ns2 at HX9 HLn hnl2
      go_wp2_with (go_at_call 53; refine (HS7.out _ HLn.out.r).mono ?_)
      rintro e w8 ⟨rfl, r8, k8⟩
      have HL8 := Lib.hid (HLn.out.move k8 HRW r8)
      clear HLn HS7 k8 v7 f7
      generalize Value.slice (some ⟨g, 0, none⟩) (ns.length + 1) cap = nv2 at HL8 ⊢
      have hq2s : Js.nx s q2 ≠ 0 → q2 < s.size := fun h => Nat.lt_of_not_le fun hh => h (Js.nx_end s _ hh)
      by_cases h58 : Js.nx s q2 = 58
      case neg =>
        have HE : Hid (X = .error (Js.wrong s q2)) := by have h9 : _ = X := HX9.out; rw [if_neg h58] at h9; exact h9.symm
        have HW := Lib.hid (fun w' (h : w'.heap[R]? = some (Js.obj s q2 o b')) => Js.want_bad ⟨#[58]⟩ R s q2 o b' w' h hq2b.2 (fun _ => (Js.ix_one' 58 (UInt8.ofNat (Js.nx s q2))).trans ((Js.u8_eq _ 58 (Js.nx_lt s _) (by omega)).trans (decide_eq_false h58))))
        clear HX9
        go_wp2_with (go_at_call 106; refine (HW.out _ HL8.out.r).mono ?_)
        rintro e w9 ⟨rfl, k9⟩
        go_wp2
        exact bodyPost_stop rfl (Js.VRes.bad _ HE.out ⟨rfl, HL8.out.kp.trans k9⟩)
      have HX10 : Hid (_ = X) := (if_pos h58).symm.trans HX9.out
      have HW := Lib.hid (fun w' (h : w'.heap[R]? = some (Js.obj s q2 o b')) => Js.want_ok ⟨#[58]⟩ R s q2 o b' w' h (hq2s (by omega)) hs (by omega) (by rw [h58]; decide))
      rw [h58] at HW
      have hq2t := hq2s (by omega)
      clear HX9 h58 hq2s
      go_wp2_with (go_at_call 106; refine (HW.out _ HL8.out.r).mono ?_)
      rintro e wr ⟨rfl, r9, k9⟩
      have HL := Lib.hid (HL8.out.move k9 HRW r9)
      clear HL8 HW r8 r9 k9
      obtain ⟨i9, hi9⟩ : ∃ i9, q2 + 1 = i9 := ⟨_, rfl⟩
      rw [hi9] at HX10 HL
      have hil9 : its.length ≤ i9 := by omega
      have hnl9 : ns2.length ≤ i9 := by omega
      have hii : i < i9 := by omega
      have hg9 : s.size < g' + 1 + i9 := by omega
      have hf9 : s.size + 1 ≤ f' + 1 + i9 := by omega
      have hi' : i9 ≤ s.size := by omega
      clear hil hnl hi hg hf hnl2 hqb hc1 hc2 hq2b hi9 hq2t hqlt hii
      have hil := hil9
      have hnl := hnl9
      have hg := hg9
      have hf := hf9
      have hi := hi'
      clear hil9 hnl9 hg9 hf9 hi'
      have HV1 := Lib.hid (HV i9 b')
      have HO1 := HVO i9 b'
      obtain ⟨E, hE⟩ : ∃ E, Js.val s d i9 b' = E := ⟨_, rfl⟩
      rw [hE] at HV1 HO1 HX10
      have HX3 : Hid (Js.tail s true (Js.lsF s true (Js.val s d) f') ns2 (its.map Js.It.x) E = X) := HX10.out
      clear hE HX10
      go_wp2_with fail
      refine wp_region_inv (by kernel_rfl) (by kernel_rfl) (fun a0 d a w' => ∃ t63 t64 t65 t66 t67 t68 t69 : Value, a = (((((((a0.put (some 63) t63).put (some 64) t64).put (some 65) t65).put (some 66) t66).put (some 67) t67).put (some 68) t68).put (some 69) t69) ∧ Js.RI R s o 7 w ns2 (nv2) its iv i9 b' E d t63 t64 t65 t66 t67 t68 t69 w') ?h0 ?hs ?he
      case h0 => exact ⟨u63, u64, u65, u66, u67, u68, u69, (by go_frame), Js.RI.start (HL.out.move ((Kp.refl R wr).drew 1) HRW (Js.drew_heap HL.out.r 1))⟩
      case hs =>
        refine ⟨?_, ?_, ?_, ?_, ?_, ?_, ?_, ?_, trivial⟩
        · rintro d a w' hd hdep ⟨t63, t64, t65, t66, t67, t68, t69, rfl, h⟩ K hK
          rw [if_pos (by rfl)]
          go_frame
          go_simp
          exact hK _ _ ⟨.pointer (some ⟨w.heap.size + 1, 3, none⟩), _, _, _, _, _, _, (by go_frame), h.s0 rfl⟩
        · rintro d a w' hd hdep ⟨t63, t64, t65, t66, t67, t68, t69, rfl, h⟩ K hK
          rw [if_pos (by rfl)]
          go_frame
          obtain rfl := h.f0 (hdep 0 (by decide))
          have hc5 : d 5 = false := by cases h5 : d 5 with | false => rfl | true => exact absurd (h.ord h5) (by rw [hd]; decide)
          have hv := h.cell hc5
          have hc : w'.cell? ⟨w.heap.size + 1, 3, none⟩ = some iv := by rw [Lib.cell_of_heap hv]; rfl
          go_simp
          exact hK _ _ ⟨_, iv, _, _, _, _, _, (by go_frame), h.s1 rfl⟩
        · rintro d a w' hd hdep ⟨t63, t64, t65, t66, t67, t68, t69, rfl, h⟩ K hK
          rw [if_pos (by rfl)]
          go_frame
          go_simp
          exact hK _ _ ⟨_, _, .pointer (some ⟨R, 0, none⟩), _, _, _, _, (by go_frame), h.s2 rfl⟩
        · rintro d a w' hd hdep ⟨t63, t64, t65, t66, t67, t68, t69, rfl, h⟩ K hK
          rw [if_pos (by rfl)]
          go_frame
          obtain rfl := h.f2 (hdep 2 (by decide))
          obtain ⟨-, -, -, hL⟩ := h.at3 hd
          go_simp
          refine (HV1.out _ hL.r hi hb').mono ?_
          cases E with
          | error p =>
            rintro e w2 ⟨rfl, k2⟩
            go_simp
            exact bodyPost_stop rfl (Js.VRes.bad p (show .error p = X from HX3.out).symm ⟨rfl, hL.kp.trans k2⟩)
          | ok y =>
            obtain ⟨x, j, b2⟩ := y
            rintro e w2 ⟨t, rfl, rfl, r2, k2, hv2⟩
            go_simp
            exact hK _ _ ⟨_, _, _, .agg #[.int .u8 t.x.kind, .string t.x.text, t.nv, t.iv], _, _, _, (by go_frame), h.s3 hd ⟨t, t.x, j, b2, rfl, rfl, rfl, hL.move k2 HRW r2, hL.item hv2 (Kp.refl _ _) HRW⟩⟩
        · rintro d a w' hd hdep ⟨t63, t64, t65, t66, t67, t68, t69, rfl, h⟩ K hK
          rw [if_pos (by rfl)]
          go_frame
          have h3 := hdep 3 (by decide)
          obtain ⟨-, -, t, x, j, b2, hE, rfl, rfl, hL, hv⟩ := h.at4 h3 hd
          have kA : ∀ o, Kp R w' (w'.alloc o) := fun o => Kp.of ((Below.refl w'.heap.size w').alloc (Nat.le_refl _) o) (Nat.le_refl _)
          go_simp
          exact hK _ _ ⟨_, _, _, _, .slice (some ⟨w'.heap.size, 0, none⟩) 1 1, _, _, (by go_frame), h.s4 h3 hd ⟨t, t.x, j, b2, w'.heap.size, 1, hE, rfl, rfl, alloc_new _ _, hL.move (kA _) HRW (alloc_kept hL.r), Js.VAt.move ⟨fun q hq hl => (kA _).block q hl (by have := hq.1; omega), fun q hq _ => hq⟩ _ _ _ hv⟩⟩
        · rintro d a w' hd hdep ⟨t63, t64, t65, t66, t67, t68, t69, rfl, h⟩ K hK
          rw [if_pos (by rfl)]
          go_frame
          have h1 := hdep 1 (by decide)
          have h3 := hdep 3 (by decide)
          have h4 := hdep 4 (by decide)
          obtain rfl := h.f1 h1
          obtain ⟨-, t, x, j, b2, G, c, hE, rfl, rfl, hG, hL, hv⟩ := h.at5 h3 h4 hd
          refine wp_pushN Js.iOk 25 Tryd.underlying25 (.tmp 64) (.tmp 67) (by rfl) (w.heap.size + 2) t64 its (by simp [Act.eval]) hL.hits t _ rfl G c (by simp [Act.eval]) hG (by omega) (by have h8 := lt_of_heap hL.v; omega) ?_
          intro g cap w2 hown hgrow hfresh
          exact hK _ _ ⟨_, _, _, _, _, _, _, (by go_frame), h.s5 h1 h3 h4 hd ⟨t, t.x, j, b2, _, _, _, hE, rfl, rfl, (hgrow.block _ (lt_of_heap hL.v) (fun e => by have h8 := (hL.hits.block_lt e.symm).1; omega)).trans hL.v, hL.push HRW t hv hown hgrow hfresh⟩⟩
        · rintro d a w' hd hdep ⟨t63, t64, t65, t66, t67, t68, t69, rfl, h⟩ K hK
          rw [if_pos (by rfl)]
          go_frame
          go_simp
          exact hK _ _ ⟨_, _, _, _, _, _, .pointer (some ⟨w.heap.size + 1, 3, none⟩), (by go_frame), h.s6 rfl⟩
        · rintro d a w' hd hdep ⟨t63, t64, t65, t66, t67, t68, t69, rfl, h⟩ K hK
          rw [if_pos (by rfl)]
          go_frame
          have h5 := hdep 5 (by decide)
          obtain rfl := h.f6 (hdep 6 (by decide))
          obtain ⟨-, -, t, x, j, b2, q, m, c, hE, rfl, rfl, hv, hL⟩ := h.at7 h5 hd
          have hc : w'.cell? ⟨w.heap.size + 1, 3, none⟩ = some iv := by rw [Lib.cell_of_heap hv]; rfl
          have hf := Lib.frozen_of_heap hv 3
          go_simp
          exact hK _ _ ⟨_, _, _, _, _, _, _, (by go_frame), h.s7 h5 hd ⟨t, t.x, j, b2, _, hE, rfl, hL⟩⟩
      case he =>
        rintro a0 w5 ⟨t63, t64, t65, t66, t67, t68, t69, rfl, h⟩
        obtain ⟨t, x, j, b2, iv2, rfl, rfl, hL⟩ := h.fin
        go_frame
        clear h
        obtain ⟨hj1, hj2, hb2⟩ := HO1 t.x j b2 hi hb' rfl
        have HX4 : Hid ((if Js.nx s (Js.sp s j) = 125 then .ok (.mk 7 ⟨#[]⟩ ns2 (its.map Js.It.x ++ [t.x]), Js.sp s j + 1, b2) else if Js.nx s (Js.sp s j) = 44 then Js.lsF s true (Js.val s d) f' (Js.sp s j + 1) b2 ns2 (its.map Js.It.x ++ [t.x]) else .error (Js.wrong s (Js.sp s j)) : Js.R (Js.V × Nat × Nat)) = X) := HX3.out
        have hmap : its.map Js.It.x ++ [t.x] = (its ++ [t]).map Js.It.x := by rw [List.map_append]; rfl
        rw [hmap] at HX4
        have HLt := Lib.hid hL
        have hlen2 : (its ++ [t]).length ≤ i9 + 1 := by rw [List.length_append]; simpa using hil
        generalize its ++ [t] = its2 at HX4 HLt hlen2
        clear HX3 HO1 HV1 hL hmap HL hil
        obtain ⟨a2, ha2⟩ : ∃ a2, Js.sp s j = a2 := ⟨_, rfl⟩
        have ha2b : j ≤ a2 ∧ a2 ≤ s.size := ha2 ▸ ⟨Js.sp_ge s j, Js.sp_le s j hj2⟩
        have HSP2 := Lib.hid (fun w' (h : w'.heap[R]? = some (Js.obj s j o b2)) => Js.space_is R s j o b2 w' h hj2 hs)
        rw [ha2] at HX4 HSP2
        clear ha2
        go_wp2_with (go_at_call 53; refine (HSP2.out _ HLt.out.r).mono ?_)
        rintro e w6 ⟨rfl, r6, k6⟩
        have HL6 := Lib.hid (HLt.out.move k6 HRW r6)
        have ha3 : Js.nx s a2 ≠ 0 → a2 < s.size := fun h => Nat.lt_of_not_le fun hh => h (Js.nx_end s _ hh)
        clear HSP2 r6 k6 HLt
        by_cases hE9 : Js.nx s a2 = 125
        · have HE : Hid (X = .ok (.mk 7 ⟨#[]⟩ ns2 (its2.map Js.It.x), a2 + 1, b2)) := by have h9 : _ = X := HX4.out; rw [if_pos hE9] at h9; exact h9.symm
          have hlt := ha3 (by omega)
          have HW := Lib.hid (fun w' (h : w'.heap[R]? = some (Js.obj s a2 o b2)) => Js.want_ok ⟨#[44, 125]⟩ R s a2 o b2 w' h hlt hs (by omega) (by rw [hE9]; decide))
          rw [hE9] at HW
          clear HX4
          go_wp2_with fail
          go_region_held3 (fun _ => True) (first | trivial | go_keep) ((go_at_call 106; refine (HW.out _ (Js.drew_heap HL6.out.r 1)).mono ?_; rintro e w7 ⟨rfl, r7, k7⟩))
          all_goals
            have HL7 := Lib.hid ((HL6.out.move ((Kp.refl R w6).drew 1) HRW (Js.drew_heap HL6.out.r 1)).move k7 HRW r7)
            obtain ⟨q, cq, hq, -⟩ := HL7.out.hits.shape
            subst hq
            obtain ⟨qn, cn, hqn, -⟩ := HL7.out.hns.shape
            subst hqn
            have v0 : w7.cell? ⟨w.heap.size + 1, 0, none⟩ = some (.int .u8 7) := by rw [Lib.cell_of_heap HL7.out.v]; rfl
            have v1 : w7.cell? ⟨w.heap.size + 1, 1, none⟩ = some (.string ⟨#[]⟩) := by rw [Lib.cell_of_heap HL7.out.v]; rfl
            have v2 : w7.cell? ⟨w.heap.size + 1, 2, none⟩ = some (.slice qn ns2.length cn) := by rw [Lib.cell_of_heap HL7.out.v]; rfl
            have v3 : w7.cell? ⟨w.heap.size + 1, 3, none⟩ = some (.slice q its2.length cq) := by rw [Lib.cell_of_heap HL7.out.v]; rfl
            have t0 : w7.cell? ⟨w.heap.size, 0, none⟩ = some (.int .u8 0) := by rw [Lib.cell_of_heap HL7.out.res]; rfl
            have g0 : w7.frozen? ⟨w.heap.size, 0, none⟩ = false := Lib.frozen_of_heap HL7.out.res 0
            have t1 : w7.cell? ⟨w.heap.size, 1, none⟩ = some (.string ⟨#[]⟩) := by rw [Lib.cell_of_heap HL7.out.res]; rfl
            have g1 : w7.frozen? ⟨w.heap.size, 1, none⟩ = false := Lib.frozen_of_heap HL7.out.res 1
            have t2 : w7.cell? ⟨w.heap.size, 2, none⟩ = some (.slice none 0 0) := by rw [Lib.cell_of_heap HL7.out.res]; rfl
            have g2 : w7.frozen? ⟨w.heap.size, 2, none⟩ = false := Lib.frozen_of_heap HL7.out.res 2
            have t3 : w7.cell? ⟨w.heap.size, 3, none⟩ = some (.slice none 0 0) := by rw [Lib.cell_of_heap HL7.out.res]; rfl
            have g3 : w7.frozen? ⟨w.heap.size, 3, none⟩ = false := Lib.frozen_of_heap HL7.out.res 3
            clear r7 k7 HL6 HW
            go_wp2
            refine Js.ret_store rfl rfl HL7.out.res rfl fun w' kV => Js.VRes.ok _ _ _ HE.out (HL7.out.ret HRW kV)
        · by_cases h44 : Js.nx s a2 = 44
          · have HX5 : Hid (Js.lsF s true (Js.val s d) f' (a2 + 1) b2 ns2 (its2.map Js.It.x) = X) := by have h9 : _ = X := HX4.out; rw [if_neg hE9, if_pos h44] at h9; exact h9
            have hlt := ha3 (by omega)
            have HW := Lib.hid (fun w' (h : w'.heap[R]? = some (Js.obj s a2 o b2)) => Js.want_ok ⟨#[44, 125]⟩ R s a2 o b2 w' h hlt hs (by omega) (by rw [h44]; decide))
            rw [h44] at HW
            clear HX4
            go_wp2_with fail
            go_region_held3 (fun _ => True) (first | trivial | go_keep) ((go_at_call 106; refine (HW.out _ (Js.drew_heap HL6.out.r 1)).mono ?_; rintro e w7 ⟨rfl, r7, k7⟩))
            all_goals
              have HL7 := Lib.hid ((HL6.out.move ((Kp.refl R w6).drew 1) HRW (Js.drew_heap HL6.out.r 1)).move k7 HRW r7)
              clear r7 k7 HL6 HW
              go_wp2
              go_roundg g'
              case measure => omega
              case rel => exact ⟨a2 + 1, b2, f', ns2, nv2, its2, iv2, by omega, hb2, by omega, by omega, by omega, HX5.out, HL7.out, by omega⟩
          · have HE : Hid (X = .error (Js.wrong s a2)) := by have h9 : _ = X := HX4.out; rw [if_neg hE9, if_neg h44] at h9; exact h9.symm
            have HW := Lib.hid (fun w' (h : w'.heap[R]? = some (Js.obj s a2 o b2)) => Js.want_bad ⟨#[44, 125]⟩ R s a2 o b2 w' h ha2b.2 (fun _ => by
              show decide (0 ≤ Lib.indexByte [44, 125] (UInt8.ofNat (Js.nx s a2))) = false
              rw [Js.ix_two, show (44 : UInt8) = UInt8.ofNat 44 from rfl, show (125 : UInt8) = UInt8.ofNat 125 from rfl, Js.u8_eq _ 44 (Js.nx_lt s _) (by omega), Js.u8_eq _ 125 (Js.nx_lt s _) (by omega), decide_eq_false h44, decide_eq_false hE9]; rfl))
            clear HX4
            go_wp2_with fail
            refine wp_region_inv (by kernel_rfl) (by kernel_rfl) (fun a0 d a w' => ∃ t72 t73 t74 t75 t76 t77 t78 : Value, a = (((((((a0.put (some 72) t72).put (some 73) t73).put (some 74) t74).put (some 75) t75).put (some 76) t76).put (some 77) t77).put (some 78) t78) ∧ w' = w6.drew ∧ d 3 = false ∧ (d 0 = true → t72 = .pointer (some ⟨R, 0, none⟩)) ∧ (d 1 = true → t73 = .string ⟨#[125]⟩) ∧ (d 2 = true → t74 = .string ⟨#[44, 125]⟩) ∧ (d 4 = true → t76 = .string ⟨#[125]⟩)) ?h0 ?hs ?he
            case h0 => exact ⟨u72, u73, u74, u75, u76, u77, u78, (by go_frame), rfl, rfl, (fun q => by cases q), (fun q => by cases q), (fun q => by cases q), (fun q => by cases q)⟩
            case hs =>
              refine ⟨?_, ?_, ?_, ?_, ?_, ?_, ?_, trivial⟩
              · rintro d a w' hd hdep ⟨t72, t73, t74, t75, t76, t77, t78, rfl, rfl, q3, q0, q1, q2, q4⟩ K hK
                rw [if_pos (by rfl)]
                go_frame
                go_simp
                exact hK _ _ ⟨.pointer (some ⟨R, 0, none⟩), t73, t74, t75, t76, t77, t78, (by go_frame), rfl, (by simp [q3]), (fun _ => rfl), (fun q => q1 (by simpa using q)), (fun q => q2 (by simpa using q)), (fun q => q4 (by simpa using q))⟩
              · rintro d a w' hd hdep ⟨t72, t73, t74, t75, t76, t77, t78, rfl, rfl, q3, q0, q1, q2, q4⟩ K hK
                rw [if_pos (by rfl)]
                go_frame
                go_simp
                exact hK _ _ ⟨t72, .string ⟨#[125]⟩, t74, t75, t76, t77, t78, (by go_frame), rfl, (by simp [q3]), (fun q => q0 (by simpa using q)), (fun _ => rfl), (fun q => q2 (by simpa using q)), (fun q => q4 (by simpa using q))⟩
              · rintro d a w' hd hdep ⟨t72, t73, t74, t75, t76, t77, t78, rfl, rfl, q3, q0, q1, q2, q4⟩ K hK
                rw [if_pos (by rfl)]
                go_frame
                obtain rfl := q1 (hdep 1 (by decide))
                have hcat : (⟨#[44]⟩ : ByteArray) ++ ⟨#[125]⟩ = ⟨#[44, 125]⟩ := by decide
                go_simp
                exact hK _ _ ⟨t72, .string ⟨#[125]⟩, .string ⟨#[44, 125]⟩, t75, t76, t77, t78, (by go_frame), rfl, (by simp [q3]), (fun q => q0 (by simpa using q)), (fun q => q1 (by simpa using q)), (fun _ => rfl), (fun q => q4 (by simpa using q))⟩
              · rintro d a w' hd hdep ⟨t72, t73, t74, t75, t76, t77, t78, rfl, rfl, q3, q0, q1, q2, q4⟩ K hK
                rw [if_pos (by rfl)]
                go_frame
                obtain rfl := q0 (hdep 0 (by decide))
                obtain rfl := q2 (hdep 2 (by decide))
                go_simp
                refine (HW.out _ (Js.drew_heap HL6.out.r 1)).mono ?_
                rintro e w7 ⟨rfl, k7⟩
                go_simp
                exact bodyPost_stop rfl (Js.VRes.bad _ HE.out ⟨rfl, (HL6.out.kp.drew 1).trans k7⟩)
              · rintro d a w' hd hdep ⟨t72, t73, t74, t75, t76, t77, t78, rfl, rfl, q3, q0, q1, q2, q4⟩ K hK
                rw [if_pos (by rfl)]
                go_frame
                go_simp
                exact hK _ _ ⟨t72, t73, t74, t75, .string ⟨#[125]⟩, t77, t78, (by go_frame), rfl, (by simp [q3]), (fun q => q0 (by simpa using q)), (fun q => q1 (by simpa using q)), (fun q => q2 (by simpa using q)), (fun _ => rfl)⟩
              · rintro d a w' hd hdep ⟨t72, t73, t74, t75, t76, t77, t78, rfl, rfl, q3, q0, q1, q2, q4⟩ K hK
                rw [if_pos (by rfl)]
                go_frame
                obtain rfl := q4 (hdep 4 (by decide))
                go_simp
                exact hK _ _ ⟨t72, t73, t74, t75, .string ⟨#[125]⟩, .int .u8 (((⟨#[125]⟩ : ByteArray)[0]'(by decide)).toNat : Int), t78, (by go_frame), rfl, (by simp [q3]), (fun q => q0 (by simpa using q)), (fun q => q1 (by simpa using q)), (fun q => q2 (by simpa using q)), (fun q => q4 (by simpa using q))⟩
              · rintro d a w' hd hdep ⟨t72, t73, t74, t75, t76, t77, t78, rfl, rfl, q3, q0, q1, q2, q4⟩ K hK
                rw [if_pos (by rfl)]
                go_frame
                exact absurd (hdep 3 (by decide)) (by rw [q3]; decide)
            case he =>
              rintro a0 w7 ⟨t72, t73, t74, t75, t76, t77, t78, rfl, rfl, q3, -⟩
              exact absurd q3 (by decide)

end Go.Proofs.YtmmijebekipdeaaDoor
