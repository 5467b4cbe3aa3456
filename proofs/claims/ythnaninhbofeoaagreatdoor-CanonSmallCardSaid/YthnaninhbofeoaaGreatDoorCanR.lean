/- Contracts of canon: Read. -/
import Derived.Test.YthnaninhbofeoaaGreatDoorCanA
import Derived.Test.YthnaninhbofeoaaGreatDoorCanS
import Derived.Deep.RegionHeld3
import Derived.Deep.AppendLies
namespace Go.Proofs.YthnaninhbofeoaaGreatDoor
open Go.RowKit

/-- 'append(v, x)' of a label written out, at a step of a region that draws its order -/
theorem step_pushL {ops : Array Oper} {o : Oper} {a : Act} {K : Act → World → Prop} {Q : Exit → Act → World → Prop} {E : Prop} {w : World} (T : TypeId) (hT : Tryz.prog.underlying T = some (.slice 46)) (hgd : o.guard = none) (s x : Operand)
    (ho : o.op = .call { callee := .builtin .append, args := #[s, x], argTypes := #[T, T] })
    (B : Nat) (v : Value) (l : List Lab.L) (hs : a.eval s = v) (hown : OwnLabels B v l w) (y : Lab.L) (G c : Nat) (hx : a.eval x = .slice (some ⟨G, 0, none⟩) 1 c)
    (hG : w.heap[G]? = some (.cells #[.string y.n, .string y.v] 46)) (hlen : l.length + 1 ≤ 4294967296) (hB : B ≤ w.heap.size)
    (h : ∀ g cap w', OwnLabels B (.slice (some ⟨g, 0, none⟩) (l.length + 1) cap) (l ++ [y]) w' → w.grownBy w' v.ownBlock → K (a.put o.dst (.slice (some ⟨g, 0, none⟩) (l.length + 1) cap)) w') :
    if Region.wanted o (yielded ops a.tmps) = true then Oper.wp Tryz.prog o a w K Q else E := by
  obtain ⟨i0, hi, hz0, hz1, hz2⟩ := info_parts infoLab
  refine step_append_lies w hgd s x T ho B 46 i0 _ 2 32 hT hi hz0 hz1 hz2 rfl (by decide) v l.length (Lab.cells l) hs hown ⟨G, 0, none⟩ 1 c (Lab.cells [y]) hx rfl
    (World.news_of_block (cs := #[.string y.n, .string y.v]) hG) (Lab.cells_one _) (by omega) (by unfold maxLen; omega) (by omega) hB w.heap.size rfl ?_
  intro g cap w' h1 h2 _ _
  refine h g cap w' ?_ h2
  unfold OwnLabels
  rw [Lab.cells_append, List.length_append]
  exact h1

theorem Can.pairs_take (xs : List ByteArray) (k : Nat) (h : k * 2 + 1 < xs.length) :
    Can.pairs ((xs.map (·.data.toList)).take ((k + 1) * 2)) = Can.pairs ((xs.map (·.data.toList)).take (k * 2)) ++ [⟨xs[k * 2], xs[k * 2 + 1]⟩] := by
  induction k generalizing xs with
  | zero =>
    match xs, h with
    | a :: b :: r, _ => rfl
  | succ k ih =>
    match xs, h with
    | a :: b :: r, h =>
      have := ih r (by simp only [List.length_cons] at h; omega)
      have e1 : (k + 1 + 1) * 2 = (k + 1) * 2 + 1 + 1 := by omega
      have e2 : (k + 1) * 2 = k * 2 + 1 + 1 := by omega
      rw [e1]
      simp only [List.map_cons, List.take_succ_cons, Can.pairs]
      rw [this]
      simp only [e2, List.take_succ_cons, Can.pairs, List.cons_append, List.getElem_cons_succ]
theorem Can.pairs_all (xs : List ByteArray) (k : Nat) (h1 : xs.length ≤ k * 2 + 1) (h2 : k * 2 ≤ xs.length) : Can.pairs ((xs.map (·.data.toList)).take (k * 2)) = Can.pairs (xs.map (·.data.toList)) := by
  induction k generalizing xs with
  | zero =>
    match xs, h1 with
    | [], _ => rfl
    | [a], _ => rfl
  | succ k ih =>
    match xs, h1, h2 with
    | [], _, h2 => simp at h2
    | [a], _, h2 => simp at h2; omega
    | a :: b :: r, h1, h2 =>
      have := ih r (by simp only [List.length_cons] at h1; omega) (by simp only [List.length_cons] at h2; omega)
      have e2 : (k + 1) * 2 = k * 2 + 1 + 1 := by omega
      rw [e2]
      simp only [List.map_cons, List.take_succ_cons, Can.pairs]
      rw [this]

theorem Can.split_len (cur l : List UInt8) : ∀ a ∈ Can.split cur l, a.length ≤ cur.length + l.length := by
  induction l generalizing cur with
  | nil => intro a ha; simp [Can.split] at ha; subst ha; simp
  | cons c r ih =>
    intro a ha
    unfold Can.split at ha
    split at ha
    · rw [List.mem_cons] at ha
      rcases ha with rfl | ha
      · simp
      · have := ih [] a ha
        simp at this ⊢; omega
    · have := ih _ a ha
      simp at this ⊢; omega
theorem Can.pairs_fit (m : Nat) : ∀ (all : List (List UInt8)), (∀ a ∈ all, a.length ≤ m) → Lab.Fit m (Can.pairs all)
  | a :: b :: r, h => by
    intro x hx
    unfold Can.pairs at hx
    rw [List.mem_cons] at hx
    rcases hx with rfl | hx
    · have h1 := h a (by simp)
      have h2 := h b (by simp)
      exact ⟨by simpa [Can.mk, ByteArray.size] using h1, by simpa [Can.mk, ByteArray.size] using h2⟩
    · exact Can.pairs_fit m r (fun y hy => h y (by simp [hy])) x hx
  | [], _ => by intro x hx; simp [Can.pairs] at hx
  | [_], _ => by intro x hx; simp [Can.pairs] at hx
theorem Can.read_fit (l : List UInt8) : Lab.Fit l.length (Can.read l).1 := by
  unfold Can.read
  simp only []
  split
  · intro x hx; simp at hx
  · split
    · refine Can.pairs_fit _ _ fun a ha => ?_
      have := Can.split_len [] l a ha
      simpa using this
    · intro x hx; simp at hx

set_option maxHeartbeats 3200000 in
set_option maxRecDepth 100000 in
theorem cread_is (s : ByteArray) (ls : List Lab.L) (er : Int) (h : Can.read s.data.toList = (ls, er)) (m : Int) (w : World) (hm : w.cell? ⟨0, 0, none⟩ = some (.int .i64 m)) (hs : s.size ≤ 1000000) :
    Calls Tryz.prog 24 #[.string s] w fun e w' => (∃ v, e = .returned (.tuple #[v, .int .i64 er]) ∧ OwnLabels w.heap.size v ls w') ∧ Below w.heap.size w w' := by
  have hsp := Tryz.strings_Split s Can.sep m w (by omega) hm (Nat.le_refl _)
  have hxl := Lib.splitB_all Can.sep (Nat.le_refl _) 0 _ s rfl
  have hxs := Can.splitB_is s.size s (Nat.le_refl _)
  have hMle := Lib.countB_le Can.sep (Nat.le_refl _) s.size s (Nat.le_refl _)
  obtain ⟨M, hM⟩ : ∃ M, Lib.countB s Can.sep = M := ⟨_, rfl⟩
  rw [hM] at hsp hxl hxs hMle
  obtain ⟨xs, hx⟩ : ∃ xs, Lib.splitB Can.sep 0 M s = xs := ⟨_, rfl⟩
  rw [hx] at hsp hxl hxs
  have hlast : M < xs.length := by omega
  obtain ⟨z, hz⟩ : ∃ z, xs[M] = z := ⟨_, rfl⟩
  have hgl : (xs.map (·.data.toList)).getLast? = some z.data.toList := by
    rw [List.getLast?_eq_getElem?, List.length_map, hxl, Nat.add_sub_cancel, List.getElem?_map, List.getElem?_eq_getElem hlast, hz]; rfl
  have hlen : (xs.map (·.data.toList)).length = M + 1 := by rw [List.length_map, hxl]
  unfold Can.read at h
  simp only [] at h
  rw [← hxs, hgl, hlen] at h
  have hcell : ∀ (W : World) (j : Nat) (hj : j < xs.length), (W.alloc (.cells (xs.map Value.string).toArray 9)).cell? ⟨W.heap.size, j, none⟩ = some (.string xs[j]) := by
    intro W j hj
    simp [hj]
  have hsp2 := hsp.mono (R' := fun e w' => e = .returned (.slice (some ⟨w.heap.size, 0, none⟩) (M + 1) (M + 1)) ∧ ((∀ (j : Nat) (hj : j < xs.length), w'.cell? ⟨w.heap.size, j, none⟩ = some (.string xs[j])) ∧ Below w.heap.size w w' ∧ w.heap.size < w'.heap.size))
    fun e w' ⟨he, hw⟩ => ⟨he, by subst hw; exact ⟨hcell w, (Below.refl _ _).alloc (Nat.le_refl _) _, by simp⟩⟩
  have HSp := Lib.hid hsp2
  obtain ⟨bz, hbz⟩ : ∃ bz, z.toList.isEmpty = bz := ⟨_, rfl⟩
  have hz0 : decide (z.data.toList = []) = bz := by rw [← hbz]; exact (Lab.empty_is z).symm
  have hsep : (⟨#[255]⟩ : ByteArray) = Can.sep := rfl
  have HP := Lib.hid (fun k h => Can.pairs_take xs k h)
  have HQ := Lib.hid (fun k h1 h2 => Can.pairs_all xs k h1 h2)
  have hfit : Lab.Fit s.size (Can.pairs (xs.map (·.data.toList))) := by
    refine Can.pairs_fit _ _ fun a ha => ?_
    rw [hxs] at ha
    have := Can.split_len [] _ a ha
    simpa using this
  have hpl := Can.pairs_length (xs.map (·.data.toList))
  rw [hlen] at hpl
  have hi0 : (M : Int) ≤ 1000000 := by omega
  have HXL := Lib.hid hxl
  clear hM hx hxs hgl hlen hsp hsp2 hcell hxl
  go_enter Tryz.func24, Tryz.ntmps24
  go_wp2_with (go_at_call 61; refine HSp.out.mono ?_)
  first | rintro e w1 rfl hc0 hb1 hg1 | rintro e w1 ⟨rfl, hc0, hb1, hg1⟩
  have HC := Lib.hid hc0
  have cl := hc0 M hlast
  rw [hz] at cl
  clear hc0 hz HSp
  by_cases h2 : (M + 1) % 2 = 0
  · rw [if_pos (.inl h2)] at h
    simp only [Prod.mk.injEq] at h
    obtain ⟨rfl, rfl⟩ := h
    have q1 : (((M : Int) + 1) % 2 == 0) = true := beq_iff_eq.2 (by omega)
    clear h2
    go_wp2_with fail
    go_ret2
    exact ⟨⟨_, rfl, OwnLabels.nil _ _⟩, hb1⟩
  · have q1 : (((M : Int) + 1) % 2 == 0) = false := beq_eq_false_iff_ne.2 (by omega)
    cases bz
    · rw [if_pos (.inr (.inl (fun e => (of_decide_eq_false hz0) (Option.some.inj e))))] at h
      simp only [Prod.mk.injEq] at h
      obtain ⟨rfl, rfl⟩ := h
      clear h2
      go_wp2_with fail
      go_ret2
      exact ⟨⟨_, rfl, OwnLabels.nil _ _⟩, hb1⟩
    · have hze := of_decide_eq_true hz0
      by_cases h3 : 129 < M + 1
      · rw [if_pos (.inr (.inr h3))] at h
        simp only [Prod.mk.injEq] at h
        obtain ⟨rfl, rfl⟩ := h
        have i3 : 129 < (M : Int) + 1 := by omega
        clear h2 hze
        go_wp2_with fail
        go_ret2
        exact ⟨⟨_, rfl, OwnLabels.nil _ _⟩, hb1⟩
      · rw [if_neg (by simp only [not_or, hze]; exact ⟨h2, by simp, h3⟩)] at h
        have i3 : (M : Int) + 1 ≤ 129 := by omega
        have hMe : M % 2 = 0 := by omega
        clear hze
        go_wp2_with fail
        go_loopw [5, 6] (fun v i wr => ∃ k : Nat, k * 2 ≤ M ∧ i = .int .i64 ((k * 2 : Nat) : Int) ∧ OwnLabels w1.heap.size v (Can.pairs ((xs.map (·.data.toList)).take (k * 2))) wr ∧ Below w1.heap.size w1 wr) (fun _ i _ => M - (intOf i).toNat)
        case atStart => exact ⟨0, Nat.zero_le _, rfl, OwnLabels.nil _ _, Below.refl _ _⟩
        case round =>
          obtain ⟨k, hk, rfl, hown, hb⟩ := hrel
          have hsz := hb.size
          by_cases hlt : k * 2 < M
          · have j1 : k * 2 < xs.length := by have := HXL.out; omega
            have j2 : k * 2 + 1 < xs.length := by have := HXL.out; omega
            have HT := Lib.hid (HP.out k j2)
            have d0 := (hb.cell (p := ⟨w.heap.size, k * 2, none⟩) hg1).trans (HC.out _ j1)
            have d1 := (hb.cell (p := ⟨w.heap.size, k * 2 + 1, none⟩) hg1).trans (HC.out _ j2)
            obtain ⟨a, ha⟩ : ∃ a, xs[k * 2] = a := ⟨_, rfl⟩
            obtain ⟨b, hb'⟩ : ∃ b, xs[k * 2 + 1] = b := ⟨_, rfl⟩
            rw [ha] at d0 HT
            rw [hb'] at d1 HT
            have hlk : (Can.pairs ((xs.map (·.data.toList)).take (k * 2))).length ≤ 1000 := by rw [Can.pairs_length, List.length_take]; omega
            obtain ⟨l0, hl0⟩ : ∃ l0, Can.pairs ((xs.map (·.data.toList)).take (k * 2)) = l0 := ⟨_, rfl⟩
            rw [hl0] at hlk HT hown
            have n1 : (0 : Int) ≤ ((k * 2 : Nat) : Int) := by omega
            have n2 : ((k * 2 : Nat) : Int) < (M : Int) + 1 := by omega
            have n3 : ((k * 2 : Nat) : Int) + 1 < (M : Int) + 1 := by omega
            obtain ⟨K, hK⟩ : ∃ K, k * 2 = K := ⟨_, rfl⟩
            have n4 : IntKind.i64.wrap ((K : Int) + 1) = (K : Int) + 1 := by rw [IntKind.wrap_i64]; omega
            have n5 : ((K : Int) + 1).toNat = K + 1 := by omega
            have n6 : (0 : Int) ≤ (K : Int) + 1 := by omega
            rw [hK] at d0 d1 n1 n2 n3 hlt ⊢
            have hfar : ∀ (j : Nat), ∀ u, (u : Value).ownBlock = some j → True := fun _ _ _ => trivial
            have hgs : w.heap.size ≠ w1.heap.size := by omega
            clear hl0 ha hb' hfar
            go_wp2_with fail
            go_region_held3 (fun w' => w'.cell? ⟨w.heap.size, K, none⟩ = some (.string a) ∧ w'.cell? ⟨w.heap.size, K + 1, none⟩ = some (.string b))
              (first
                | go_keep
                | (go_split_ands
                   refine ⟨?_, ?_⟩
                   · (rw [hgrow.cell_far _ (by simp; omega) (fun e => by have : w1.heap.size ≤ w.heap.size := (World.ownsRow.lt hown _ e.symm).1; omega)]; assumption)
                   · (rw [hgrow.cell_far _ (by simp; omega) (fun e => by have : w1.heap.size ≤ w.heap.size := (World.ownsRow.lt hown _ e.symm).1; omega)]; assumption)))
              ((refine step_pushL 35 Tryz.underlying35 (by rfl) _ _ (by rfl) w1.heap.size _ l0 (by rfl) (hown.alloc _) ⟨a, b⟩ wr.heap.size 1 (by rfl) (heap_alloc_new wr _) (by omega) (by simp; omega) ?_; intro g2 cap2 w4 hown4 hgrow))
            have hb4 : Below w1.heap.size w1 w4 := ((hb.alloc hsz _).drew).grown hgrow (by simp; omega) (fun j hj => (World.ownsRow.lt hown j hj).1)
            go_wp2_with fail
            go_roundw
            case rel => exact ⟨k + 1, by omega, by go_num, by rw [HT.out]; first | exact hown4 | (unfold OwnLabels; rw [List.length_append]; exact hown4), hb4⟩
            case measure => simp [intOf]; omega
          · have hkM : k * 2 = M := by omega
            have he := HQ.out k (by have := HXL.out; omega) (by have := HXL.out; omega)
            rw [he] at hown
            obtain ⟨p, c, rfl, hAt, hl1, hl2⟩ := hown.open
            obtain ⟨ls1, hls1⟩ : ∃ ls1, Can.pairs (xs.map (·.data.toList)) = ls1 := ⟨_, rfl⟩
            rw [hls1] at h hown hAt hl1 hpl hfit ⊢
            have hb2 : Below w.heap.size w wr := hb1.trans (hb.mono hb1.size)
            obtain ⟨br, hbr⟩ : ∃ br, Lab.right ls1 = br := ⟨_, rfl⟩
            rw [hbr] at h
            have HR := Lib.hid (right_is p ls1 ls1.length c br hbr wr rfl hAt (fun x hx => by have := hfit x hx; unfold maxLen; omega) (by unfold maxLen; omega))
            obtain ⟨N, hN⟩ : ∃ N, ls1.length = N := ⟨_, rfl⟩
            rw [hN] at HR hown ⊢
            have HO := Lib.hid hown
            obtain ⟨K, hK⟩ : ∃ K, k * 2 = K := ⟨_, rfl⟩
            rw [hK] at hlt hk ⊢
            have m1 : (M : Int) ≤ (K : Int) := by omega
            have m2 : (K : Int) ≤ (M : Int) := by omega
            clear hls1 hbr hfit hAt he hown hN hkM hK hlt hk h2 h3 hMe hpl hl1 HP HQ
            cases br
            · rw [if_neg (by simp)] at h
              simp only [Prod.mk.injEq] at h
              obtain ⟨rfl, rfl⟩ := h
              go_wp2_with (go_at_call 52; refine HR.out.mono ?_)
              first | rintro e w5 ⟨rfl, hb5⟩ | rintro e w5 rfl hb5
              go_wp2_with fail
              go_ret2
              exact ⟨⟨_, rfl, OwnLabels.nil _ _⟩, below_next hb2 hb5⟩
            · rw [if_pos rfl] at h
              simp only [Prod.mk.injEq] at h
              obtain ⟨rfl, rfl⟩ := h
              go_wp2_with (go_at_call 52; refine HR.out.mono ?_)
              first | rintro e w5 ⟨rfl, hb5⟩ | rintro e w5 rfl hb5
              go_wp2_with fail
              go_ret2
              exact ⟨⟨_, rfl, row_lift (row_below HO.out hb5 (Nat.le_refl _)) hb1.size⟩, below_next hb2 hb5⟩
end Go.Proofs.YthnaninhbofeoaaGreatDoor
