/- Contract of label.Export. -/
import Derived.Test.YtbilaghljlobpaaGreatL4J
import Derived.Deep.RegionHeld3
import Derived.Deep.DeepCutAuto
namespace Go.Proofs.YtbilaghljlobpaaGreat
open Go.RowKit Go.Maps

theorem Lab.Tab.below {b n : Nat} {m : List Lab.L} {w w' : World} (h : Lab.Tab b n m w) (hb : Below w.heap.size w w') : Lab.Tab b n m w' := by
  obtain ⟨D, h1, h2⟩ := h
  exact ⟨D, h1.kept (⟨hb.os, hb.tape, hb.output, hb.size, fun i hi _ => hb.block i hi⟩ : w.grownBy w' none) (by simp), h2⟩
theorem Lab.Tab.block {b n : Nat} {m : List Lab.L} {w w' : World} (h : Lab.Tab b n m w) (he : w'.heap[b]? = w.heap[b]?) : Lab.Tab b n m w' := by
  obtain ⟨D, ⟨es, clock, hb, hr⟩, h2⟩ := h
  exact ⟨D, ⟨es, clock, he.trans hb, hr⟩, h2⟩
theorem Lab.take {P : Program} {md : Region.Mode} {ops : Array Oper} {Q : Exit → Act → World → Prop} {S : World → Prop} {i : Nat} {oi : Oper} {v : Value} {fuel : Nat} {listed : Array Bool} {a : Act} {w : World} (hi : ops.toList[i]? = some oi)
    (hs : Region.noSelect ops = true) (hf : Region.free md ops listed i = true) (hr : (Region.ready md ops listed).contains i = true)
    (hQ : ∀ c a w, Q (.panic c) (a.put oi.dst v) w → Q (.panic c) a w) (hy : YieldsIf P ops S oi v a) (hS : S w)
    (h : wpAnyH P md ops Q S fuel (listed.setIfInBounds i true) (a.put oi.dst v) w) : wpAnyH P md ops Q S (fuel + 1) listed a w :=
  wpAnyH_take (by simpa using hi) hs hf hr hQ hy hS h
def Lab.expName (n : ByteArray) : ByteArray := ⟨#[101, 120, 112, 111, 114, 116, 101, 100, 95]⟩ ++ n
/-- what a label of a sample becomes beside a target -/
def Lab.expo1 (t s : List Lab.L) (x : Lab.L) : Option Lab.L :=
  if Lab.bs (Lab.get t x.n) = [] then some x
  else if Lab.named 95 (Lab.bs (Lab.expName x.n)) = true ∧ Lab.bs (Lab.get t (Lab.expName x.n) ++ Lab.get s (Lab.expName x.n)) = [] then some ⟨Lab.expName x.n, x.v⟩ else none
def Lab.expoS (t s m : List Lab.L) (x : Lab.L) : List Lab.L := match Lab.expo1 t s x with
  | some y => Lab.put1 m y
  | none => m
def Lab.expoF (t s : List Lab.L) : List Lab.L → List Lab.L → List Lab.L
  | m, [] => m
  | m, x :: r => Lab.expoF t s (Lab.expoS t s m x) r
theorem Lab.expoF_drop (t s m ls : List Lab.L) (k : Nat) (h : k < ls.length) : Lab.expoF t s m (ls.drop k) = Lab.expoF t s (Lab.expoS t s m ls[k]) (ls.drop (k + 1)) := by
  rw [List.drop_eq_getElem_cons h]; rfl
theorem Lab.expoS_length (t s m : List Lab.L) (x : Lab.L) : (Lab.expoS t s m x).length ≤ m.length + 1 := by
  unfold Lab.expoS
  split
  · exact Lab.put1_length _ _
  · omega
theorem Lab.expoF_length (t s ls : List Lab.L) : ∀ m, (Lab.expoF t s m ls).length ≤ m.length + ls.length := by
  induction ls with
  | nil => intro m; exact Nat.le_refl _
  | cons x r ih =>
    intro m
    have h1 := ih (Lab.expoS t s m x)
    have h2 := Lab.expoS_length t s m x
    unfold Lab.expoF
    rw [List.length_cons]
    omega
def Lab.export (t s : List Lab.L) : List Lab.L × Int := if (Lab.right t && Lab.right s) = true then Lab.cut64 (Lab.srt (Lab.puts (Lab.expoF t s [] s) t)) else ([], 44)
theorem Lab.get_size (ls : List Lab.L) (n : ByteArray) (h : Lab.Fit 1000000 ls) : (Lab.get ls n).size ≤ 1000000 := by
  unfold Lab.get
  split
  · rename_i x hx
    exact (h x (List.mem_of_find?_eq_some hx)).2
  · exact Nat.zero_le _
theorem Lab.MapIs.putv {D : DataW Unit} {m : List Lab.L} (h : Lab.MapIs D m) (x : Lab.L) (hv : Lab.bs x.v ≠ []) : Lab.MapIs (D.put (.string (Lab.bs x.n)) (Lab.dat x)) (Lab.put1 m x) := by
  have := h.put x
  unfold Lab.put1
  rw [if_neg (by simpa using hv)]
  exact this

set_option maxHeartbeats 6400000 in
set_option maxRecDepth 100000 in
theorem lexport_is (p q : Option Addr) (t s : List Lab.L) (n c n2 c2 : Nat) (r : List Lab.L) (er : Int) (h : Lab.export t s = (r, er)) (w : World) (hn : t.length = n) (hn2 : s.length = n2) (hA : Lab.At p t w) (hB : Lab.At q s w) (hF : Lab.Fit maxLen t) (hF2 : Lab.Fit maxLen s) (hl : n ≤ 10000) (hl2 : n2 ≤ 10000) :
    Calls Tryz.prog 35 #[.slice p n c, .slice q n2 c2] w fun e w' => (∃ v, e = .returned (.tuple #[v, .int .i64 er]) ∧ OwnLabels w.heap.size v r w') ∧ Below w.heap.size w w' := by
  obtain ⟨ra, hra⟩ : ∃ ra, Lab.right t = ra := ⟨_, rfl⟩
  obtain ⟨rb, hrb⟩ : ∃ rb, Lab.right s = rb := ⟨_, rfl⟩
  have R1 := Lib.hid (right_is p t n c ra hra w hn hA hF (by unfold maxLen; omega))
  have R2 := Lib.hid (fun w hB => right_is q s n2 c2 rb hrb w hn2 hB hF2 (by unfold maxLen; omega))
  unfold Lab.export at h
  rw [hra, hrb] at h
  have HN := Lib.hid hn
  have HN2 := Lib.hid hn2
  have HA := Lib.hid hA
  have HB := Lib.hid hB
  cases ra
  · rw [if_neg (by simp)] at h
    simp only [Prod.mk.injEq] at h
    obtain ⟨rfl, rfl⟩ := h
    clear hra hrb hn hn2 hF hF2 hA hB
    go_enter Tryz.func35, Tryz.ntmps35
    go_wp2_with (go_at_call 20; refine R1.out.mono ?_)
    first | rintro e w1 rfl hb1 | rintro e w1 ⟨rfl, hb1⟩
    go_wp2_with fail
    go_ret2
    exact ⟨⟨_, rfl, OwnLabels.nil _ _⟩, hb1⟩
  cases rb
  · rw [if_neg (by simp)] at h
    simp only [Prod.mk.injEq] at h
    obtain ⟨rfl, rfl⟩ := h
    clear hra hrb hn hn2 hF hF2 hA hB
    go_enter Tryz.func35, Tryz.ntmps35
    go_wp2_with (go_at_call 20; refine R1.out.mono ?_)
    first | rintro e w1 rfl hb1 | rintro e w1 ⟨rfl, hb1⟩
    go_wp2_with (go_at_call 20; refine (R2.out _ (HB.out.below hb1 (Nat.le_refl _))).mono ?_)
    first | rintro e w2 rfl hb2 | rintro e w2 ⟨rfl, hb2⟩
    go_wp2_with fail
    go_ret2
    exact ⟨⟨_, rfl, OwnLabels.nil _ _⟩, below_next hb1 hb2⟩
  rw [if_pos (by simp)] at h
  have hft : Lab.Fit 1000000 t := fun x hx => Lab.size_le x ((Lab.right_parts t hra).2 x hx)
  have hfs : Lab.Fit 1000000 s := fun x hx => Lab.size_le x ((Lab.right_parts s hrb).2 x hx)
  have HFT := Lib.hid hft
  have HFS := Lib.hid hfs
  have HV := Lib.hid (Lab.right_full s hrb)
  have HH := Lib.hid h
  have HGT := Lib.hid (fun name r h w hA => lget_is p t n c name r h w hn hA (by omega))
  have HGS := Lib.hid (fun name r h w hA => lget_is q s n2 c2 name r h w hn2 hA (by omega))
  have HD := Lib.hid (fun m k h => Lab.expoF_drop t s m s k h)
  have hmm := @run_makeMap Tryz.prog
  clear hra hrb hn hn2 hF hF2 hA hB h hft hfs
  go_enter Tryz.func35, Tryz.ntmps35
  go_wp2_with (go_at_call 20; refine R1.out.mono ?_)
  first | rintro e w1 rfl hb1 | rintro e w1 ⟨rfl, hb1⟩
  go_wp2_with (go_at_call 20; refine (R2.out _ (HB.out.below hb1 (Nat.le_refl _))).mono ?_)
  first | rintro e w2 rfl hb2 | rintro e w2 ⟨rfl, hb2⟩
  have hb3 := below_next hb1 hb2
  clear R1 R2 hb1 hb2
  have hmade := World.ownsMap_made (H := Unit) w2 Tryz.prog 9 Lab.elem
  obtain ⟨w3, hw3⟩ : ∃ w3, w2.alloc (.map #[] 0) = w3 := ⟨_, rfl⟩
  rw [hw3] at hmade
  have hbm : Below w.heap.size w w3 := by rw [← hw3]; exact hb3.alloc hb3.size _
  have hs3 : w2.heap.size + 1 ≤ w3.heap.size := by rw [← hw3]; simp
  have hs2 := hb3.size
  have HT0 : Hid (Lab.Tab w2.heap.size 0 [] w3) := ⟨_, hmade, Lab.MapIs.empty⟩
  clear hmade hb3
  go_wp2_with fail
  try rw [hw3]
  obtain ⟨bm, hbmE⟩ : ∃ bm, w2.heap.size = bm := ⟨_, rfl⟩
  rw [hbmE] at HT0 hs3 hs2 ⊢
  clear hw3 hbmE
  go_loopw [20] (fun i wr => ∃ (k : Nat) (m : List Lab.L) (nn : Nat), k ≤ n2 ∧ i = .int .i64 (k : Int) ∧ nn ≤ k ∧ Lab.Tab bm nn m wr ∧ Hid (Lab.expoF t s m (s.drop k) = Lab.expoF t s [] s) ∧ w3.heap.size ≤ wr.heap.size ∧ Below w.heap.size w wr) (fun i _ => n2 - (intOf i).toNat)
  case atStart => exact ⟨0, [], 0, Nat.zero_le _, rfl, Nat.le_refl _, HT0.out, rfl, Nat.le_refl _, hbm⟩
  case round =>
    obtain ⟨k, m, nn, hk, rfl, hnn, hT, HP, hsz, hb⟩ := hrel
    by_cases hlt : k < n2
    · have hkl : k < s.length := by rw [HN2.out]; exact hlt
      obtain ⟨b0, o0, rfl, hc⟩ := (HB.out.below hb (Nat.le_refl _)).open k hkl
      have hst := HP.out
      rw [HD.out m k hkl] at hst
      have hmem : s[k] ∈ s := List.getElem_mem _
      obtain ⟨x, hx⟩ : ∃ x, s[k] = x := ⟨_, rfl⟩
      have c0 := (hc k hkl).1
      have c1 := (hc k hkl).2
      rw [hx] at c0 c1 hst hmem
      have hv := HV.out x hmem
      have hfx := HFS.out x hmem
      have hbx : b0 < wr.heap.size := World.block_lt_of_cell? _ _ c0
      obtain ⟨g, hg⟩ : ∃ g, Lab.get t x.n = g := ⟨_, rfl⟩
      have G1 := Lib.hid (fun w hA => HGT.out x.n g hg w hA)
      obtain ⟨bg, hbg⟩ : ∃ bg, (Lab.bs g).isEmpty = bg := ⟨_, rfl⟩
      have hv1 : g.toList.isEmpty = bg := by rw [← hbg, ByteArray.toList_eq]; rfl
      have hv0 : decide (g.toList = []) = bg := by rw [← hv1]; cases g.toList <;> rfl
      have n1 : (0 : Int) ≤ (k : Int) := by omega
      have n2' : (k : Int) < (n2 : Int) := by omega
      have hb2 := hb.alloc hb.size (.cells #[.string x.n, .string x.v] 31)
      have hk2 := alloc_new wr (.cells #[.string x.n, .string x.v] 31)
      have hT2 := hT.below ((Below.refl _ wr).alloc (Nat.le_refl _) (.cells #[.string x.n, .string x.v] 31))
      have HST := Lib.hid hst
      have HV2 := Lib.hid hv
      clear hx hc HP hst hmem hT hv
      cases bg
      · have hgn : ¬ Lab.bs (Lab.get t x.n) = [] := by rw [hg]; intro e; rw [e] at hbg; cases hbg
        obtain ⟨nm, hnm⟩ : ∃ nm, Lab.expName x.n = nm := ⟨_, rfl⟩
        have hxz := hfx.1
        have hxv := hfx.2
        have hnz : nm.size ≤ 1000009 := by rw [← hnm]; unfold Lab.expName; rw [ByteArray.size_append]; show 9 + _ ≤ _; omega
        obtain ⟨bn, hbn⟩ : ∃ bn, Lab.named 95 (Lab.bs nm) = bn := ⟨_, rfl⟩
        have NM := Lib.hid (fun w => name_is nm bn hbn w (by unfold maxLen; omega))
        have hnm2 : (⟨#[101, 120, 112, 111, 114, 116, 101, 100, 95]⟩ : ByteArray) ++ x.n = nm := hnm
        have HNM := Lib.hid hnm2
        obtain ⟨g2, hg2⟩ : ∃ g, Lab.get t nm = g := ⟨_, rfl⟩
        obtain ⟨g3, hg3⟩ : ∃ g, Lab.get s nm = g := ⟨_, rfl⟩
        have G2 := Lib.hid (fun w hA => HGT.out nm g2 hg2 w hA)
        have G3 := Lib.hid (fun w hA => HGS.out nm g3 hg3 w hA)
        have z2 : g2.size ≤ 1000000 := by rw [← hg2]; exact Lab.get_size t nm HFT.out
        have z3 : g3.size ≤ 1000000 := by rw [← hg3]; exact Lab.get_size s nm HFS.out
        obtain ⟨be, hbe⟩ : ∃ be, (Lab.bs (g2 ++ g3)).isEmpty = be := ⟨_, rfl⟩
        have hE : Lab.expoS t s m x = if bn = true ∧ be = true then Lab.put1 m ⟨nm, x.v⟩ else m := by
          unfold Lab.expoS Lab.expo1
          rw [if_neg hgn, hnm, hg2, hg3, hbn]
          by_cases e : Lab.bs (g2 ++ g3) = []
          · have e2 : be = true := by rw [← hbe, e]; rfl
            cases bn <;> simp [e, e2]
          · have e2 : be = false := by rw [← hbe]; simpa using e
            cases bn <;> simp [e, e2]
        have hst := HST.out
        rw [hE] at hst
        have HST2 := Lib.hid hst
        clear hst hE hgn hg hbg HST HGT HGS hnm hnm2 hg2 hg3 hbn
        go_wp2_with (go_at_call 22; refine (G1.out _ (HA.out.below hb2 (Nat.le_refl _))).mono ?_)
        first | rintro e w4 rfl hb4 | rintro e w4 ⟨rfl, hb4⟩
        have hk4 := below_kept hb4 hk2 (by simp)
        have d0 : w4.cell? ⟨wr.heap.size, 0, none⟩ = some (.string x.n) := by rw [Lib.cell_of_heap hk4]; rfl
        have d1 : w4.cell? ⟨wr.heap.size, 1, none⟩ = some (.string x.v) := by rw [Lib.cell_of_heap hk4]; rfl
        have f0 : w4.frozen? ⟨wr.heap.size, 0, none⟩ = false := Lib.frozen_of_heap hk4 0
        have hb5 : Below w.heap.size w w4 := hb2.trans (hb4.mono hb2.size)
        have hs4 := hb4.size
        simp only [World.size_alloc] at hs4
        have hT4 := hT2.below hb4
        have hszw := hb.size
        clear hk4 hk2 hb4 hT2 hb2 hb c0 c1
        go_upto_region 9 with fail
        rw [HNM.out]
        obtain ⟨W5, hW5⟩ : ∃ W, W = w4.setCell ⟨wr.heap.size, 0, none⟩ (.string nm) := ⟨_, rfl⟩
        have hbX : Below wr.heap.size w4 W5 := by rw [hW5]; exact (Below.refl _ _).setCell (p := ⟨wr.heap.size, 0, none⟩) (Nat.le_refl _) _
        have e0 : W5.cell? ⟨wr.heap.size, 0, none⟩ = some (.string nm) := by rw [hW5]; exact World.cell?_setCell_same' _ _ _ (by rw [d0]; rfl)
        have e1 : W5.cell? ⟨wr.heap.size, 1, none⟩ = some (.string x.v) := by rw [hW5]; exact (World.cell?_setCell_other _ _ _ _ (by intro e; cases e)).trans d1
        have hs5 : w4.heap.size = W5.heap.size := by rw [hW5, World.size_setCell]
        have hT5 := hT4.block (hbX.block bm (by omega))
        have hbW : Below w.heap.size w W5 := hb5.trans (hbX.mono hszw)
        rw [← hW5]
        have hs5' : wr.heap.size + 1 ≤ W5.heap.size := by omega
        clear hW5 hbX hT4 hb5 hs5 d0 d1 f0
        cases bn
        · refine wp_region_held_drew (S := fun w' => w'.cell? ⟨wr.heap.size, 0, none⟩ = some (.string nm)) (by kernel_rfl) (by assumption) (fun hHeld => ?_)
          refine Lab.take (i := 0) (v := ?_) rfl (by kernel_rfl) (by kernel_rfl) (by kernel_rfl) (fun _ _ _ h => h) (.inl ⟨by rfl, ?_⟩) (by assumption) ?_
          rotate_left
          · (intro w9 hS9; (try dsimp only at hS9); go_simp; try with_reducible rfl)
          try simp only [Act.put, List.setIfInBounds_toArray, List.set_cons_zero, List.set_cons_succ]
          refine Lab.take (i := 1) (v := ?_) rfl (by kernel_rfl) (by kernel_rfl) (by kernel_rfl) (fun _ _ _ h => h) (.inl ⟨by rfl, ?_⟩) (by assumption) ?_
          rotate_left
          · (intro w9 hS9; (try dsimp only at hS9); go_simp; try with_reducible rfl)
          try simp only [Act.put, List.setIfInBounds_toArray, List.set_cons_zero, List.set_cons_succ]
          refine wpAnyH_ready (rs := [2]) (by kernel_rfl) (by simp) ?_
          refine AllReadyH.cons rfl (fun K hK => ?_) AllReadyH.nil
          go_simp
          (go_at_call 15; refine (NM.out _).mono ?_; rintro e w6 ⟨rfl, rfl⟩)
          refine hK.out _ _ hHeld (fun hHeld => ?_)
          clear hK K
          try simp only [Act.put, List.setIfInBounds_toArray, List.set_cons_zero, List.set_cons_succ]
          refine Lab.take (i := 3) (v := ?_) rfl (by kernel_rfl) (by kernel_rfl) (by kernel_rfl) (fun _ _ _ h => h) (.inl ⟨by rfl, ?_⟩) (by assumption) ?_
          rotate_left
          · (intro w9 hS9; (try dsimp only at hS9); go_simp; try with_reducible rfl)
          try simp only [Act.put, List.setIfInBounds_toArray, List.set_cons_zero, List.set_cons_succ]
          refine Lab.take (i := 4) (v := ?_) rfl (by kernel_rfl) (by kernel_rfl) (by kernel_rfl) (fun _ _ _ h => h) (.inl ⟨by rfl, ?_⟩) (by assumption) ?_
          rotate_left
          · (intro w9 hS9; (try dsimp only at hS9); go_simp; try with_reducible rfl)
          try simp only [Act.put, List.setIfInBounds_toArray, List.set_cons_zero, List.set_cons_succ]
          refine Lab.take (i := 5) (v := undef) rfl (by kernel_rfl) (by kernel_rfl) (by kernel_rfl) (fun _ _ _ h => h) (.inr ⟨by rfl, rfl⟩) (by assumption) ?_
          try simp only [Act.put, List.setIfInBounds_toArray, List.set_cons_zero, List.set_cons_succ]
          refine Lab.take (i := 6) (v := undef) rfl (by kernel_rfl) (by kernel_rfl) (by kernel_rfl) (fun _ _ _ h => h) (.inr ⟨by rfl, rfl⟩) (by assumption) ?_
          try simp only [Act.put, List.setIfInBounds_toArray, List.set_cons_zero, List.set_cons_succ]
          refine Lab.take (i := 7) (v := undef) rfl (by kernel_rfl) (by kernel_rfl) (by kernel_rfl) (fun _ _ _ h => h) (.inr ⟨by rfl, rfl⟩) (by assumption) ?_
          try simp only [Act.put, List.setIfInBounds_toArray, List.set_cons_zero, List.set_cons_succ]
          refine Lab.take (i := 8) (v := undef) rfl (by kernel_rfl) (by kernel_rfl) (by kernel_rfl) (fun _ _ _ h => h) (.inr ⟨by rfl, rfl⟩) (by assumption) ?_
          try simp only [Act.put, List.setIfInBounds_toArray, List.set_cons_zero, List.set_cons_succ]
          refine Lab.take (i := 9) (v := undef) rfl (by kernel_rfl) (by kernel_rfl) (by kernel_rfl) (fun _ _ _ h => h) (.inr ⟨by rfl, rfl⟩) (by assumption) ?_
          try simp only [Act.put, List.setIfInBounds_toArray, List.set_cons_zero, List.set_cons_succ]
          refine Lab.take (i := 10) (v := undef) rfl (by kernel_rfl) (by kernel_rfl) (by kernel_rfl) (fun _ _ _ h => h) (.inr ⟨by rfl, rfl⟩) (by assumption) ?_
          try simp only [Act.put, List.setIfInBounds_toArray, List.set_cons_zero, List.set_cons_succ]
          refine Lab.take (i := 11) (v := undef) rfl (by kernel_rfl) (by kernel_rfl) (by kernel_rfl) (fun _ _ _ h => h) (.inr ⟨by rfl, rfl⟩) (by assumption) ?_
          try simp only [Act.put, List.setIfInBounds_toArray, List.set_cons_zero, List.set_cons_succ]
          refine Lab.take (i := 12) (v := undef) rfl (by kernel_rfl) (by kernel_rfl) (by kernel_rfl) (fun _ _ _ h => h) (.inr ⟨by rfl, rfl⟩) (by assumption) ?_
          try simp only [Act.put, List.setIfInBounds_toArray, List.set_cons_zero, List.set_cons_succ]
          refine Lab.take (i := 13) (v := undef) rfl (by kernel_rfl) (by kernel_rfl) (by kernel_rfl) (fun _ _ _ h => h) (.inr ⟨by rfl, rfl⟩) (by assumption) ?_
          try simp only [Act.put, List.setIfInBounds_toArray, List.set_cons_zero, List.set_cons_succ]
          refine Lab.take (i := 14) (v := undef) rfl (by kernel_rfl) (by kernel_rfl) (by kernel_rfl) (fun _ _ _ h => h) (.inr ⟨by rfl, rfl⟩) (by assumption) ?_
          try simp only [Act.put, List.setIfInBounds_toArray, List.set_cons_zero, List.set_cons_succ]
          refine Lab.take (i := 15) (v := ?_) rfl (by kernel_rfl) (by kernel_rfl) (by kernel_rfl) (fun _ _ _ h => h) (.inl ⟨by rfl, ?_⟩) (by assumption) ?_
          rotate_left
          · (intro w9 hS9; (try dsimp only at hS9); go_simp; try with_reducible rfl)
          try simp only [Act.put, List.setIfInBounds_toArray, List.set_cons_zero, List.set_cons_succ]
          refine wpAnyH_done (by kernel_rfl) ?_ _
          have hst := HST2.out
          rw [if_neg (by simp)] at hst
          have HST3 := Lib.hid hst
          clear hst HST2
          go_wp2_with fail
          go_roundw
          case rel => exact ⟨k + 1, m, nn, by omega, by go_num, by omega, hT5, HST3, by show w3.heap.size ≤ W5.heap.size; omega, hbW.drew⟩
          case measure => simp [intOf]; omega
        · have HAB : Hid (∀ w', Below W5.heap.size W5 w' → Lab.At p t w' ∧ Lab.At (some ⟨b0, o0, none⟩) s w') := fun w' hw => ⟨HA.out.below (hbW.trans (hw.mono hbW.size)) (Nat.le_refl _), HB.out.below (hbW.trans (hw.mono hbW.size)) (Nat.le_refl _)⟩
          have q1 : (g2 ++ g3).toList.isEmpty = be := by rw [← hbe, ByteArray.toList_eq]; rfl
          have q0 : decide ((g2 ++ g3).toList = []) = be := by rw [← q1]; cases (g2 ++ g3).toList <;> rfl
          have HAB2 : Hid (∀ w', Below W5.drew.heap.size W5.drew w' → Lab.At p t w' ∧ Lab.At (some ⟨b0, o0, none⟩) s w') := fun w' hw => HAB.out w' ((Below.refl W5.heap.size W5).drew.trans (hw.mono (Nat.le_refl _)))
          clear hbe
          go_region_held (fun w' => w'.cell? ⟨wr.heap.size, 0, none⟩ = some (.string nm))
            (first
              | exact cell_later hb8 (by assumption) (Nat.le_refl _)
              | exact cell_later hb7 (by assumption) (Nat.le_refl _)
              | assumption)
            ((first
              | (go_at_call 15; (with_reducible refine (NM.out W5.drew).mono ?_); rintro e w6 ⟨rfl, rfl⟩)
              | (go_at_call 22; (with_reducible refine (G2.out W5.drew (HAB.out _ (Below.refl _ W5).drew).1).mono ?_); rintro e w7 ⟨rfl, hb7⟩)
              | (go_at_call 22; (with_reducible refine (G3.out w7 (HAB2.out _ hb7).2).mono ?_); rintro e w8 ⟨rfl, hb8⟩)))
          have hb5d : Below W5.heap.size W5 w7 := (Below.refl W5.heap.size W5).drew.trans (hb7.mono (Nat.le_refl _))
          have hb58 : Below W5.heap.size W5 w8 := below_next hb5d hb8
          have hbw8 : Below w.heap.size w w8 := hbW.trans (hb58.mono hbW.size)
          have e08 := cell_later hb58 e0 (Nat.le_refl _)
          have e18 := cell_later hb58 e1 (Nat.le_refl _)
          have hT8 := hT5.below hb58
          have hs8 := hb58.size
          clear hb5d hb58 hb7 hb8 HAB HAB2 G1 G2 G3 NM e0 e1 hT5 hbW
          cases be
          · have hst := HST2.out
            rw [if_neg (by simp)] at hst
            have HST3 := Lib.hid hst
            clear hst HST2
            go_wp2_with fail
            go_roundw
            case rel => exact ⟨k + 1, m, nn, by omega, by go_num, by omega, hT8, HST3, by omega, hbw8⟩
            case measure => simp [intOf]; omega
          · have hst := HST2.out
            rw [if_pos (by simp)] at hst
            have HST3 := Lib.hid hst
            have hkey : keyOf Tryz.prog 9 (.string nm) = some (.string (Lab.bs nm)) := WideMaps.keyOf_string_mk (s := nm) Tryz.underlying9 (by unfold maxLen; omega)
            obtain ⟨D, hown, hM⟩ := hT8
            have HM := Lib.hid (hM.putv ⟨nm, x.v⟩ HV2.out)
            clear hst HST2 hM
            go_wp2_with (at_mapUpdate; refine wpList_mapUpdate_own _ rfl _ _ _ 107 rfl 9 31 strLaw Tryz.underlying107 _ _ _ D rfl hown ?m2 _ _ _ rfl rfl hkey (Lab.dat ⟨nm, x.v⟩) [] (Lab.elem_mk ⟨nm, x.v⟩) ?_)
            case m2 => unfold maxLen; omega
            intro w9 hmap9 hg9
            have hb9 := hbw8.grown hg9 hbw8.size (fun j hj => by cases hj; exact hs2)
            have hs9 := hg9.size
            clear hg9 hbw8 e08 e18
            go_wp2_with fail
            go_roundw
            case rel => exact ⟨k + 1, _, nn + 1, by omega, by go_num, by omega, ⟨_, hmap9, HM.out⟩, HST3, by omega, hb9⟩
            case measure => simp [intOf]; omega
      · have hge : Lab.bs (Lab.get t x.n) = [] := by rw [hg]; exact List.isEmpty_iff.1 hbg
        have hE : Lab.expoS t s m x = Lab.put1 m x := by unfold Lab.expoS Lab.expo1; rw [if_pos hge]
        have hst := HST.out
        rw [hE] at hst
        have HST2 := Lib.hid hst
        clear hst hE hge hg hbg HST HGT HGS
        go_wp2_with (go_at_call 22; refine (G1.out _ (HA.out.below hb2 (Nat.le_refl _))).mono ?_)
        first | rintro e w4 rfl hb4 | rintro e w4 ⟨rfl, hb4⟩
        have hk4 := below_kept hb4 hk2 (by simp)
        have d0 : w4.cell? ⟨wr.heap.size, 0, none⟩ = some (.string x.n) := by rw [Lib.cell_of_heap hk4]; rfl
        have d1 : w4.cell? ⟨wr.heap.size, 1, none⟩ = some (.string x.v) := by rw [Lib.cell_of_heap hk4]; rfl
        have hb5 : Below w.heap.size w w4 := hb2.trans (hb4.mono hb2.size)
        have hkey := Lab.key_of x.n hfx.1
        have hs4 := hb4.size
        simp only [World.size_alloc] at hs4
        obtain ⟨D, hown, hM⟩ := hT2.below hb4
        have HM := Lib.hid (hM.putv x HV2.out)
        clear hk4 hk2 hb4 hT2 hM hb2 hb c0 c1
        go_wp2_with (at_mapUpdate; refine wpList_mapUpdate_own _ rfl _ _ _ 107 rfl 9 31 strLaw Tryz.underlying107 _ _ _ D rfl hown ?m1 _ _ _ rfl rfl hkey (Lab.dat x) [] (Lab.elem_mk x) ?_)
        case m1 => unfold maxLen; omega
        intro w6 hmap6 hg6
        have hb6 := hb5.grown hg6 hb5.size (fun j hj => by cases hj; exact hs2)
        have hs6 := hg6.size
        clear hg6 hb5 d0 d1
        go_wp2_with fail
        go_roundw
        case rel => exact ⟨k + 1, _, nn + 1, by omega, by go_num, by omega, ⟨_, hmap6, HM.out⟩, HST2, by omega, hb6⟩
        case measure => simp [intOf]; omega
    · have hp := HP.out
      rw [List.drop_eq_nil_iff.2 (by rw [HN2.out]; omega)] at hp
      have hhh := HH.out
      rw [← hp] at hhh
      have n3 : (n2 : Int) ≤ (k : Int) := by omega
      obtain ⟨R, hR⟩ : ∃ R, Lab.srt (Lab.puts m t) = R := ⟨_, rfl⟩
      have hml : m.length ≤ n2 := by
        have h1 := Lab.expoF_length t s s []
        rw [← hp, List.length_nil, HN2.out] at h1
        show (Lab.expoF t s m []).length ≤ n2
        omega
      have hRl : R.length ≤ 20000 := by
        rw [← hR, Lab.srt_length]
        have := Lab.puts_length t m
        rw [HN.out] at this
        omega
      have hpl : (Lab.puts m t).length ≤ 100000 := by
        have := Lab.puts_length t m
        rw [HN.out] at this
        omega
      replace hhh : Lab.cut64 R = (r, er) := by rw [← hR]; exact hhh
      have HHH := Lib.hid hhh
      have HR := Lib.hid hR
      have HPL := Lib.hid hpl
      have P1 := Lib.hid (put_is w bm nn m p t n c wr HN.out HA.out HFT.out (by omega) (by omega) hb hs2 (by omega) hT)
      clear hR hhh hp HP HH hpl hT
      go_wp2_with (go_at_call 72; refine P1.out.mono ?_)
      first | rintro e w4 rfl nn1 hnn1 hT1 hs4 hb4 | rintro e w4 ⟨rfl, ⟨nn1, hnn1, hT1⟩, hs4, hb4⟩
      have P3 := Lib.hid (labels_is bm nn1 _ R HR.out w4 HPL.out (by omega) hT1)
      clear P1 hT1
      go_wp2_with (go_at_call 73; refine P3.out.mono ?_)
      first | rintro e w5 u rfl hu hb5 | rintro e w5 ⟨⟨u, rfl, hu⟩, hb5⟩
      obtain ⟨pu, cu, rfl, _⟩ := OwnLabels.open hu
      have hb6 : Below w.heap.size w w5 := hb4.trans (hb5.mono hb4.size)
      obtain ⟨N, hN⟩ : ∃ N, R.length = N := ⟨_, rfl⟩
      rw [hN] at hRl hu ⊢
      have HU := Lib.hid (row_lift hu hb4.size)
      have hhh := HHH.out
      unfold Lab.cut64 at hhh
      rw [hN] at hhh
      have HBD := Lib.hid (fun w => bound_is pu N cu w (by omega))
      clear P3 hu hb5 hN
      by_cases h64 : 64 < N
      · rw [if_pos h64] at hhh HBD
        simp only [Prod.mk.injEq] at hhh
        obtain ⟨rfl, rfl⟩ := hhh
        go_wp2_with (go_at_call 56; refine (HBD.out _).mono ?_)
        try rintro _ _ ⟨rfl, rfl⟩
        go_wp2_with fail
        go_ret2
        exact ⟨⟨_, rfl, OwnLabels.nil _ _⟩, hb6⟩
      · rw [if_neg h64] at hhh HBD
        simp only [Prod.mk.injEq] at hhh
        obtain ⟨rfl, rfl⟩ := hhh
        go_wp2_with (go_at_call 56; refine (HBD.out _).mono ?_)
        try rintro _ _ ⟨rfl, rfl⟩
        go_wp2_with fail
        go_ret2
        exact ⟨⟨_, rfl, HU.out⟩, hb6⟩
end Go.Proofs.YtbilaghljlobpaaGreat
