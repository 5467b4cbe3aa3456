/- The walk of CanonLists: Sort and First, of whatever targets, tell what the reference tells. -/
import Derived.Test.YthnaninhbofeoaaGreatDoorSpoilT
import Derived.Test.YthnaninhbofeoaaGreatDoorRefO
import Derived.Test.YthnaninhbofeoaaGreatDoorWrongP
import Derived.Test.YthnaninhbofeoaaGreatDoorTell
namespace Go.Proofs.YthnaninhbofeoaaGreatDoor
open Go.RowKit

theorem rkeys_nil (p : Option Addr) (c : Nat) (w : World) :
    Calls Tryz.prog 64 #[.slice p 0 c] w fun e w' => e = .returned (.tuple #[.slice none 0 0, .int .i64 0]) ∧ Below w.heap.size w w' := by
  go_enter Tryz.func64, Tryz.ntmps64
  go_wp2_with fail
  go_loopw [4, 5] (fun v i wr => v = .slice none 0 0 ∧ i = .int .i64 0 ∧ Below w.heap.size w wr) (fun _ i _ => 0)
  case atStart => exact ⟨rfl, rfl, Below.refl _ _⟩
  case round =>
    obtain ⟨rfl, rfl, hb⟩ := hrel
    go_wp2_with fail
    go_ret2
    exact ⟨rfl, hb⟩
theorem rfirst_nil (p : Option Addr) (c : Nat) (w : World) :
    Calls Tryz.prog 29 #[.slice p 0 c] w fun e w' => e = .returned (.tuple #[.slice none 0 0, .int .i64 0]) ∧ Below w.heap.size w w' := by
  have HK := Lib.hid (rkeys_nil p c w)
  go_enter Tryz.func29, Tryz.ntmps29
  go_wp2_with (go_at_call 64; refine HK.out.mono ?_)
  first | rintro e w1 rfl hb1 | rintro e w1 ⟨rfl, hb1⟩
  go_wp2_with fail
  go_loopw [6, 7] (fun v i wr => v = .slice none 0 0 ∧ i = .int .i64 0 ∧ Below w.heap.size w wr) (fun _ i _ => 0)
  case atStart => exact ⟨rfl, rfl, hb1⟩
  case round =>
    obtain ⟨rfl, rfl, hb⟩ := hrel
    go_wp2_with fail
    go_ret2
    exact ⟨rfl, hb⟩
set_option maxRecDepth 100000 in
theorem rsort_nil (p : Option Addr) (c : Nat) (w : World) :
    Calls Tryz.prog 28 #[.slice p 0 c] w fun e w' => e = .returned (.tuple #[.slice none 0 0, .int .i64 0]) ∧ Below w.heap.size w w' := by
  have HK := Lib.hid (rkeys_nil p c w)
  go_enter Tryz.func28, Tryz.ntmps28
  go_wp2_with (go_at_call 64; refine HK.out.mono ?_)
  first | rintro e w1 rfl hb1 | rintro e w1 ⟨rfl, hb1⟩
  go_wp2_with fail
  go_loopw [6, 7] (fun v l wr => v = .slice none 0 0 ∧ l = .string ⟨#[]⟩ ∧ Below w.heap.size w wr) (fun _ _ _ => 0)
  case atStart => exact ⟨rfl, rfl, hb1⟩
  case round =>
    obtain ⟨rfl, rfl, hb⟩ := hrel
    have HB := Lib.hid hb
    clear hb hb1
    go_wp2_with fail
    go_loopw [8, 9] (fun b i wq => b = .int .i64 (-1) ∧ i = .int .i64 0 ∧ wq = wr) (fun _ _ _ => 0)
    case atStart => exact ⟨rfl, rfl, rfl⟩
    case round =>
      obtain ⟨rfl, rfl, rfl⟩ := hrel
      go_wp2_with fail
      go_ret2
      exact ⟨rfl, HB.out⟩

/-- what Sort tells of targets, whatever they are -/
def Can.Srt (ts r : List Can.T) (er : Int) : Prop := Can.err ts = er ∧ (er = 0 → (∀ t ∈ r, Can.Fine t) ∧ Can.Up (r.map Can.jl) ∧ ∀ x, x ∈ r.map Can.jl ↔ x ∈ ts.map Can.jl) ∧ (er ≠ 0 → r = [])
theorem Can.srt_same {ts r us q : List Can.T} {er : Int} (h1 : Can.Srt ts r er) (h2 : Can.Srt us q er) (h : ts.map Can.jl = us.map Can.jl) : r.map Can.jl = q.map Can.jl := by
  by_cases h0 : er = 0
  · obtain ⟨_, a1, a2⟩ := h1.2.1 h0
    obtain ⟨_, b1, b2⟩ := h2.2.1 h0
    exact Can.up_uniq _ _ a1 b1 fun x => by rw [a2 x, b2 x, h]
  · rw [h1.2.2 h0, h2.2.2 h0]
theorem sort_any (p : Option Addr) (ts : List Can.T) (c : Nat) (w : World) (hT : Can.TAtP p ts w) (hnil : ts = [] → p = none → c = 0) (hF : ∀ t ∈ ts, Can.TFit t) (hl : ts.length ≤ 1000) (hq : ts = [] → p = none ∨ ∃ g, p = some ⟨g, 0, none⟩ ∧ g < w.heap.size) :
    Calls Tryz.prog 10 #[.slice p ts.length c] w fun e w' => (∃ (v : Value) (r : List Can.T) (er : Int), e = .returned (.tuple #[v, .int .i64 er]) ∧ OwnTs w.heap.size v r w' ∧ Can.Srt ts r er ∧ r.length ≤ ts.length) ∧ Below w.heap.size w w' := by
  have key : ∀ g, p = some ⟨g, 0, none⟩ → g < w.heap.size → Can.TAt g 0 ts w → Calls Tryz.prog 10 #[.slice p ts.length c] w fun e w' => (∃ (v : Value) (r : List Can.T) (er : Int), e = .returned (.tuple #[v, .int .i64 er]) ∧ OwnTs w.heap.size v r w' ∧ Can.Srt ts r er ∧ r.length ≤ ts.length) ∧ Below w.heap.size w w' := by
    intro g hp hg hA
    subst hp
    by_cases h0 : Can.err ts = 0
    · have hfk := Can.keys_fine ts hF h0
      exact (sort_fine g 0 c ts ts.length rfl hfk.1 hl w hg hA).mono fun e w' ⟨⟨v, r, h1, h2, h3, h4, h5, h6⟩, hb⟩ => ⟨⟨v, r, 0, h1, h2, ⟨h0, fun _ => ⟨h3, h4, h5⟩, fun h => absurd rfl h⟩, h6⟩, hb⟩
    · exact (sort_err g 0 c ts _ ts.length w hg rfl hA hF rfl h0 hl).mono fun e w' ⟨h1, hb⟩ => ⟨⟨_, [], _, h1, OwnTs.nil _ _, ⟨rfl, fun h => absurd h h0, fun _ => rfl⟩, by simp⟩, hb⟩
  rcases hT with hT | ⟨g, h1, h2, h3⟩
  · rcases hq hT with rfl | ⟨g, h1, h2⟩
    · obtain rfl := hnil hT rfl
      subst hT
      exact (sort_none w).mono fun e w' ⟨h1, hb⟩ => ⟨⟨_, [], 0, h1, OwnTs.nil _ _, ⟨rfl, fun _ => ⟨fun t ht => absurd ht (by simp), List.Pairwise.nil, fun x => Iff.rfl⟩, fun h => absurd rfl h⟩, by simp⟩, hb⟩
    · exact key g h1 h2 (fun i hi => by rw [hT] at hi; simp at hi)
  · exact key g h1 h2 h3
def Can.fsts (ts : List Can.T) : List Int := (Can.firsts ((Can.keysOf ts).map Lab.bs) (Can.keysOf ts).length).map (fun i => ((i : Nat) : Int))
theorem Can.fsts_err (ts : List Can.T) (h : Can.err ts ≠ 0) : Can.fsts ts = [] := by
  unfold Can.fsts Can.keysOf
  rw [if_neg h]
  rfl
theorem Can.fsts_length (ts : List Can.T) : (Can.fsts ts).length ≤ ts.length := by
  unfold Can.fsts
  rw [List.length_map]
  refine Nat.le_trans (Can.firsts_length _ _) ?_
  unfold Can.keysOf
  split
  · rw [List.length_map]; exact Nat.le_refl _
  · simp
theorem first_any (p : Option Addr) (ts : List Can.T) (c : Nat) (w : World) (hT : Can.TAtP p ts w) (hnil : ts = [] → p = none → c = 0) (hF : ∀ t ∈ ts, Can.TFit t) (hl : ts.length ≤ 1000) (hq : ts = [] → p = none ∨ ∃ g, p = some ⟨g, 0, none⟩ ∧ g < w.heap.size) :
    Calls Tryz.prog 23 #[.slice p ts.length c] w fun e w' => (∃ (v : Value), e = .returned (.tuple #[v, .int .i64 (Can.err ts)]) ∧ OwnInts w.heap.size v (Can.fsts ts) w') ∧ Below w.heap.size w w' := by
  have key : ∀ g, p = some ⟨g, 0, none⟩ → g < w.heap.size → Can.TAt g 0 ts w → Calls Tryz.prog 23 #[.slice p ts.length c] w fun e w' => (∃ (v : Value), e = .returned (.tuple #[v, .int .i64 (Can.err ts)]) ∧ OwnInts w.heap.size v (Can.fsts ts) w') ∧ Below w.heap.size w w' := by
    intro g hp hg hA
    subst hp
    by_cases h0 : Can.err ts = 0
    · have hfk := Can.keys_fine ts hF h0
      rw [h0]
      refine first_ok g 0 c ts (ts.map Can.kb) ts.length w hg rfl (by rw [List.length_map]) hA (fun i h1 h2 => by rw [List.getElem_map]; exact Can.fine_ok _ (hfk.1 _ (List.getElem_mem _))) hl (fun x hx => by
        obtain ⟨t, ht, rfl⟩ := List.mem_map.1 hx
        exact Can.kb_size t (hfk.1 t ht)) _ ?_
      rw [(Can.seen_is (ts.map Can.kb) ts.length (by rw [List.length_map]; exact Nat.le_refl _)).1]
      unfold Can.fsts
      rw [hfk.2, List.length_map]
    · rw [Can.fsts_err ts h0]
      exact (first_err g 0 c ts _ ts.length w hg rfl hA hF rfl h0 hl).mono fun e w' ⟨h1, hb⟩ => ⟨⟨_, h1, World.ownsRow_nil _ _ _ _⟩, hb⟩
  rcases hT with hT | ⟨g, h1, h2, h3⟩
  · rcases hq hT with rfl | ⟨g, h1, h2⟩
    · obtain rfl := hnil hT rfl
      subst hT
      exact (first_none w).mono fun e w' ⟨h1, hb⟩ => ⟨⟨_, h1, World.ownsRow_nil _ _ _ _⟩, hb⟩
    · exact key g h1 h2 (fun i hi => by rw [hT] at hi; simp at hi)
  · exact key g h1 h2 h3
theorem rsort_any (p : Option Addr) (ts : List Can.T) (c : Nat) (w : World) (hT : Can.TPos p ts w) (hF : ∀ t ∈ ts, Can.TFit t) (hl : ts.length ≤ 1000) :
    Calls Tryz.prog 28 #[.slice p ts.length c] w fun e w' => (∃ (v : Value) (r : List Can.T) (er : Int), e = .returned (.tuple #[v, .int .i64 er]) ∧ RowTs w.heap.size v r w' ∧ (∀ t ∈ r, t ∈ ts) ∧ Can.Srt ts r er) ∧ Below w.heap.size w w' := by
  rcases hT with rfl | ⟨b, o, rfl, h2, h3⟩
  · exact (rsort_nil p c w).mono fun e w' ⟨h1, hb⟩ => ⟨⟨_, [], 0, h1, World.ownsRow_nil _ _ _ _, fun t ht => absurd ht (by simp), rfl, fun _ => ⟨fun t ht => absurd ht (by simp), List.Pairwise.nil, fun x => Iff.rfl⟩, fun h => absurd rfl h⟩, hb⟩
  · by_cases h0 : Can.err ts = 0
    · have hfk := Can.keys_fine ts hF h0
      refine (rsort_is b o c ts ts.length w h2 rfl h3 hF h0 hl).mono fun e w' ⟨⟨v, r, a1, a2, a3, a4, a5⟩, hb⟩ => ⟨⟨v, r, 0, a1, a2, a3, h0, fun _ => ⟨fun t ht => hfk.1 t (a3 t ht), a4, a5⟩, fun h => absurd rfl h⟩, hb⟩
    · exact (rsort_err b o c ts _ ts.length w h2 rfl h3 hF rfl h0 hl).mono fun e w' ⟨h1, hb⟩ => ⟨⟨_, [], _, h1, World.ownsRow_nil _ _ _ _, fun t ht => absurd ht (by simp), rfl, fun h => absurd h h0, fun _ => rfl⟩, hb⟩
theorem rfirst_any (p : Option Addr) (ts : List Can.T) (c : Nat) (w : World) (hT : Can.TPos p ts w) (hF : ∀ t ∈ ts, Can.TFit t) (hl : ts.length ≤ 1000) :
    Calls Tryz.prog 29 #[.slice p ts.length c] w fun e w' => (∃ (v : Value), e = .returned (.tuple #[v, .int .i64 (Can.err ts)]) ∧ OwnInts w.heap.size v (Can.fsts ts) w') ∧ Below w.heap.size w w' := by
  rcases hT with rfl | ⟨b, o, rfl, h2, h3⟩
  · exact (rfirst_nil p c w).mono fun e w' ⟨h1, hb⟩ => ⟨⟨_, h1, World.ownsRow_nil _ _ _ _⟩, hb⟩
  · exact rfirst_is b o c ts _ _ ts.length w h2 rfl h3 hF rfl rfl hl

def Can.OkT (t : Can.T) : Prop := Can.short t.ls = true ∧ t.n ≤ 30 ∧ t.job.size ≤ 300
theorem Can.okT_fit (t : Can.T) (h : Can.OkT t) (ha : Can.TAny t) : Can.TFit t := by
  obtain ⟨h1, h2, h3⟩ := h
  exact ⟨ha.2.1, by omega, (Can.short_fit _ h1).2, by omega⟩
theorem Can.keyB_jl (t u : Can.T) (h : Can.jl t = Can.jl u) : Can.keyB t = Can.keyB u ∧ Can.keyE t = Can.keyE u := by
  unfold Can.jl at h
  simp only [Prod.mk.injEq] at h
  unfold Can.keyB Can.keyE
  rw [h.1, h.2]
  exact ⟨rfl, rfl⟩
theorem Can.err_jl : ∀ (a b : List Can.T), a.map Can.jl = b.map Can.jl → Can.err a = Can.err b ∧ a.map Can.keyB = b.map Can.keyB
  | [], [], _ => ⟨rfl, rfl⟩
  | x :: a, [], h => by simp at h
  | [], y :: b, h => by simp at h
  | x :: a, y :: b, h => by
    rw [List.map_cons, List.map_cons, List.cons.injEq] at h
    obtain ⟨k1, k2⟩ := Can.keyB_jl x y h.1
    obtain ⟨i1, i2⟩ := Can.err_jl a b h.2
    have e : Can.err (x :: a) = if Can.keyE x = 0 then Can.err a else Can.keyE x := rfl
    have e2 : Can.err (y :: b) = if Can.keyE y = 0 then Can.err b else Can.keyE y := rfl
    rw [e, e2, k2, i1, List.map_cons, List.map_cons, k1, i2]
    exact ⟨rfl, rfl⟩
theorem Can.fsts_jl (a b : List Can.T) (h : a.map Can.jl = b.map Can.jl) : Can.fsts a = Can.fsts b := by
  obtain ⟨h1, h2⟩ := Can.err_jl a b h
  unfold Can.fsts Can.keysOf
  rw [h1, h2]
theorem RowTs.openP {B : Nat} {v : Value} {ts : List Can.T} {w : World} (h : RowTs B v ts w) (hA : ∀ t ∈ ts, Lab.At t.p t.ls w) : ∃ p c, v = .slice p ts.length c ∧ Can.TPos p ts w := by
  rcases h.2 with ⟨rfl, h0⟩ | ⟨g, cap, cur, rfl, _⟩
  · have h1 : ts = [] := List.length_eq_zero_iff.1 h0
    subst h1
    exact ⟨none, 0, rfl, .inl rfl⟩
  · obtain ⟨q1, q2⟩ := RowTs.at h hA
    exact ⟨_, cap, rfl, .inr ⟨g, 0, rfl, q1, q2⟩⟩
theorem OwnTs.base {B : Nat} {v : Value} {ts : List Can.T} {w : World} (h : OwnTs B v ts w) : ∃ p c, v = .slice p ts.length c ∧ Can.TAtP p ts w ∧ (ts = [] → p = none → c = 0) ∧ (ts = [] → p = none ∨ ∃ g, p = some ⟨g, 0, none⟩ ∧ g < w.heap.size) := by
  rcases h.open with ⟨rfl, hx⟩ | ⟨g, c, rfl, _, h2, _, _, h4⟩
  · subst hx
    exact ⟨none, 0, rfl, .inl rfl, fun _ _ => rfl, fun _ => .inl rfl⟩
  · exact ⟨_, c, rfl, .inr ⟨g, rfl, h2, h4⟩, fun _ h => by simp at h, fun _ => .inr ⟨g, rfl, h2⟩⟩

set_option maxHeartbeats 6400000 in
set_option maxRecDepth 100000 in
theorem lists_true (p : Option Addr) (ts : List Can.T) (n c : Nat) (w : World) (hn : ts.length = n) (hT : Can.TPos p ts w) (hF : ∀ t ∈ ts, Can.TAny t) :
    Calls Tryz.prog 7 #[.slice p n c] w fun e w' => e = .returned (.bool true) ∧ Below w.heap.size w w' := by
  by_cases h30 : 30 < n
  · have q1 : (30 : Int) < (n : Int) := by omega
    clear hT hF
    go_enter Tryz.func7, Tryz.ntmps7
    go_wp2_with fail
    go_ret
    exact ⟨rfl, Below.refl _ _⟩
  have q1 : ¬ (30 : Int) < (n : Int) := by omega
  have HN := Lib.hid hn
  have HF := Lib.hid hF
  have HT := Lib.hid hT
  clear hn hF hT
  go_enter Tryz.func7, Tryz.ntmps7
  go_wp2_with fail
  go_loopw [19] (fun i wr => ∃ k : Nat, k ≤ n ∧ i = .int .i64 k ∧ Hid (∀ t ∈ ts.take k, Can.OkT t) ∧ Below w.heap.size w wr) (fun i _ => n - (intOf i).toNat)
  case atStart => exact ⟨0, Nat.zero_le _, rfl, fun t ht => absurd ht (by simp), Below.refl _ _⟩
  case round =>
    obtain ⟨k, hk, rfl, HO, hb⟩ := hrel
    have hsz := hb.size
    by_cases hlt : k < n
    · have hkt : k < ts.length := by rw [HN.out]; exact hlt
      rcases HT.out with hT | ⟨b, o, rfl, hb0, hT⟩
      · rw [hT] at hkt; simp at hkt
      have HT1 := Lib.hid (hT.belowT hb (Nat.le_refl _))
      have a0 := (HT1.out k hkt).1
      have a1 := (HT1.out k hkt).2.1
      have a2 := (HT1.out k hkt).2.2
      obtain ⟨f0, f1, f2, f3, f4⟩ := HF.out ts[k] (List.getElem_mem _)
      have hstep : Can.OkT ts[k] → Hid (∀ t ∈ ts.take (k + 1), Can.OkT t) := fun h t ht => by
        rw [List.take_add_one, List.getElem?_eq_getElem hkt, List.mem_append] at ht
        rcases ht with ht | ht
        · exact HO.out t ht
        · have : t = ts[k] := by simpa using ht
          rw [this]; exact h
      have HS := Lib.hid hstep
      obtain ⟨t, ht⟩ : ∃ t, ts[k] = t := ⟨_, rfl⟩
      rw [ht] at a0 a1 a2 f0 f1 f2 f3 f4 HS
      obtain ⟨tj, tp, tn, tc, tl⟩ := t
      dsimp only at a0 a1 a2 f0 f1 f2 f3 f4
      obtain ⟨sb, hsb⟩ : ∃ sb, Can.short tl = sb := ⟨_, rfl⟩
      have HSH := Lib.hid (fun w hA => short_is tp tl tn tc sb hsb w f1 hA f2 f4)
      have HSB := Lib.hid hsb
      have hbr : b < wr.heap.size := by omega
      have hbI : Below w.heap.size w (wr.alloc (.cells #[.string tj, .slice tp tn tc] 37)) := hb.alloc hsz _
      have hKX : Hid (∀ w', Below (wr.alloc (.cells #[.string tj, .slice tp tn tc] 37)).heap.size (wr.alloc (.cells #[.string tj, .slice tp tn tc] 37)) w' → w'.cell? ⟨wr.heap.size, 0, none⟩ = some (.string tj) ∧ w'.cell? ⟨wr.heap.size, 1, none⟩ = some (.slice tp tn tc)) := fun w' hw => by
        have h1 := below_kept hw (alloc_new wr (.cells #[.string tj, .slice tp tn tc] 37)) (by simp)
        exact ⟨by rw [Lib.cell_of_heap h1]; rfl, by rw [Lib.cell_of_heap h1]; rfl⟩
      have hjz : tj.size ≤ 9223372036854775807 := f0
      have htn : tn ≤ 9223372036854775807 := f4
      clear hstep ht hsb hkt f1 f2 f3 f4 f0 hT HO
      cases sb
      · go_wp2_with (go_at_call 26; refine (HSH.out _ (a2.alloc _)).mono ?_)
        first | rintro e w1 rfl hb1 | rintro e w1 ⟨rfl, hb1⟩
        go_wp2_with fail
        go_ret
        exact ⟨rfl, hbI.trans (hb1.mono (by simp; omega))⟩
      · by_cases h1 : 30 < tn
        · have d1 : decide ((30 : Int) < (tn : Int)) = true := decide_eq_true (by omega)
          go_wp2_with (go_at_call 26; refine (HSH.out _ (a2.alloc _)).mono ?_)
          first | rintro e w1 rfl hb1 | rintro e w1 ⟨rfl, hb1⟩
          obtain ⟨x0, x1⟩ := hKX.out _ hb1
          go_wp2_with fail
          go_ret
          exact ⟨rfl, hbI.trans (hb1.mono (by simp; omega))⟩
        · have d1 : decide ((30 : Int) < (tn : Int)) = false := decide_eq_false (by omega)
          by_cases h2 : 300 < tj.size
          · have d2 : decide ((300 : Int) < (tj.size : Int)) = true := decide_eq_true (by omega)
            go_wp2_with (go_at_call 26; refine (HSH.out _ (a2.alloc _)).mono ?_)
            first | rintro e w1 rfl hb1 | rintro e w1 ⟨rfl, hb1⟩
            obtain ⟨x0, x1⟩ := hKX.out _ hb1
            go_wp2_with fail
            go_ret
            exact ⟨rfl, hbI.trans (hb1.mono (by simp; omega))⟩
          · have d2 : decide ((300 : Int) < (tj.size : Int)) = false := decide_eq_false (by omega)
            have HO2 := HS.out ⟨HSB.out, Nat.le_of_not_lt h1, Nat.le_of_not_lt h2⟩
            go_wp2_with (go_at_call 26; refine (HSH.out _ (a2.alloc _)).mono ?_)
            first | rintro e w1 rfl hb1 | rintro e w1 ⟨rfl, hb1⟩
            obtain ⟨x0, x1⟩ := hKX.out _ hb1
            go_wp2_with fail
            go_roundw
            case rel => exact ⟨k + 1, by omega, by go_num, HO2, hbI.trans (hb1.mono (by simp; omega))⟩
            case measure => simp [intOf]; omega
    · have hkn : k = n := by omega
      subst hkn
      have hok : ∀ t ∈ ts, Can.OkT t := by
        have := HO.out
        rw [List.take_of_length_le (by have := HN.out; omega)] at this
        exact this
      have hfit : ∀ t ∈ ts, Can.TFit t := fun t ht => Can.okT_fit t (hok t ht) (HF.out t ht)
      have HC := Lib.hid (fun w hT => copytargets_is p ts k c w HN.out hT HF.out (fun t ht => by have := (hok t ht).2.1; omega) (by omega))
      have HRS := Lib.hid (fun w hT => rsort_any p ts c w hT hfit (by rw [HN.out]; omega))
      have HRF := Lib.hid (fun w hT => rfirst_any p ts c w hT hfit (by rw [HN.out]; omega))
      have HFI := Lib.hid hfit
      have hTr := HT.out.below hb (Nat.le_refl _)
      have hNN := HN.out
      rw [hNN] at HRS HRF
      clear hok hfit HO hNN
      go_wp2_with (go_at_call 27; refine (HC.out _ hTr).mono ?_)
      first | rintro e w1 v r rfl hv hjl hb1 | rintro e w1 ⟨⟨v, r, rfl, hv, hjl⟩, hb1⟩
      have hB1 := below_next hb hb1
      have hT1 := HT.out.below hB1 (Nat.le_refl _)
      obtain ⟨p1, c1, rfl, hA1, hz1, hz2⟩ := hv.base
      have hrl : r.length = k := by
        have := congrArg List.length hjl
        rw [List.length_map, List.length_map, HN.out] at this
        exact this
      have hfr : ∀ t ∈ r, Can.TFit t := fun t ht => by
        have h1 : Can.jl t ∈ ts.map Can.jl := by rw [← hjl]; exact List.mem_map.2 ⟨t, ht, rfl⟩
        obtain ⟨u, hu, e⟩ := List.mem_map.1 h1
        obtain ⟨g1, g2, g3, g4⟩ := HFI.out u hu
        have g5 := (hv.2 t ht).1
        unfold Can.jl at e
        simp only [Prod.mk.injEq] at e
        rw [e.1] at g4
        rw [e.2] at g1 g3
        exact ⟨g5, by omega, g3, g4⟩
      have SA := Lib.hid (fun w hT hq => sort_any p1 r c1 w hT hz1 hfr (by omega) hq)
      have FA := Lib.hid (fun w hT hq => first_any p1 r c1 w hT hz1 hfr (by omega) hq)
      have hee := (Can.err_jl r ts hjl).1
      have hff := Can.fsts_jl r ts hjl
      have hfl := Can.fsts_length ts
      rw [HN.out] at hfl
      obtain ⟨E, hE⟩ : ∃ E, Can.err ts = E := ⟨_, rfl⟩
      obtain ⟨fs, hfs⟩ : ∃ fs, Can.fsts ts = fs := ⟨_, rfl⟩
      rw [hE] at hee HRF
      rw [hfs] at hff hfl HRF
      rw [hee, hff] at FA
      rw [hrl] at SA FA ⊢
      have HRL := Lib.hid hrl
      have HJL := Lib.hid hjl
      have HFR := Lib.hid hfr
      have HQ : Hid (∀ w', Below w1.heap.size w1 w' → Can.TAtP p1 r w' ∧ (r = [] → p1 = none ∨ ∃ g, p1 = some ⟨g, 0, none⟩ ∧ g < w'.heap.size) ∧ Can.TPos p ts w') := fun w' hw => by
        refine ⟨hA1.below hw (Nat.le_refl _), fun h => ?_, hT1.below hw (Nat.le_refl _)⟩
        rcases hz2 h with h1 | ⟨g, h1, h2⟩
        · exact .inl h1
        · exact .inr ⟨g, h1, Nat.lt_of_lt_of_le h2 hw.size⟩
      have qE : ((E : Int) != E) = false := by simp
      clear hfr hv hjl hrl hfs hff hA1 hz1 hz2 hT1 hTr HC HT
      obtain ⟨y1, y2, y3⟩ := HQ.out _ (Below.refl _ w1)
      go_wp2_with (go_at_call 10; refine (SA.out _ y1 y2).mono ?_)
      first | rintro e w2 v8 r8 er8 rfl hv8 hs8 hl8 hb2 | rintro e w2 ⟨⟨v8, r8, er8, rfl, hv8, hs8, hl8⟩, hb2⟩
      obtain rfl : er8 = E := by rw [← hs8.1, hee]
      have hC2 : Below w1.heap.size w1 w2 := hb2
      obtain ⟨_, _, z3⟩ := HQ.out _ hC2
      go_wp2_with (go_at_call 28; refine (HRS.out _ z3).mono ?_)
      first | rintro e w3 v9 r9 er9 rfl hv9 hm9 hs9 hb3 | rintro e w3 ⟨⟨v9, r9, er9, rfl, hv9, hm9, hs9⟩, hb3⟩
      obtain rfl : er9 = er8 := by rw [← hs9.1, hE]
      have hC3 := chainT hC2 hb3
      obtain ⟨x1, x2, x3⟩ := HQ.out _ hC3
      go_wp2_with (go_at_call 23; refine (FA.out _ x1 x2).mono ?_)
      first | rintro e w4 v10 rfl hv10 hb4 | rintro e w4 ⟨⟨v10, rfl, hv10⟩, hb4⟩
      have hC4 := chainT hC3 hb4
      obtain ⟨_, _, s3⟩ := HQ.out _ hC4
      go_wp2_with (go_at_call 29; refine (HRF.out _ s3).mono ?_)
      first | rintro e w5 v11 rfl hv11 hb5 | rintro e w5 ⟨⟨v11, rfl, hv11⟩, hb5⟩
      have hC5 := chainT hC4 hb5
      obtain ⟨t1, _, t3⟩ := HQ.out _ hC5
      have hj89 := Can.srt_same hs8 hs9 HJL.out
      have hv8' : OwnTs w1.heap.size v8 r8 w5 := hv8.below (chainT (chainT (chainT (Below.refl _ w2) hb3) hb4) hb5) (Nat.le_refl _)
      have hv10' := row_below hv10 hb5 (Nat.le_refl _)
      obtain ⟨p8, c8, e8, hP8, _, _⟩ := hv8'.base
      have hAt9 : ∀ t ∈ r9, Lab.At t.p t.ls w5 := fun t ht => by
        obtain ⟨i, hi, e⟩ := List.getElem_of_mem (hm9 t ht)
        rcases t3 with h | ⟨b, o, _, _, h⟩
        · rw [h] at hi; simp at hi
        · have := (h i hi).2.2
          rw [e] at this
          exact this
      have hv9' : RowTs w2.heap.size v9 r9 w5 := row_below hv9 (chainT hb4 hb5) (Nat.le_refl _)
      obtain ⟨p9, c9, e9, hP9⟩ := hv9'.openP hAt9
      have hl89 : r9.length = r8.length := by
        have := congrArg List.length hj89
        rw [List.length_map, List.length_map] at this
        exact this.symm
      have hle8 : r8.length ≤ 30 := by have := HRL.out; omega
      have h8n : ∀ t ∈ r8, t.ls.length = t.n ∧ t.ls.length ≤ 1000 := fun t ht => by
        refine ⟨(hv8.2 t ht).1, ?_⟩
        by_cases h0 : er9 = 0
        · have := (Lab.right_fit _ ((hs8.2.1 h0).1 t ht).2.2).2
          omega
        · rw [hs8.2.2 h0] at ht
          simp at ht
      have TS1 := Lib.hid (sametargets_gen p8 p9 r8 r9 r8.length c8 c9 w5 rfl hl89 hP8.pos hP9 hj89 h8n (fun t ht => (HFI.out t (hm9 t ht)).1) (by omega))
      have SI := Lib.hid (fun w h1 h2 => sameints_true w3.heap.size w4.heap.size v10 v11 fs w h1 h2 (by omega))
      have SP := Lib.hid (fun w h hB => spoil_is w1.heap.size v8 r8 w h hB (by omega))
      have TS2 := Lib.hid (fun w hA hB => sametargets_gen p1 p r ts k c1 c w HRL.out HN.out hA hB HJL.out (fun t ht => by obtain ⟨z1, z2, _⟩ := HFR.out t ht; exact ⟨z1, by omega⟩) (fun t ht => (HFI.out t ht).1) (by omega))
      rw [← e8] at TS1
      rw [hl89] at e9
      rw [← e9] at TS1
      have E8 := Lib.hid e8
      have hB5 : Below w.heap.size w w5 := hB1.trans (hC5.mono hB1.size)
      clear hs8 hs9 hl8 hv8 hv9 hv9' hv10 hm9 hj89 h8n hP8 hP9 hAt9 hl89 e9 t1 t3 hee hfl hE HRS HRF SA FA y1 y2 y3 z3 x1 x2 x3 s3 e8
      go_wp2_with (go_at_call 11; refine TS1.out.mono ?_)
      first | rintro e w6 rfl hb6 | rintro e w6 ⟨rfl, hb6⟩
      have hv10b := row_below hv10' hb6 (Nat.le_refl _)
      have hv11b := row_below hv11 hb6 (Nat.le_refl _)
      go_wp2_with (go_at_call 30; refine (SI.out _ hv10b hv11b).mono ?_)
      try rintro e w7 ⟨rfl, q7, rfl⟩
      have hv8b : OwnTs w1.heap.size v8 r8 (w6.drewN q7) := hv8'.below (below_drewN hb6 _) (Nat.le_refl _)
      have hC7 : Below w1.heap.size w1 (w6.drewN q7) := below_drewN (chainT hC5 hb6) _
      have hB7 : Below w.heap.size w (w6.drewN q7) := below_drewN (below_next hB5 hb6) _
      obtain ⟨W7, hW7⟩ : ∃ W, w6.drewN q7 = W := ⟨_, rfl⟩
      rw [hW7] at hv8b hC7 hB7 ⊢
      clear hW7
      go_wp2_with (go_at_call 31; refine (SP.out _ hv8b hC7.size).mono ?_)
      first | rintro e w8 rfl hb8 | rintro e w8 ⟨rfl, hb8⟩
      have hC8 : Below w1.heap.size w1 w8 := hC7.trans hb8
      have hB8 : Below w.heap.size w w8 := hB7.trans (hb8.mono hB1.size)
      obtain ⟨u1, _, u3⟩ := HQ.out _ hC8
      go_wp2_with (go_at_call 11; refine (TS2.out _ u1.pos u3).mono ?_)
      first | rintro e w9 rfl hb9 | rintro e w9 ⟨rfl, hb9⟩
      go_wp2_with fail
      go_ret
      exact ⟨rfl, below_next hB8 hb9⟩

set_option maxRecDepth 100000 in
theorem walk_CanonLists (p : Option Addr) (ts : List Can.T) (n c : Nat) (m : Int) (w : World) (hn : ts.length = n) (hT : Can.TPos p ts w) (hF : ∀ t ∈ ts, Can.TAny t) (_hp : p = none → c = 0) (_hl : n ≤ maxLen) (hm : w.cell? ⟨0, 0, none⟩ = some (.int .i64 m)) :
    Calls Tryz.prog 3 #[.slice p n c] w fun e w' => e = .returned (.bool true) ∧ Below w.heap.size w w' := by
  have HT := Lib.hid (lists_true p ts n c w hn hT hF)
  have HA := Lib.hid (fun w hm => awake_true m w hm)
  clear hn hF hT
  go_enter Tryz.func3, Tryz.ntmps3
  go_wp2_with (go_at_call 7; refine HT.out.mono ?_)
  first | rintro e w1 rfl hb1 | rintro e w1 ⟨rfl, hb1⟩
  have hm1 := cell_later hb1 hm (Nat.le_refl _)
  go_wp2_with (go_at_call 8; refine (HA.out _ hm1).mono ?_)
  first | rintro e w2 rfl hb2 | rintro e w2 ⟨rfl, hb2⟩
  go_wp2_with fail
  go_ret
  exact ⟨rfl, below_next hb1 hb2⟩
end Go.Proofs.YthnaninhbofeoaaGreatDoor
