/- Contract of the reference's Merge. Contract of the reference's Export. -/
import Derived.Test.YtbilaghljlobpaaGreatL5S
namespace Go.Proofs.YtbilaghljlobpaaGreat
open Go.RowKit

theorem Lab.merge_right (a b : List Lab.L) (ha : Lab.right a = true) (hb : Lab.right b = true) : Lab.merge a b = Lab.cut64 (Lab.tabL b a) := by
  unfold Lab.merge Lab.set
  rw [ha, hb]
  rw [if_pos (show (true && true) = true from rfl), if_pos rfl, if_pos (Lab.oneAll_of a fun x hx => (Lab.right_parts a ha).2 x hx)]
theorem Lab.merge_no (a b : List Lab.L) (h : Lab.right a = false ∨ Lab.right b = false) : Lab.merge a b = ([], 44) := by
  unfold Lab.merge
  rw [if_neg]
  rcases h with h | h <;> simp [h]

set_option maxHeartbeats 6400000 in
set_option maxRecDepth 100000 in
theorem rmerge_contract (p p2 : Option Addr) (ls es : List Lab.L) (n c n2 c2 : Nat) (r : List Lab.L) (er : Int) (h : Lab.merge ls es = (r, er)) (w : World) (hn : ls.length = n) (hn2 : es.length = n2) (hA : Lab.At p ls w) (hB : Lab.At p2 es w) (hF : Lab.Fit maxLen ls) (hF2 : Lab.Fit maxLen es) (hp : p = none → c = 0) (hl : n ≤ 5000) (hl2 : n2 ≤ 5000) :
    Calls Tryz.prog 40 #[.slice p n c, .slice p2 n2 c2] w fun e w' => (∃ v, e = .returned (.tuple #[v, .int .i64 er]) ∧ OwnLabels w.heap.size v r w') ∧ Below w.heap.size w w' := by
  obtain ⟨b, hb⟩ : ∃ b, Lab.right ls = b := ⟨_, rfl⟩
  obtain ⟨b', hb'⟩ : ∃ b, Lab.right es = b := ⟨_, rfl⟩
  have HRT := Lib.hid (rright_is p ls n c b hb w hn hA hF (by unfold maxLen; omega))
  have HRT2 := Lib.hid (fun w' hB => rright_is p2 es n2 c2 b' hb' w' hn2 hB hF2 (by unfold maxLen; omega))
  have HB := Lib.hid hB
  cases b
  · rw [Lab.merge_no ls es (.inl hb)] at h
    simp only [Prod.mk.injEq] at h
    obtain ⟨rfl, rfl⟩ := h
    clear hb hn hn2 hA hB hF hF2 hp hb' HRT2
    go_enter Tryz.func40, Tryz.ntmps40
    go_wp2_with (go_at_call 79; refine HRT.out.mono ?_)
    first | rintro e w1 rfl hb1 | rintro e w1 ⟨rfl, hb1⟩
    go_wp2_with fail
    go_ret2
    exact ⟨⟨_, rfl, OwnLabels.nil _ _⟩, hb1⟩
  cases b'
  · rw [Lab.merge_no ls es (.inr hb')] at h
    simp only [Prod.mk.injEq] at h
    obtain ⟨rfl, rfl⟩ := h
    clear hb hn hn2 hA hB hF hF2 hp hb'
    go_enter Tryz.func40, Tryz.ntmps40
    go_wp2_with (go_at_call 79; refine HRT.out.mono ?_)
    first | rintro e w1 rfl hb1 | rintro e w1 ⟨rfl, hb1⟩
    go_wp2_with (go_at_call 79; refine (HRT2.out _ (HB.out.below hb1 (Nat.le_refl _))).mono ?_)
    first | rintro e w2 rfl hb2 | rintro e w2 ⟨rfl, hb2⟩
    go_wp2_with fail
    go_ret2
    exact ⟨⟨_, rfl, OwnLabels.nil _ _⟩, below_next hb1 hb2⟩
  have hst := Lab.rmerge_is ls es hb hb'
  rw [Lab.merge_right ls es hb hb'] at h
  have HSET := Lib.hid h
  have HN2 := Lib.hid hn2
  have HN := Lib.hid hn
  have HA := Lib.hid hA
  have HFT := Lib.hid hF2
  have HFL := Lib.hid hF
  have HRD := Lib.hid (Lab.rest_drop ls es)
  obtain ⟨goal, hgoal⟩ : ∃ g, Lab.tabL es ls = g := ⟨_, rfl⟩
  rw [hgoal] at hst
  have HST := Lib.hid hst
  have HGO := Lib.hid hgoal
  have HFI := Lib.hid (fun name i h w hA => rfind_is p ls n c name i h w HN.out hA (by omega))
  clear h hb hb' hn hn2 hA hB hF hF2 hst hgoal
  go_enter Tryz.func40, Tryz.ntmps40
  go_wp2_with (go_at_call 79; refine HRT.out.mono ?_)
  first | rintro e w0 rfl hb0 | rintro e w0 ⟨rfl, hb0⟩
  go_wp2_with (go_at_call 79; refine (HRT2.out _ (HB.out.below hb0 (Nat.le_refl _))).mono ?_)
  first | rintro e w1 rfl hb1' | rintro e w1 ⟨rfl, hb1'⟩
  have hb1 := below_next hb0 hb1'
  clear hb0 hb1' HRT2
  have hown0 := OwnLabels.made w1 w.heap.size hb1.size
  have HA1 := Lib.hid ((HA.out.below hb1 (Nat.le_refl _)).alloc (.cells #[] 31))
  clear HRT
  go_wp2_with (at_builtin; refine wpList_catG rfl _ _ 24 24 Tryz.underlying24 Tryz.underlying24 rfl w.heap.size _ _ _ [] rfl hown0 ls _ _ _ rfl HN.out hp HA1.out (by simp only [List.length_nil]; omega) (by have := hb1.size; simp; omega) ?_)
  intro v2 w2 hown2 hg2
  have hb2 : Below w.heap.size w w2 := (hb1.alloc hb1.size _).grown hg2 (by have := hb1.size; simp; omega) (fun j hj => (World.ownsRow.lt hown0 j hj).1)
  obtain ⟨q0, d0, hv0, _⟩ := OwnLabels.open hown2
  have hgo0 : ∃ d, v2 = .slice q0 n d ∧ Lab.Going w.heap.size (n + 0) goal (Lab.rest ls (es.drop 0)) q0 n d ls w2 := by
    have e : ls.length = n := HN.out
    try simp only [List.nil_append] at hv0 hown2
    rw [e] at hv0
    exact ⟨d0, hv0, ⟨e, by rw [← hv0]; exact hown2, HST.out, HFL.out, by omega⟩⟩
  obtain ⟨d0', rfl, hgo⟩ := hgo0
  have HG0 := Lib.hid hgo
  clear hown0 hg2 hown2 hv0 hgo HA1 hb1
  go_wp2_with fail
  go_loopw [7, 6] (fun i v wr => ∃ (k : Nat) (q : Option Addr) (out : List Lab.L) (m d : Nat), k ≤ n2 ∧ i = .int .i64 (k : Int) ∧ v = .slice q m d ∧ Hid (Lab.Going w.heap.size (n + k) goal (Lab.rest ls (es.drop k)) q m d out wr) ∧ Below w.heap.size w wr) (fun i _ _ => n2 - (intOf i).toNat)
  case atStart => exact ⟨0, q0, ls, n, d0', Nat.zero_le _, rfl, rfl, HG0, hb2⟩
  case round =>
    clear HG0 hb2
    obtain ⟨k, q, out, m, d, hk, rfl, rfl, HG, hb⟩ := hrel
    have hgl := HG.out.l
    by_cases hlt : k < n2
    · have hkl : k < es.length := by rw [HN2.out]; exact hlt
      have hBw := HB.out.below hb (Nat.le_refl _)
      obtain ⟨b, o, rfl, hc⟩ := hBw.open k hkl
      have c0 := (hc k hkl).1
      have c1 := (hc k hkl).2
      have hrp := HG.out.r
      rw [HRD.out k hkl] at hrp
      have hfx := HFT.out es[k] (List.getElem_mem _)
      obtain ⟨x, hx⟩ : ∃ x, es[k] = x := ⟨_, rfl⟩
      rw [hx] at c0 c1 hfx hrp
      have hfo := Lab.found ls x.n
      obtain ⟨i, hi⟩ : ∃ i, Lab.find x.n 0 ls = i := ⟨_, rfl⟩
      rw [hi] at hfo
      have HF1 := Lib.hid (HFI.out x.n i hi wr (HA.out.below hb (Nat.le_refl _)))
      have n1 : (0 : Int) ≤ (k : Int) := by omega
      have n3 : (k : Int) < (n2 : Int) := by omega
      rcases hfo with ⟨rfl, _, h3⟩ | ⟨j, hj, rfl, _, he, _⟩
      · rw [if_neg h3] at hrp
        obtain ⟨r2, hr2⟩ : ∃ r2, Lab.rput1 out x = r2 := ⟨_, rfl⟩
        have hrp2 : Lab.rputs r2 (Lab.rest ls (es.drop (k + 1))) = goal := by rw [← hr2]; exact hrp
        have hlen2 : r2.length ≤ m + 1 := by
          rw [← hr2, ← HG.out.n]
          exact Lab.rput1_len out x
        have hfr2 : ∀ y ∈ r2, y.n.size ≤ maxLen ∧ y.v.size ≤ maxLen := fun y hy => by
          rw [← hr2] at hy
          rcases Lab.rput1_mem hy with h1 | rfl
          · exact HG.out.f y h1
          · exact hfx
        have HP := Lib.hid (fun w hA => rput_is q out m d x r2 hr2 w HG.out.n hA HG.out.f hfx.1 (by omega))
        have HRP := Lib.hid hrp2
        have HF2 := Lib.hid hfr2
        have HAT := Lib.hid HG.out.o.at
        clear hc hx hfx hr2 hrp hrp2 hfr2 h3 hi hBw
        go_wp2_with (go_at_call 59; refine HF1.out.mono ?_)
        try rintro _ _ ⟨rfl, rfl⟩
        go_wp2_with (go_at_call 60; refine (HP.out _ HAT.out).mono ?_)
        first | rintro e w3 v3 rfl hv3 hb3 | rintro e w3 ⟨⟨v3, rfl, hv3⟩, hb3⟩
        have hb4 := below_next hb hb3
        have hv4 := row_lift hv3 hb.size
        obtain ⟨q4, d4, hve, _⟩ := OwnLabels.open hv3
        have HGN : Hid (v3 = .slice q4 r2.length d4 ∧ Lab.Going w.heap.size (n + (k + 1)) goal (Lab.rest ls (es.drop (k + 1))) q4 r2.length d4 r2 w3) := ⟨hve, ⟨rfl, by rw [← hve]; exact hv4, HRP.out, HF2.out, by omega⟩⟩
        clear hv3 hv4 hb3 hve c0 c1
        go_wp2_with fail
        go_roundw
        case rel => exact ⟨k + 1, q4, r2, r2.length, d4, by omega, by go_num, HGN.out.1, HGN.out.2, hb4⟩
        case measure => simp [intOf]; omega
      · have hmem : Lab.bs x.n ∈ Lab.names ls := List.mem_map.2 ⟨_, List.getElem_mem hj, he⟩
        rw [if_pos hmem] at hrp
        have HGN : Hid (Lab.Going w.heap.size (n + (k + 1)) goal (Lab.rest ls (es.drop (k + 1))) q m d out wr) := ⟨HG.out.n, HG.out.o, hrp, HG.out.f, by omega⟩
        have n4 : (0 : Int) ≤ (j : Int) := by omega
        have n5 : decide ((j : Int) < 0) = false := decide_eq_false (by omega)
        clear hc hx hfx hrp hmem he hi hBw
        go_wp2_with (go_at_call 59; refine HF1.out.mono ?_)
        try rintro _ _ ⟨rfl, rfl⟩
        go_wp2_with fail
        go_roundw
        case rel => exact ⟨k + 1, q, out, m, d, by omega, by go_num, rfl, HGN, hb⟩
        case measure => simp [intOf]; omega
    · obtain rfl : k = n2 := by omega
      have n3 : (k : Int) ≤ (k : Int) := by omega
      have hgr := HG.out.r
      rw [List.drop_eq_nil_iff.2 (by rw [HN2.out]; omega)] at hgr
      have hout : out = goal := hgr
      have hof := HSET.out
      unfold Lab.cut64 at hof
      rw [HGO.out, ← hout, HG.out.n] at hof
      have HB9 := Lib.hid (fun w => rbound_is q m d w (by omega))
      by_cases h64 : 64 < m
      · rw [if_pos h64] at hof HB9
        simp only [Prod.mk.injEq] at hof
        obtain ⟨rfl, rfl⟩ := hof
        clear hgr hout
        go_wp2_with (go_at_call 61; refine (HB9.out _).mono ?_)
        try rintro _ _ ⟨rfl, rfl⟩
        go_wp2_with fail
        go_ret2
        exact ⟨⟨_, rfl, OwnLabels.nil _ _⟩, hb⟩
      · rw [if_neg h64] at hof HB9
        simp only [Prod.mk.injEq] at hof
        obtain ⟨rfl, rfl⟩ := hof
        clear hgr hout
        go_wp2_with (go_at_call 61; refine (HB9.out _).mono ?_)
        try rintro _ _ ⟨rfl, rfl⟩
        go_wp2_with fail
        go_ret2
        exact ⟨⟨_, rfl, HG.out.o⟩, hb⟩
end Go.Proofs.YtbilaghljlobpaaGreat
namespace Go.Proofs.YtbilaghljlobpaaGreat
open Go.RowKit

theorem Lab.expoM_drop (t s : List Lab.L) (k : Nat) (h : k < s.length) : (s.drop k).filterMap (Lab.expo1 t s) = (Lab.expo1 t s s[k]).toList ++ (s.drop (k + 1)).filterMap (Lab.expo1 t s) := by
  rw [List.drop_eq_getElem_cons h, List.filterMap_cons]
  cases Lab.expo1 t s s[k] <;> rfl
theorem Lab.export_right (t s : List Lab.L) (ha : Lab.right t = true) (hb : Lab.right s = true) : Lab.export t s = Lab.cut64 (Lab.rputs t (s.filterMap (Lab.expo1 t s))) := by
  unfold Lab.export
  rw [ha, hb, if_pos (show (true && true) = true from rfl), ← Lab.rexport_is t s ha hb]
  rfl
theorem Lab.export_no (a b : List Lab.L) (h : Lab.right a = false ∨ Lab.right b = false) : Lab.export a b = ([], 44) := by
  unfold Lab.export
  rw [if_neg]
  rcases h with h | h <;> simp [h]

set_option maxHeartbeats 6400000 in
set_option maxRecDepth 100000 in
theorem rexport_contract (p p2 : Option Addr) (ls es : List Lab.L) (n c n2 c2 : Nat) (r : List Lab.L) (er : Int) (h : Lab.export ls es = (r, er)) (w : World) (hn : ls.length = n) (hn2 : es.length = n2) (hA : Lab.At p ls w) (hB : Lab.At p2 es w) (hF : Lab.Fit maxLen ls) (hF2 : Lab.Fit maxLen es) (hp : p = none → c = 0) (hl : n ≤ 5000) (hl2 : n2 ≤ 5000) :
    Calls Tryz.prog 41 #[.slice p n c, .slice p2 n2 c2] w fun e w' => (∃ v, e = .returned (.tuple #[v, .int .i64 er]) ∧ OwnLabels w.heap.size v r w') ∧ Below w.heap.size w w' := by
  obtain ⟨b, hb⟩ : ∃ b, Lab.right ls = b := ⟨_, rfl⟩
  obtain ⟨b', hb'⟩ : ∃ b, Lab.right es = b := ⟨_, rfl⟩
  have HRT := Lib.hid (rright_is p ls n c b hb w hn hA hF (by unfold maxLen; omega))
  have HRT2 := Lib.hid (fun w' hB => rright_is p2 es n2 c2 b' hb' w' hn2 hB hF2 (by unfold maxLen; omega))
  have HB := Lib.hid hB
  cases b
  · rw [Lab.export_no ls es (.inl hb)] at h
    simp only [Prod.mk.injEq] at h
    obtain ⟨rfl, rfl⟩ := h
    clear hb hn hn2 hA hB hF hF2 hp hb' HRT2
    go_enter Tryz.func41, Tryz.ntmps41
    go_wp2_with (go_at_call 79; refine HRT.out.mono ?_)
    first | rintro e w1 rfl hb1 | rintro e w1 ⟨rfl, hb1⟩
    go_wp2_with fail
    go_ret2
    exact ⟨⟨_, rfl, OwnLabels.nil _ _⟩, hb1⟩
  cases b'
  · rw [Lab.export_no ls es (.inr hb')] at h
    simp only [Prod.mk.injEq] at h
    obtain ⟨rfl, rfl⟩ := h
    clear hb hn hn2 hA hB hF hF2 hp hb'
    go_enter Tryz.func41, Tryz.ntmps41
    go_wp2_with (go_at_call 79; refine HRT.out.mono ?_)
    first | rintro e w1 rfl hb1 | rintro e w1 ⟨rfl, hb1⟩
    go_wp2_with (go_at_call 79; refine (HRT2.out _ (HB.out.below hb1 (Nat.le_refl _))).mono ?_)
    first | rintro e w2 rfl hb2 | rintro e w2 ⟨rfl, hb2⟩
    go_wp2_with fail
    go_ret2
    exact ⟨⟨_, rfl, OwnLabels.nil _ _⟩, below_next hb1 hb2⟩
  rw [Lab.export_right ls es hb hb'] at h
  have HSET := Lib.hid h
  have HN2 := Lib.hid hn2
  have HN := Lib.hid hn
  have HA := Lib.hid hA
  have HFT := Lib.hid hF2
  have HFL := Lib.hid hF
  have HRD := Lib.hid (Lab.expoM_drop ls es)
  have HX := Lib.hid (fun x hx => Lab.exp_right ls es x hb hb' hx)
  have HFS := Lib.hid (show Lab.Fit 1000000 es from fun x hx => Lab.size_le x ((Lab.right_parts es hb').2 x hx))
  obtain ⟨goal, hgoal⟩ : ∃ g, Lab.rputs ls (es.filterMap (Lab.expo1 ls es)) = g := ⟨_, rfl⟩
  have HST := Lib.hid hgoal
  have HGO := Lib.hid hgoal
  have HFI := Lib.hid (fun name i h w hA => rfind_is p ls n c name i h w HN.out hA (by omega))
  have HFJ := Lib.hid (fun name i h w hA => rfind_is p2 es n2 c2 name i h w HN2.out hA (by omega))
  clear h hb hb' hn hn2 hA hB hF hF2 hgoal
  go_enter Tryz.func41, Tryz.ntmps41
  go_wp2_with (go_at_call 79; refine HRT.out.mono ?_)
  first | rintro e w0 rfl hb0 | rintro e w0 ⟨rfl, hb0⟩
  go_wp2_with (go_at_call 79; refine (HRT2.out _ (HB.out.below hb0 (Nat.le_refl _))).mono ?_)
  first | rintro e w1 rfl hb1' | rintro e w1 ⟨rfl, hb1'⟩
  have hb1 := below_next hb0 hb1'
  clear hb0 hb1' HRT2
  have hown0 := OwnLabels.made w1 w.heap.size hb1.size
  have HA1 := Lib.hid ((HA.out.below hb1 (Nat.le_refl _)).alloc (.cells #[] 31))
  clear HRT
  go_wp2_with (at_builtin; refine wpList_catG rfl _ _ 24 24 Tryz.underlying24 Tryz.underlying24 rfl w.heap.size _ _ _ [] rfl hown0 ls _ _ _ rfl HN.out hp HA1.out (by simp only [List.length_nil]; omega) (by have := hb1.size; simp; omega) ?_)
  intro v2 w2 hown2 hg2
  have hb2 : Below w.heap.size w w2 := (hb1.alloc hb1.size _).grown hg2 (by have := hb1.size; simp; omega) (fun j hj => (World.ownsRow.lt hown0 j hj).1)
  obtain ⟨q0, d0, hv0, _⟩ := OwnLabels.open hown2
  have hgo0 : ∃ d, v2 = .slice q0 n d ∧ Lab.Going w.heap.size (n + 0) goal ((es.drop 0).filterMap (Lab.expo1 ls es)) q0 n d ls w2 := by
    have e : ls.length = n := HN.out
    try simp only [List.nil_append] at hv0 hown2
    rw [e] at hv0
    exact ⟨d0, hv0, ⟨e, by rw [← hv0]; exact hown2, HST.out, HFL.out, by omega⟩⟩
  obtain ⟨d0', rfl, hgo⟩ := hgo0
  have HG0 := Lib.hid hgo
  clear hown0 hg2 hown2 hv0 hgo HA1 hb1
  go_wp2_with fail
  go_loopw [7, 6] (fun i v wr => ∃ (k : Nat) (q : Option Addr) (out : List Lab.L) (m d : Nat), k ≤ n2 ∧ i = .int .i64 (k : Int) ∧ v = .slice q m d ∧ Hid (Lab.Going w.heap.size (n + k) goal ((es.drop k).filterMap (Lab.expo1 ls es)) q m d out wr) ∧ Below w.heap.size w wr) (fun i _ _ => n2 - (intOf i).toNat)
  case atStart => exact ⟨0, q0, ls, n, d0', Nat.zero_le _, rfl, rfl, HG0, hb2⟩
  case round =>
    clear HG0 hb2
    obtain ⟨k, q, out, m, d, hk, rfl, rfl, HG, hb⟩ := hrel
    have hgl := HG.out.l
    by_cases hlt : k < n2
    · have hkl : k < es.length := by rw [HN2.out]; exact hlt
      have hBw := HB.out.below hb (Nat.le_refl _)
      obtain ⟨b, o, rfl, hc⟩ := hBw.open k hkl
      have c0 := (hc k hkl).1
      have c1 := (hc k hkl).2
      have hrp := HG.out.r
      rw [HRD.out k hkl] at hrp
      have hfx := HFT.out es[k] (List.getElem_mem _)
      have hxr := HX.out es[k] (List.getElem_mem _)
      have hxz := (HFS.out es[k] (List.getElem_mem _)).1
      obtain ⟨x, hx⟩ : ∃ x, es[k] = x := ⟨_, rfl⟩
      rw [hx] at c0 c1 hfx hrp hxr hxz
      have hbx : b < wr.heap.size := World.block_lt_of_cell? _ _ c0
      have hfo := Lab.found ls x.n
      obtain ⟨i, hi⟩ : ∃ i, Lab.find x.n 0 ls = i := ⟨_, rfl⟩
      rw [hi] at hfo
      have hbe : Below wr.heap.size wr (wr.alloc (.cells #[.string x.n, .string x.v] 31)) := (Below.refl _ _).alloc (Nat.le_refl _) _
      have hb2 := hb.alloc hb.size (.cells #[.string x.n, .string x.v] 31)
      have hk2 := alloc_new wr (.cells #[.string x.n, .string x.v] 31)
      have HAW := Lib.hid (HA.out.below hb2 (Nat.le_refl _))
      have HBW := Lib.hid (HB.out.below hb2 (Nat.le_refl _))
      have HF1 := Lib.hid (HFI.out x.n i hi _ HAW.out)
      have HOA := Lib.hid (HG.out.o.below hbe (Nat.le_refl _))
      have n1 : (0 : Int) ≤ (k : Int) := by omega
      have n3 : (k : Int) < (n2 : Int) := by omega
      rcases hfo with ⟨rfl, -, h3⟩ | ⟨j, hj, rfl, -, he, -⟩
      · rw [if_pos h3] at hxr
        rw [hxr] at hrp
        obtain ⟨r2, hr2⟩ : ∃ r2, Lab.rput1 out x = r2 := ⟨_, rfl⟩
        have hrp2 : Lab.rputs r2 ((es.drop (k + 1)).filterMap (Lab.expo1 ls es)) = goal := by rw [← hr2]; exact hrp
        have hlen2 : r2.length ≤ m + 1 := by
          rw [← hr2, ← HG.out.n]
          exact Lab.rput1_len out x
        have hfr2 : ∀ y ∈ r2, y.n.size ≤ maxLen ∧ y.v.size ≤ maxLen := fun y hy => by
          rw [← hr2] at hy
          rcases Lab.rput1_mem hy with h1 | rfl
          · exact HG.out.f y h1
          · exact hfx
        have HP := Lib.hid (fun w hA => rput_is q out m d x r2 hr2 w HG.out.n hA HG.out.f (hfx).1 (by omega))
        have HRP := Lib.hid hrp2
        have HFR := Lib.hid hfr2
        have HLEN := Lib.hid hlen2
        clear hlen2
        clear hc hx hfx hr2 hrp hrp2 hfr2 hi hbe hxr h3
        go_wp2_with (go_at_call 59; (with_reducible refine HF1.out.mono ?_))
        try rintro _ _ ⟨rfl, rfl⟩
        go_wp2_with (go_at_call 60; refine (HP.out _ HOA.out.at).mono ?_)
        first | rintro e w3 v3 rfl hv3 hb3 | rintro e w3 ⟨⟨v3, rfl, hv3⟩, hb3⟩
        have hb4 := below_next hb2 hb3
        have hv4 := row_lift hv3 hb2.size
        obtain ⟨q4, d4, hve, _⟩ := OwnLabels.open hv3
        have HGN : Hid (v3 = .slice q4 r2.length d4 ∧ Lab.Going w.heap.size (n + (k + 1)) goal ((es.drop (k + 1)).filterMap (Lab.expo1 ls es)) q4 r2.length d4 r2 w3) := ⟨hve, ⟨rfl, by rw [← hve]; exact hv4, HRP.out, HFR.out, by have := HLEN.out; omega⟩⟩
        clear hv3 hv4 hb3 hve c0 c1 hk2
        go_wp2_with fail
        go_roundw
        case rel => exact ⟨k + 1, q4, r2, r2.length, d4, by omega, by go_num, HGN.out.1, HGN.out.2, hb4⟩
        case measure => simp [intOf]; omega
      · have hmem : Lab.bs x.n ∈ Lab.names ls := List.mem_map.2 ⟨_, List.getElem_mem hj, he⟩
        rw [if_neg (fun h => h hmem)] at hxr
        obtain ⟨nm, hnm⟩ : ∃ nm, Lab.expName x.n = nm := ⟨_, rfl⟩
        have hnz : nm.size ≤ x.n.size + 9 ∧ x.n.size + 9 ≤ nm.size := by rw [← hnm]; unfold Lab.expName; rw [ByteArray.size_append]; show 9 + _ ≤ _ ∧ _ ≤ 9 + _; omega
        obtain ⟨hnz1, hnz2⟩ := hnz
        have hnm2 : (⟨#[101, 120, 112, 111, 114, 116, 101, 100, 95]⟩ : ByteArray) ++ x.n = nm := hnm
        have HNM := Lib.hid hnm2
        have n4 : (0 : Int) ≤ (j : Int) := by omega
        have n5 : decide ((j : Int) < 0) = false := decide_eq_false (by omega)
        rw [hnm] at hxr
        clear hnm hnm2 hmem he
        by_cases hsz : x.n.size ≤ 119
        · have n6 : (nm.size : Int) ≤ 128 := by omega
          have n6' : decide ((nm.size : Int) ≤ 128) = true := decide_eq_true n6
          have hfo2 := Lab.found ls nm
          obtain ⟨i2, hi2⟩ : ∃ i, Lab.find nm 0 ls = i := ⟨_, rfl⟩
          rw [hi2] at hfo2
          have HF2 := Lib.hid (HFI.out nm i2 hi2 _ HAW.out)
          rcases hfo2 with ⟨rfl, -, h4⟩ | ⟨j2, hj2, rfl, -, he2, -⟩
          · have hfo3 := Lab.found es nm
            obtain ⟨i3, hi3⟩ : ∃ i, Lab.find nm 0 es = i := ⟨_, rfl⟩
            rw [hi3] at hfo3
            have HF3 := Lib.hid (HFJ.out nm i3 hi3 _ HBW.out)
            rcases hfo3 with ⟨rfl, -, h5⟩ | ⟨j3, hj3, rfl, -, he3, -⟩
            · rw [if_pos ⟨hsz, h4, h5⟩] at hxr
              rw [hxr] at hrp
              obtain ⟨r2, hr2⟩ : ∃ r2, Lab.rput1 out (⟨nm, x.v⟩ : Lab.L) = r2 := ⟨_, rfl⟩
              have hrp2 : Lab.rputs r2 ((es.drop (k + 1)).filterMap (Lab.expo1 ls es)) = goal := by rw [← hr2]; exact hrp
              have hlen2 : r2.length ≤ m + 1 := by
                rw [← hr2, ← HG.out.n]
                exact Lab.rput1_len out (⟨nm, x.v⟩ : Lab.L)
              have hfr2 : ∀ y ∈ r2, y.n.size ≤ maxLen ∧ y.v.size ≤ maxLen := fun y hy => by
                rw [← hr2] at hy
                rcases Lab.rput1_mem hy with h1 | rfl
                · exact HG.out.f y h1
                · exact (show nm.size ≤ maxLen ∧ x.v.size ≤ maxLen from ⟨by unfold maxLen; omega, hfx.2⟩)
              have HP := Lib.hid (fun w hA => rput_is q out m d (⟨nm, x.v⟩ : Lab.L) r2 hr2 w HG.out.n hA HG.out.f ((show nm.size ≤ maxLen ∧ x.v.size ≤ maxLen from ⟨by unfold maxLen; omega, hfx.2⟩)).1 (by omega))
              have HRP := Lib.hid hrp2
              have HFR := Lib.hid hfr2
              have HLEN := Lib.hid hlen2
              clear hlen2
              clear hc hx hfx hr2 hrp hrp2 hfr2 hi hbe hxr hi2 hi3 h4 h5
              go_wp2_with (go_at_call 59; (with_reducible refine HF1.out.mono ?_))
              try rintro _ _ ⟨rfl, rfl⟩
              go_upto_region 11 with fail
              rw [HNM.out]
              go_wp2_with (go_at_call 59; (with_reducible refine HF2.out.mono ?_))
              try rintro _ _ ⟨rfl, rfl⟩
              go_wp2_with (go_at_call 59; (with_reducible refine HF3.out.mono ?_))
              try rintro _ _ ⟨rfl, rfl⟩
              go_wp2_with (go_at_call 60; refine (HP.out _ HOA.out.at).mono ?_)
              first | rintro e w3 v3 rfl hv3 hb3 | rintro e w3 ⟨⟨v3, rfl, hv3⟩, hb3⟩
              have hb4 := below_next hb2 hb3
              have hv4 := row_lift hv3 hb2.size
              obtain ⟨q4, d4, hve, _⟩ := OwnLabels.open hv3
              have HGN : Hid (v3 = .slice q4 r2.length d4 ∧ Lab.Going w.heap.size (n + (k + 1)) goal ((es.drop (k + 1)).filterMap (Lab.expo1 ls es)) q4 r2.length d4 r2 w3) := ⟨hve, ⟨rfl, by rw [← hve]; exact hv4, HRP.out, HFR.out, by have := HLEN.out; omega⟩⟩
              clear hv3 hv4 hb3 hve c0 c1 hk2
              go_wp2_with fail
              go_roundw
              case rel => exact ⟨k + 1, q4, r2, r2.length, d4, by omega, by go_num, HGN.out.1, HGN.out.2, hb4⟩
              case measure => simp [intOf]; omega
            · have hm3 : Lab.bs nm ∈ Lab.names es := List.mem_map.2 ⟨_, List.getElem_mem hj3, he3⟩
              rw [if_neg (fun h => h.2.2 hm3)] at hxr
              rw [hxr] at hrp
              have m4 : (0 : Int) ≤ (j3 : Int) := by omega
              have m5 : decide ((j3 : Int) < 0) = false := decide_eq_false (by omega)
              have HGN : Hid (Lab.Going w.heap.size (n + (k + 1)) goal ((es.drop (k + 1)).filterMap (Lab.expo1 ls es)) q m d out (wr.alloc (.cells #[.string x.n, .string x.v] 31))) := ⟨HG.out.n, HOA.out, hrp, HG.out.f, by omega⟩
              clear hc hx hfx hrp hi hbe hxr hi2 hi3 h4 he3 hm3
              go_wp2_with (go_at_call 59; (with_reducible refine HF1.out.mono ?_))
              try rintro _ _ ⟨rfl, rfl⟩
              go_upto_region 11 with fail
              rw [HNM.out]
              go_wp2_with (go_at_call 59; (with_reducible refine HF2.out.mono ?_))
              try rintro _ _ ⟨rfl, rfl⟩
              go_wp2_with (go_at_call 59; (with_reducible refine HF3.out.mono ?_))
              try rintro _ _ ⟨rfl, rfl⟩
              go_wp2_with fail
              go_roundw
              case rel => exact ⟨k + 1, q, out, m, d, by omega, by go_num, rfl, HGN, hb2⟩
              case measure => simp [intOf]; omega
          · have hm2 : Lab.bs nm ∈ Lab.names ls := List.mem_map.2 ⟨_, List.getElem_mem hj2, he2⟩
            rw [if_neg (fun h => h.2.1 hm2)] at hxr
            rw [hxr] at hrp
            have m4 : (0 : Int) ≤ (j2 : Int) := by omega
            have m5 : decide ((j2 : Int) < 0) = false := decide_eq_false (by omega)
            have HGN : Hid (Lab.Going w.heap.size (n + (k + 1)) goal ((es.drop (k + 1)).filterMap (Lab.expo1 ls es)) q m d out (wr.alloc (.cells #[.string x.n, .string x.v] 31))) := ⟨HG.out.n, HOA.out, hrp, HG.out.f, by omega⟩
            clear hc hx hfx hrp hi hbe hxr hi2 he2 hm2
            go_wp2_with (go_at_call 59; (with_reducible refine HF1.out.mono ?_))
            try rintro _ _ ⟨rfl, rfl⟩
            go_upto_region 11 with fail
            rw [HNM.out]
            go_wp2_with (go_at_call 59; (with_reducible refine HF2.out.mono ?_))
            try rintro _ _ ⟨rfl, rfl⟩
            go_wp2_with fail
            go_roundw
            case rel => exact ⟨k + 1, q, out, m, d, by omega, by go_num, rfl, HGN, hb2⟩
            case measure => simp [intOf]; omega
        · rw [if_neg (fun h => hsz h.1)] at hxr
          rw [hxr] at hrp
          have n6 : (128 : Int) < (nm.size : Int) := by omega
          have n6' : decide ((nm.size : Int) ≤ 128) = false := decide_eq_false (by omega)
          have HGN : Hid (Lab.Going w.heap.size (n + (k + 1)) goal ((es.drop (k + 1)).filterMap (Lab.expo1 ls es)) q m d out (wr.alloc (.cells #[.string x.n, .string x.v] 31))) := ⟨HG.out.n, HOA.out, hrp, HG.out.f, by omega⟩
          clear hc hx hfx hrp hi hbe hxr 
          go_wp2_with (go_at_call 59; (with_reducible refine HF1.out.mono ?_))
          try rintro _ _ ⟨rfl, rfl⟩
          go_upto_region 11 with fail
          rw [HNM.out]
          go_wp2_with fail
          go_roundw
          case rel => exact ⟨k + 1, q, out, m, d, by omega, by go_num, rfl, HGN, hb2⟩
          case measure => simp [intOf]; omega
    · obtain rfl : k = n2 := by omega
      have n3 : (k : Int) ≤ (k : Int) := by omega
      have hgr := HG.out.r
      rw [List.drop_eq_nil_iff.2 (by rw [HN2.out]; omega)] at hgr
      have hout : out = goal := hgr
      have hof := HSET.out
      unfold Lab.cut64 at hof
      rw [HGO.out, ← hout, HG.out.n] at hof
      have HB9 := Lib.hid (fun w => rbound_is q m d w (by omega))
      by_cases h64 : 64 < m
      · rw [if_pos h64] at hof HB9
        simp only [Prod.mk.injEq] at hof
        obtain ⟨rfl, rfl⟩ := hof
        clear hgr hout
        go_wp2_with (go_at_call 61; refine (HB9.out _).mono ?_)
        try rintro _ _ ⟨rfl, rfl⟩
        go_wp2_with fail
        go_ret2
        exact ⟨⟨_, rfl, OwnLabels.nil _ _⟩, hb⟩
      · rw [if_neg h64] at hof HB9
        simp only [Prod.mk.injEq] at hof
        obtain ⟨rfl, rfl⟩ := hof
        clear hgr hout
        go_wp2_with (go_at_call 61; refine (HB9.out _).mono ?_)
        try rintro _ _ ⟨rfl, rfl⟩
        go_wp2_with fail
        go_ret2
        exact ⟨⟨_, rfl, HG.out.o⟩, hb⟩
end Go.Proofs.YtbilaghljlobpaaGreat
