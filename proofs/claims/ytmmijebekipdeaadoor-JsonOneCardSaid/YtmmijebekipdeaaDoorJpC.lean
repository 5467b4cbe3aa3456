/- Plain laws of chapter 14, three: the text of a right value is read as this value. -/
import Derived.Test.YtmmijebekipdeaaDoorJpB
namespace Go.Proofs.YtmmijebekipdeaaDoor
set_option linter.unusedVariables false
set_option linter.unusedSimpArgs false

theorem Js.val_head (s : ByteArray) (d k b a : Nat) (ha : Js.sp s k = a) (hb : Js.begins (Js.nx s a) = true) (h4 : b ≠ 4096) : Js.val s d k b =
    (if Js.nx s a = 91 ∨ Js.nx s a = 123 then
      match d with
      | 0 => .error (a, 140)
      | d + 1 => Js.ls s (Js.nx s a == 123) (Js.val s d) (a + 1) (b + 1)
    else if Js.nx s a = 34 then
      match Js.tx s a with
      | .error e => .error e
      | .ok (t, j) => .ok (.mk 5 ⟨t.toArray⟩ [] [], j, b + 1)
    else if Js.nx s a = 110 then (Js.wd s [110, 117, 108, 108] a).map fun j => (.mk 1 ⟨#[]⟩ [] [], j, b + 1)
    else if Js.nx s a = 102 then (Js.wd s [102, 97, 108, 115, 101] a).map fun j => (.mk 2 ⟨#[]⟩ [] [], j, b + 1)
    else if Js.nx s a = 116 then (Js.wd s [116, 114, 117, 101] a).map fun j => (.mk 3 ⟨#[]⟩ [] [], j, b + 1)
    else if (Js.num s a).2 then .ok (.mk 4 (s.extract a (Js.num s a).1) [] [], (Js.num s a).1, b + 1) else .error (Js.wrong s (Js.num s a).1)) := by
  subst ha
  rw [Js.val.eq_def]
  dsimp only
  rw [if_neg (by rw [hb]; decide), if_neg h4]
  rfl
theorem Js.empty_of (t : ByteArray) (h : t.size = 0) : t = ⟨#[]⟩ := by
  apply ByteArray.ext
  exact Array.eq_empty_of_size_eq_zero h
theorem Js.extract_tl {s t : ByteArray} {k : Nat} {r : List UInt8} (h : Js.Tl s k (t.data.toList ++ r)) (hk : k ≤ s.size) : s.extract k (k + t.size) = t := by
  apply ByteArray.ext
  apply Array.toList_inj.1
  rw [ByteArray.data_extract]
  have h2 := congrArg (List.take t.size) (show s.data.toList.drop k = _ from h)
  rw [List.take_left' (by simp)] at h2
  rw [Array.toList_extract]
  show List.extract s.data.toList k (k + t.size) = _
  rw [List.extract_eq_take_drop, show k + t.size - k = t.size by omega]
  exact h2
theorem Js.wrSE_len (g : Nat → List UInt8) (obj : Bool) (ns : List ByteArray) : ∀ (xs : List Js.V) (j i : Nat), Js.fitL xs = true → xs.length ≤ (Js.wrSE g obj ns j i xs).length
  | [], _, _, _ => Nat.zero_le _
  | x :: r, j, i, h => by
    rw [Js.fitL, Bool.and_eq_true] at h
    obtain ⟨c, l, hc, _⟩ := Js.wrS_head g (i + Js.nmL obj ns j) x h.1
    have := Js.wrSE_len g obj ns r (j + 1) (i + Js.nmL obj ns j + (Js.wr x).length + 1) h.2
    rw [Js.wrSE, hc]
    cases r with
    | nil => simp; omega
    | cons y r' =>
      rw [if_neg (by simp)]
      simp only [List.length_append, List.length_cons] at this ⊢
      omega
theorem Js.depL_mem : ∀ (xs : List Js.V) (x : Js.V), x ∈ xs → Js.dep x ≤ Js.depL xs
  | y :: r, x, h => by
    rw [Js.depL]
    rcases List.mem_cons.1 h with rfl | h
    · omega
    · have := Js.depL_mem r x h; omega

theorem Js.lsF_arr2 (s : ByteArray) (val : Nat → Nat → Js.R (Js.V × Nat × Nat)) (n k b : Nat) (xs : List Js.V) (x : Js.V) (k2 b2 a : Nat) (hv : val k b = .ok (x, k2, b2)) (ha : Js.sp s k2 = a) :
    Js.lsF s false val (n + 1) k b [] xs = (if Js.nx s a = 93 then .ok (.mk 6 ⟨#[]⟩ [] (xs ++ [x]), a + 1, b2) else if Js.nx s a = 44 then Js.lsF s false val n (a + 1) b2 [] (xs ++ [x]) else .error (Js.wrong s a)) := by
  subst ha
  rw [Js.lsF]
  dsimp only [Js.ends]
  rw [if_neg (by decide)]
  dsimp only
  rw [hv]
  rfl
theorem Js.lsF_obj2 (s : ByteArray) (val : Nat → Nat → Js.R (Js.V × Nat × Nat)) (n k b : Nat) (ns : List ByteArray) (xs : List Js.V) (m c : Nat) (t : List UInt8) (x : Js.V) (k2 b2 a : Nat) (hm : Js.sp s k = m) (h34 : Js.nx s m = 34) (ht : Js.tx s m = .ok (t, c))
    (hnew : ns.contains ⟨t.toArray⟩ = false) (h58 : Js.nx s (Js.sp s c) = 58) (hv : val (Js.sp s c + 1) b = .ok (x, k2, b2)) (ha : Js.sp s k2 = a) :
    Js.lsF s true val (n + 1) k b ns xs = (if Js.nx s a = 125 then .ok (.mk 7 ⟨#[]⟩ (ns ++ [⟨t.toArray⟩]) (xs ++ [x]), a + 1, b2) else if Js.nx s a = 44 then Js.lsF s true val n (a + 1) b2 (ns ++ [⟨t.toArray⟩]) (xs ++ [x]) else .error (Js.wrong s a)) := by
  subst hm ha
  rw [Js.lsF]
  dsimp only [Js.ends]
  rw [if_pos rfl, if_neg (fun h => h h34), ht]
  dsimp only
  rw [if_neg (by rw [hnew]; decide), if_pos h58]
  dsimp only
  rw [hv]
  rfl
theorem Js.bytes_mk (t : ByteArray) : (⟨t.data.toList.toArray⟩ : ByteArray) = t := by
  apply ByteArray.ext
  simp

/-- a list's members are read as they were written -/
theorem Js.list_wr (s : ByteArray) (g : Nat → List UInt8) (hg : ∀ i, Js.Ws (g i)) (obj : Bool) (ns : List ByteArray) (xs : List Js.V) (d' : Nat) (cl : UInt8) (hcl : cl.toNat = Js.ends obj) (rest : List UInt8)
    (hob : obj = true → ns.length = xs.length ∧ Js.okNs [] ns = true)
    (HV : ∀ x ∈ xs, ∀ (k b i : Nat) (ws rest : List UInt8), Js.Ws ws → Js.Tl s k (ws ++ (Js.wrS g i x ++ rest)) → Js.Fo rest → b + Js.cnt x ≤ 4096 → Js.val s d' k b = .ok (x, k + ws.length + (Js.wrS g i x).length, b + Js.cnt x)) :
    ∀ (r : List Js.V) (j p i b n : Nat) (ws : List UInt8), xs.drop j = r → r ≠ [] → Js.Ws ws → Js.Tl s p (ws ++ (Js.wrSE g obj ns j i r ++ (cl :: rest))) → r.length ≤ n → b + Js.cntL r ≤ 4096 →
      Js.lsF s obj (Js.val s d') n p b (if obj then ns.take j else []) (xs.take j) = .ok (.mk (if obj then 7 else 6) ⟨#[]⟩ (if obj then ns else []) xs, p + ws.length + (Js.wrSE g obj ns j i r).length + 1, b + Js.cntL r)
  | [], _, _, _, _, _, _, _, h, _, _, _, _ => absurd rfl h
  | x :: r, j, p, i, b, n, ws, hdr, _, hws, hT, hn, hb => by
    obtain ⟨m, rfl⟩ : ∃ m, n = m + 1 := ⟨n - 1, by simp at hn; omega⟩
    have hj : j < xs.length := Nat.lt_of_not_le fun hh => by rw [List.drop_eq_nil_of_le hh] at hdr; cases hdr
    have hxj : xs[j] = x ∧ xs.drop (j + 1) = r := by
      rw [List.drop_eq_getElem_cons hj] at hdr
      exact List.cons.inj hdr
    have hxm : x ∈ xs := hxj.1 ▸ List.getElem_mem hj
    have htk : xs.take (j + 1) = xs.take j ++ [x] := by rw [List.take_succ_eq_append_getElem hj, hxj.1]
    rw [Js.cntL] at hb ⊢
    obtain ⟨i1, hi1⟩ : ∃ i1, i + Js.nmL obj ns j = i1 := ⟨_, rfl⟩
    rw [Js.wrSE, hi1] at hT ⊢
    obtain ⟨mo, hmo⟩ : ∃ mo, (if r.isEmpty = true then [] else 44 :: (g (i1 + (Js.wr x).length) ++ Js.wrSE g obj ns (j + 1) (i1 + (Js.wr x).length + 1) r)) = mo := ⟨_, rfl⟩
    rw [hmo] at hT ⊢
    obtain ⟨tr, htr⟩ : ∃ tr, Js.trail g i1 x = tr := ⟨_, rfl⟩
    have hwtr : Js.Ws tr := by
      rw [← htr]
      unfold Js.trail
      split
      · exact hg _
      · intro c hc; cases hc
    rw [htr] at hT ⊢
    have hclsp : Js.isSp cl.toNat = false := by rw [hcl]; cases obj <;> rfl
    -- what stands behind the value
    have hmh : ∃ c l, mo ++ cl :: rest = c :: l ∧ Js.isSp c.toNat = false ∧ (c = 44 ∨ c = 93 ∨ c = 125) := by
      rw [← hmo]
      cases r with
      | nil =>
        refine ⟨cl, rest, by simp, hclsp, ?_⟩
        cases obj
        · exact .inr (.inl (UInt8.toNat_inj.1 hcl))
        · exact .inr (.inr (UInt8.toNat_inj.1 hcl))
      | cons y r' => exact ⟨44, _, by rw [if_neg (by simp)]; rfl, rfl, .inl rfl⟩
    obtain ⟨c0, l0, hc0, hc0s, hc0k⟩ := hmh
    have hfo : Js.Fo (tr ++ (mo ++ cl :: rest)) := by
      refine Js.Fo.ws hwtr ?_
      rw [hc0]
      exact Js.Fo.of c0 l0 (by rcases hc0k with h | h | h; exact .inl h; exact .inr (.inl h); exact .inr (.inr (.inl h)))
    -- the rest, once the value has been read up to k2
    have fin : ∀ k2, Js.Tl s k2 (tr ++ (mo ++ cl :: rest)) → Js.sp s k2 = k2 + tr.length ∧ Js.nx s (k2 + tr.length) = c0.toNat ∧ Js.Tl s (k2 + tr.length) (mo ++ cl :: rest) := by
      intro k2 h2
      have h3 := h2
      rw [hc0] at h3
      have h4 := h2.skip
      refine ⟨h3.sp1 hwtr hc0s, ?_, h4⟩
      rw [hc0] at h4
      exact h4.nx
    have last : r = [] → mo = [] ∧ c0 = cl := by
      intro e
      subst e
      have : mo = [] := by rw [← hmo]; rfl
      rw [this] at hc0
      exact ⟨this, (List.cons.inj hc0).1.symm⟩
    have more : r ≠ [] → c0 = 44 ∧ mo = 44 :: (g (i1 + (Js.wr x).length) ++ Js.wrSE g obj ns (j + 1) (i1 + (Js.wr x).length + 1) r) := by
      intro e
      have : mo = 44 :: (g (i1 + (Js.wr x).length) ++ Js.wrSE g obj ns (j + 1) (i1 + (Js.wr x).length + 1) r) := by
        rw [← hmo, if_neg (by simpa using e)]
      refine ⟨?_, this⟩
      rw [this] at hc0
      exact (List.cons.inj hc0).1.symm
    cases obj with
    | false =>
      have hnm : Js.nmT g false ns j i = [] := rfl
      rw [hnm, List.nil_append] at hT ⊢
      rw [List.append_assoc, List.append_assoc] at hT
      have hv := HV x hxm p b i1 ws _ hws hT hfo (by omega)
      obtain ⟨k2, hk2⟩ : ∃ k2, p + ws.length + (Js.wrS g i1 x).length = k2 := ⟨_, rfl⟩
      have hT2 : Js.Tl s k2 (tr ++ (mo ++ cl :: rest)) := by rw [← hk2]; exact hT.skip.skip
      rw [hk2] at hv
      obtain ⟨f1, f2, f3⟩ := fin k2 hT2
      rw [if_neg (by decide), Js.lsF_arr2 s _ m p b _ x k2 _ _ hv f1, f2, ← htk]
      by_cases hr : r = []
      · obtain ⟨e1, e2⟩ := last hr
        subst hr
        rw [if_pos (by rw [e2]; exact hcl), e1]
        have hlen : xs.take (j + 1) = xs := by
          refine List.take_of_length_le ?_
          have := congrArg List.length hxj.2
          rw [List.length_drop] at this
          simp at this
          omega
        rw [hlen, Js.cntL]
        simp only [if_neg (show ¬ (false = true) by decide), List.length_append, List.length_nil]
        congr 2
        ext <;> simp <;> omega
      · obtain ⟨e1, e2⟩ := more hr
        rw [if_neg (by rw [e1]; decide), if_pos (by rw [e1]; decide)]
        have hT3 : Js.Tl s (k2 + tr.length + 1) (g (i1 + (Js.wr x).length) ++ (Js.wrSE g false ns (j + 1) (i1 + (Js.wr x).length + 1) r ++ cl :: rest)) := by
          rw [e2] at f3
          have h7 : Js.Tl s (k2 + tr.length + 1) ((g (i1 + (Js.wr x).length) ++ Js.wrSE g false ns (j + 1) (i1 + (Js.wr x).length + 1) r) ++ (cl :: rest)) := Js.Tl.next f3
          rw [List.append_assoc] at h7
          exact h7
        have ihr := Js.list_wr s g hg false ns xs d' cl hcl rest hob HV r (j + 1) (k2 + tr.length + 1) _ (b + Js.cnt x) m _ hxj.2 hr (hg _) hT3 (by simpa using hn) (by omega)
        rw [if_neg (by decide)] at ihr
        rw [ihr, e2]
        simp only [if_neg (show ¬ (false = true) by decide), List.length_append, List.length_cons]
        congr 2
        ext <;> simp <;> omega
    | true =>
      obtain ⟨hnl, hok⟩ := hob rfl
      have hjn : j < ns.length := by omega
      have hgd : ns.getD j ⟨#[]⟩ = ns[j] := by rw [List.getD_eq_getElem?_getD, List.getElem?_eq_getElem hjn]; rfl
      have hnew := Js.okNs_new ns [] j hjn hok
      rw [List.nil_append] at hnew
      have htn : ns.take (j + 1) = ns.take j ++ [ns[j]] := List.take_succ_eq_append_getElem hjn
      have hnm : Js.nmT g true ns j i = Js.quo ns[j].data.toList ++ (58 :: g (i + (Js.quo ns[j].data.toList).length)) := by unfold Js.nmT; rw [if_pos rfl, hgd]
      rw [hnm] at hT ⊢
      obtain ⟨nm, hnmj⟩ : ∃ nm, ns[j] = nm := ⟨_, rfl⟩
      rw [hnmj] at hT hnew htn ⊢
      obtain ⟨wg, hwg⟩ : ∃ wg, g (i + (Js.quo nm.data.toList).length) = wg := ⟨_, rfl⟩
      have hwgw : Js.Ws wg := hwg ▸ hg _
      rw [hwg] at hT ⊢
      obtain ⟨Q, hQ⟩ : ∃ Q, Js.quo nm.data.toList = Q := ⟨_, rfl⟩
      have hQh : ∃ q, Q = 34 :: q := ⟨_, hQ.symm⟩
      obtain ⟨q, hq⟩ := hQh
      have hT0 : Js.Tl s p (ws ++ (Q ++ (58 :: (wg ++ (Js.wrS g i1 x ++ (tr ++ (mo ++ cl :: rest))))))) := by
        rw [hQ] at hT
        simpa only [List.append_assoc, List.cons_append] using hT
      have hm : Js.sp s p = p + ws.length := by
        have h9 := hT0
        rw [hq] at h9
        exact Js.Tl.sp1 h9 hws rfl
      have hTm := hT0.skip
      obtain ⟨mm, hmm⟩ : ∃ mm, p + ws.length = mm := ⟨_, rfl⟩
      rw [hmm] at hm hTm
      have h34 : Js.nx s mm = 34 := by have h9 := hTm; rw [hq] at h9; exact Js.Tl.nx h9
      have htx : Js.tx s mm = .ok (nm.data.toList, mm + Q.length) := by rw [← hQ]; rw [← hQ] at hTm; exact Js.Tl.tx hTm
      have hTc := hTm.skip
      have hspc : Js.sp s (mm + Q.length) = mm + Q.length := Js.sp_stop s _ (by rw [hTc.nx]; rfl)
      have h58 : Js.nx s (Js.sp s (mm + Q.length)) = 58 := by rw [hspc]; exact hTc.nx
      have hv := HV x hxm (mm + Q.length + 1) b i1 wg _ hwgw hTc.next hfo (by omega)
      obtain ⟨k2, hk2⟩ : ∃ k2, mm + Q.length + 1 + wg.length + (Js.wrS g i1 x).length = k2 := ⟨_, rfl⟩
      have hT2 : Js.Tl s k2 (tr ++ (mo ++ cl :: rest)) := by rw [← hk2]; exact hTc.next.skip.skip
      rw [hk2] at hv
      obtain ⟨f1, f2, f3⟩ := fin k2 hT2
      rw [if_pos rfl, Js.lsF_obj2 s _ m p b _ _ mm (mm + Q.length) nm.data.toList x k2 _ _ hm h34 htx (by rw [Js.bytes_mk]; exact hnew) h58 (by rw [hspc]; exact hv) f1, f2, Js.bytes_mk, ← htk, ← htn]
      by_cases hr : r = []
      · obtain ⟨e1, e2⟩ := last hr
        subst hr
        rw [if_pos (by rw [e2]; exact hcl), e1]
        have hx0 : j + 1 = xs.length := by
          have := congrArg List.length hxj.2
          rw [List.length_drop] at this
          simp at this
          omega
        have hlen : xs.take (j + 1) = xs := List.take_of_length_le (by omega)
        have hlen2 : ns.take (j + 1) = ns := List.take_of_length_le (by omega)
        rw [hlen, hlen2, Js.cntL]
        simp only [if_pos rfl, hQ, List.length_append, List.length_nil, List.length_cons]
        congr 2
        ext <;> simp <;> omega
      · obtain ⟨e1, e2⟩ := more hr
        rw [if_neg (by rw [e1]; decide), if_pos (by rw [e1]; decide)]
        have hT3 : Js.Tl s (k2 + tr.length + 1) (g (i1 + (Js.wr x).length) ++ (Js.wrSE g true ns (j + 1) (i1 + (Js.wr x).length + 1) r ++ cl :: rest)) := by
          rw [e2] at f3
          have h7 : Js.Tl s (k2 + tr.length + 1) ((g (i1 + (Js.wr x).length) ++ Js.wrSE g true ns (j + 1) (i1 + (Js.wr x).length + 1) r) ++ (cl :: rest)) := Js.Tl.next f3
          rw [List.append_assoc] at h7
          exact h7
        have ihr := Js.list_wr s g hg true ns xs d' cl hcl rest hob HV r (j + 1) (k2 + tr.length + 1) _ (b + Js.cnt x) m _ hxj.2 hr (hg _) hT3 (by simpa using hn) (by omega)
        rw [if_pos rfl] at ihr
        rw [ihr, e2]
        simp only [if_pos rfl, hQ, List.length_append, List.length_cons]
        congr 2
        ext <;> simp <;> omega

set_option maxHeartbeats 1000000 in
theorem Js.val_wr (s : ByteArray) (g : Nat → List UInt8) (hg : ∀ i, Js.Ws (g i)) : ∀ (N : Nat) (v : Js.V), Js.cnt v ≤ N → Js.fit v = true → ∀ (d k b i : Nat) (ws rest : List UInt8), Js.dep v ≤ d → Js.Ws ws → Js.Tl s k (ws ++ (Js.wrS g i v ++ rest)) → Js.Fo rest → b + Js.cnt v ≤ 4096 →
    Js.val s d k b = .ok (v, k + ws.length + (Js.wrS g i v).length, b + Js.cnt v) := by
  intro N
  induction N with
  | zero => intro v hv; obtain ⟨k, t, ns, xs⟩ := v; unfold Js.cnt at hv; omega
  | succ N ih =>
    intro v hv hf d k b i ws rest hd hws h hfo hb
    obtain ⟨c, l, hl, hbg, q1, q2, q3, q4, q5, q6, q7, hk1, hk7⟩ := Js.wrS_head g i v hf
    have hsp : Js.sp s k = k + ws.length := by
      have h9 := h
      rw [hl] at h9
      exact Js.Tl.sp1 h9 hws (Js.begins_sp _ hbg)
    have hT : Js.Tl s (k + ws.length) (Js.wrS g i v ++ rest) := h.skip
    obtain ⟨a, ha⟩ : ∃ a, k + ws.length = a := ⟨_, rfl⟩
    rw [ha] at hsp hT
    rw [ha]
    have hn : Js.nx s a = c.toNat := by have h9 := hT; rw [hl] at h9; exact Js.Tl.nx h9
    have hla : a ≤ s.size := by have h9 := hT; rw [hl] at h9; exact Nat.le_of_lt (Js.Tl.lt h9)
    have hc1 : 1 ≤ Js.cnt v := by obtain ⟨_, _, _, _⟩ := v; rw [Js.cnt]; omega
    rw [Js.val_head s d k b a hsp (by rw [hn]; exact hbg) (by omega)]
    clear hsp h ha
    obtain ⟨kd, t, ns, xs⟩ := v
    rw [Js.fit] at hf
    rw [Js.cnt] at hv hb ⊢
    rw [Js.dep] at hd
    change kd = 1 → _ at q1
    change kd = 2 → _ at q2
    change kd = 3 → _ at q3
    change kd = 4 → _ at q4
    change kd = 5 → _ at q5
    change kd = 6 → _ at q6
    change kd = 7 → _ at q7
    change 1 ≤ kd at hk1
    change kd ≤ 7 at hk7
    rw [Js.wrS] at hT ⊢
    have leaf : kd ≤ 5 → t.size = 0 ∨ kd = 4 ∨ kd = 5 → ns = [] ∧ xs = [] := by
      intro h5 _
      have : (ns.length == 0 && xs.length == 0) = true := by
        by_cases h3 : kd = 1 ∨ kd = 2 ∨ kd = 3
        · rw [if_pos h3, Bool.and_eq_true, Bool.and_eq_true] at hf; rw [Bool.and_eq_true]; exact ⟨hf.1.2, hf.2⟩
        · by_cases h4 : kd = 4
          · rw [if_neg h3, if_pos h4, Bool.and_eq_true, Bool.and_eq_true] at hf; rw [Bool.and_eq_true]; exact ⟨hf.1.2, hf.2⟩
          · rw [if_neg h3, if_neg h4, if_pos (by omega), Bool.and_eq_true, Bool.and_eq_true] at hf; rw [Bool.and_eq_true]; exact ⟨hf.1.2, hf.2⟩
      rw [Bool.and_eq_true, beq_iff_eq, beq_iff_eq] at this
      exact ⟨List.length_eq_zero_iff.1 this.1, List.length_eq_zero_iff.1 this.2⟩
    have noText : kd = 1 ∨ kd = 2 ∨ kd = 3 → t = ⟨#[]⟩ := by
      intro h3
      rw [if_pos h3, Bool.and_eq_true, Bool.and_eq_true, beq_iff_eq] at hf
      exact Js.empty_of t hf.1.1
    by_cases h1 : kd = 1
    · have hc := q1 h1
      subst h1 hc
      obtain ⟨rfl, rfl⟩ := leaf (by omega) (.inl (by rw [noText (by omega)]; rfl))
      obtain rfl := noText (by omega)
      have h9 := Js.Tl.wd (l := [110, 117, 108, 108]) hT
      rw [hn, if_neg (by decide), if_neg (by decide), if_pos (by decide)]
      rw [show Js.wd s [110, 117, 108, 108] a = _ from h9]
      rfl
    by_cases h2 : kd = 2
    · have hc := q2 h2
      subst h2 hc
      obtain ⟨rfl, rfl⟩ := leaf (by omega) (.inl (by rw [noText (by omega)]; rfl))
      obtain rfl := noText (by omega)
      have h9 := Js.Tl.wd (l := [102, 97, 108, 115, 101]) hT
      rw [hn, if_neg (by decide), if_neg (by decide), if_neg (by decide), if_pos (by decide)]
      rw [show Js.wd s [102, 97, 108, 115, 101] a = _ from h9]
      rfl
    by_cases h3 : kd = 3
    · have hc := q3 h3
      subst h3 hc
      obtain ⟨rfl, rfl⟩ := leaf (by omega) (.inl (by rw [noText (by omega)]; rfl))
      obtain rfl := noText (by omega)
      have h9 := Js.Tl.wd (l := [116, 114, 117, 101]) hT
      rw [hn, if_neg (by decide), if_neg (by decide), if_neg (by decide), if_neg (by decide), if_pos (by decide)]
      rw [show Js.wd s [116, 114, 117, 101] a = _ from h9]
      rfl
    by_cases h4 : kd = 4
    · have hc := q4 h4
      obtain ⟨rfl, rfl⟩ := leaf (by omega) (.inr (.inl h4))
      rw [if_neg (by omega), if_pos h4, Bool.and_eq_true, Bool.and_eq_true] at hf
      have hnm := hf.1.1
      unfold Js.isNum at hnm
      rw [Bool.and_eq_true, Bool.and_eq_true, beq_iff_eq] at hnm
      rw [if_neg h1, if_neg h2, if_neg h3, if_pos h4] at hT ⊢
      have h9 := Js.Tl.num hT hfo
      rw [hnm.1.1, hnm.1.2] at h9
      have hcn : c.toNat = 45 ∨ Js.isDg c.toNat = true := by
        rcases hc with rfl | hc
        · exact .inl rfl
        · exact .inr hc
      have e : ∀ n, n ≠ 45 → Js.isDg n = false → c.toNat ≠ n := fun n h8 h7 e => by
        rcases hcn with hcn | hcn
        · omega
        · rw [e, h7] at hcn; cases hcn
      rw [hn, if_neg (fun e' => by rcases e' with e' | e'; exact e 91 (by decide) rfl e'; exact e 123 (by decide) rfl e'), if_neg (e 34 (by decide) rfl), if_neg (e 110 (by decide) rfl), if_neg (e 102 (by decide) rfl), if_neg (e 116 (by decide) rfl), h9, if_pos rfl]
      subst h4
      rw [Js.extract_tl hT hla]
      simp [Js.cntL]
    by_cases h5 : kd = 5
    · have hc := q5 h5
      obtain ⟨rfl, rfl⟩ := leaf (by omega) (.inr (.inr h5))
      rw [if_neg h1, if_neg h2, if_neg h3, if_neg h4, if_pos h5] at hT ⊢
      have h9 := Js.Tl.tx hT
      subst hc h5
      rw [hn, if_neg (by decide), if_pos (by decide), h9]
      simp [Js.cntL]
    rw [if_neg h1, if_neg h2, if_neg h3, if_neg h4, if_neg h5] at hT ⊢
    rw [if_neg (by omega), if_neg h4, if_neg h5] at hf
    have h67 : kd = 6 ∨ kd = 7 := by omega
    rw [if_pos h67] at hd
    obtain ⟨d', rfl⟩ : ∃ d', d = d' + 1 := ⟨d - 1, by omega⟩
    have list : ∀ (obj : Bool) (cl : UInt8), cl.toNat = Js.ends obj → kd = (if obj then 7 else 6) → t = ⟨#[]⟩ → Js.fitL xs = true → (obj = true → ns.length = xs.length ∧ Js.okNs [] ns = true) → (obj = false → ns = []) →
        Js.Tl s (a + 1) (g i ++ (Js.wrSE g obj ns 0 (i + 1) xs ++ (cl :: rest))) →
        Js.ls s obj (Js.val s d') (a + 1) (b + 1) = .ok (.mk kd t ns xs, a + 1 + (g i).length + (Js.wrSE g obj ns 0 (i + 1) xs).length + 1, b + (1 + Js.cntL xs)) := by
      intro obj cl hcl hkd ht hfl hob hns hT1
      subst hkd ht
      have hclsp : Js.isSp cl.toNat = false := by rw [hcl]; cases obj <;> rfl
      unfold Js.ls
      dsimp only
      cases xs with
      | nil =>
        have hn0 : ns = [] := by
          cases obj
          · exact hns rfl
          · exact List.length_eq_zero_iff.1 (hob rfl).1
        subst hn0
        rw [Js.wrSE, List.nil_append] at hT1
        have hsp := hT1.sp1 (hg i) hclsp
        have hnx := hT1.skip.nx
        rw [hsp, hnx, if_pos hcl, Js.wrSE, Js.cntL]
        rfl
      | cons x r =>
        -- the first byte behind the white space
        have hh : ∃ c l, Js.wrSE g obj ns 0 (i + 1) (x :: r) = c :: l ∧ Js.isSp c.toNat = false ∧ c.toNat ≠ Js.ends obj := by
          have hfx : Js.fit x = true := by rw [Js.fitL, Bool.and_eq_true] at hfl; exact hfl.1
          rw [Js.wrSE]
          cases obj with
          | true =>
            obtain ⟨q, hq⟩ : ∃ q, Js.nmT g true ns 0 (i + 1) = 34 :: q := by
              unfold Js.nmT Js.quo
              rw [if_pos rfl]
              exact ⟨_, rfl⟩
            rw [hq]
            exact ⟨34, _, rfl, rfl, by decide⟩
          | false =>
            obtain ⟨c, l, hc, hbc, _, _, _, p4, p5, _, _, _, _⟩ := Js.wrS_head g (i + 1 + Js.nmL false ns 0) x hfx
            have hq : Js.nmT g false ns 0 (i + 1) = [] := rfl
            rw [hq, hc]
            refine ⟨c, _, rfl, Js.begins_sp _ hbc, fun e => ?_⟩
            rw [e] at hbc
            cases hbc
        obtain ⟨c, l, hcl2, hcs, hce⟩ := hh
        have hsp : Js.sp s (a + 1) = a + 1 + (g i).length := by
          have h9 := hT1
          rw [hcl2] at h9
          exact Js.Tl.sp1 h9 (hg i) hcs
        have hT2 := hT1.skip
        have hnx : Js.nx s (a + 1 + (g i).length) = c.toNat := by
          have h9 := hT2
          rw [hcl2] at h9
          exact h9.nx
        rw [hsp, hnx, if_neg hce]
        have hfuel : (x :: r).length ≤ s.size + 1 - (a + 1 + (g i).length) := by
          have h9 := hT2.le
          have h8 := Js.wrSE_len g obj ns (x :: r) 0 (i + 1) hfl
          have h7 : a + 1 + (g i).length ≤ s.size := by
            have h6 := hT2
            rw [hcl2] at h6
            exact Nat.le_of_lt (Js.Tl.lt h6)
          have h6 := hT2.len h7
          rw [List.length_append] at h6
          omega
        have HL := Js.list_wr s g hg obj ns (x :: r) d' cl hcl rest hob (fun y hy k b i ws rest h1 h2 h3 h4 => by
          obtain ⟨n, hn, rfl⟩ := List.getElem_of_mem hy
          have e1 := Js.cntL_part (x :: r) n hn
          have e2 := Js.depL_mem (x :: r) _ hy
          exact ih _ (by omega) (Js.fitL_get (x :: r) n hn hfl) d' k b i ws rest (by omega) h1 h2 h3 h4) (x :: r) 0 (a + 1 + (g i).length) (i + 1) (b + 1) _ [] rfl (by simp) (fun c hc => by cases hc) hT2 hfuel (by omega)
        have e0 : (if obj = true then ns.take 0 else []) = ([] : List ByteArray) := by split <;> rfl
        rw [e0] at HL
        rw [show (x :: r).take 0 = ([] : List Js.V) from rfl] at HL
        rw [HL]
        have e1 : (if obj = true then ns else []) = ns := by
          cases obj
          · rw [hns rfl]; rfl
          · rfl
        rw [e1]
        simp only [List.length_nil]
        congr 2
        ext <;> simp <;> omega
    by_cases h7 : kd = 7
    · have hc := q7 h7
      rw [if_neg (by omega), if_pos h7, Bool.and_eq_true, Bool.and_eq_true, Bool.and_eq_true, beq_iff_eq, beq_iff_eq] at hf
      rw [if_pos h7] at hT ⊢
      have hT1 : Js.Tl s (a + 1) (g i ++ (Js.wrSE g true ns 0 (i + 1) xs ++ (125 :: rest))) := by
        have h9 : Js.Tl s (a + 1) ((g i ++ (Js.wrSE g true ns 0 (i + 1) xs ++ [125])) ++ rest) := Js.Tl.next hT
        simpa only [List.append_assoc, List.cons_append, List.nil_append] using h9
      have hL := list true 125 rfl h7 (Js.empty_of t hf.1.1.1) hf.2 (fun _ => ⟨hf.1.1.2, hf.1.2⟩) (fun e => by cases e) hT1
      subst hc
      rw [hn, if_pos (by decide)]
      show Js.ls s (_ == 123) _ _ _ = _
      rw [show ((123 : UInt8).toNat == 123) = true from rfl, hL]
      simp only [List.length_cons, List.length_append, List.length_nil]
      congr 2
      ext <;> simp <;> omega
    · have h6 : kd = 6 := by omega
      have hc := q6 h6
      rw [if_pos h6, Bool.and_eq_true, Bool.and_eq_true, beq_iff_eq, beq_iff_eq] at hf
      rw [if_neg h7] at hT ⊢
      have hT1 : Js.Tl s (a + 1) (g i ++ (Js.wrSE g false ns 0 (i + 1) xs ++ (93 :: rest))) := by
        have h9 : Js.Tl s (a + 1) ((g i ++ (Js.wrSE g false ns 0 (i + 1) xs ++ [93])) ++ rest) := Js.Tl.next hT
        simpa only [List.append_assoc, List.cons_append, List.nil_append] using h9
      have hL := list false 93 rfl h6 (Js.empty_of t hf.1.1) hf.2 (fun e => by cases e) (fun _ => List.length_eq_zero_iff.1 hf.1.2) hT1
      subst hc
      rw [hn, if_pos (by decide)]
      show Js.ls s (_ == 123) _ _ _ = _
      rw [show ((91 : UInt8).toNat == 123) = false from rfl, hL]
      simp only [List.length_cons, List.length_append, List.length_nil]
      congr 2
      ext <;> simp <;> omega
end Go.Proofs.YtmmijebekipdeaaDoor
