/- Plain laws of chapter 14, six: what is read of a text is a right value. -/
import Derived.Test.YtmmijebekipdeaaDoorJpE
import Derived.Test.YtmmijebekipdeaaDoorJsF
namespace Go.Proofs.YtmmijebekipdeaaDoor
set_option linter.unusedVariables false
set_option linter.unusedSimpArgs false

theorem Js.wrL_app (obj : Bool) (ns : List ByteArray) : ∀ (xs ys : List Js.V) (i : Nat), Js.wrL obj ns i (xs ++ ys) = Js.wrL obj ns i xs ++ Js.wrL obj ns (i + xs.length) ys
  | [], ys, i => by rw [Js.wrL]; rfl
  | x :: r, ys, i => by
    rw [List.cons_append, Js.wrL, Js.wrL, Js.wrL_app obj ns r ys (i + 1), List.length_cons, show i + 1 + r.length = i + (r.length + 1) by omega]
    simp only [List.append_assoc]
theorem Js.wrL_names (obj : Bool) (ns m : List ByteArray) : ∀ (xs : List Js.V) (i : Nat), (obj = true → i + xs.length ≤ ns.length) → Js.wrL obj (ns ++ m) i xs = Js.wrL obj ns i xs
  | [], i, _ => by rw [Js.wrL, Js.wrL]
  | x :: r, i, h => by
    rw [Js.wrL, Js.wrL, Js.wrL_names obj ns m r (i + 1) (fun e => by have := h e; rw [List.length_cons] at this; omega)]
    cases obj with
    | false => rfl
    | true =>
      have := h rfl
      rw [List.length_cons] at this
      rw [List.getD_eq_getElem?_getD, List.getD_eq_getElem?_getD, List.getElem?_append_left (by omega)]
theorem Js.fitL_app : ∀ (a b : List Js.V), Js.fitL (a ++ b) = (Js.fitL a && Js.fitL b)
  | [], b => by rw [Js.fitL]; rfl
  | x :: r, b => by rw [List.cons_append, Js.fitL, Js.fitL, Js.fitL_app r b, Bool.and_assoc]
theorem Js.szL_app : ∀ (a b : List Js.V), Js.szL a → Js.szL b → Js.szL (a ++ b)
  | [], b, _, h => h
  | x :: r, b, h1, h2 => by rw [Js.szL] at h1; rw [List.cons_append, Js.szL]; exact ⟨h1.1, Js.szL_app r b h1.2 h2⟩
theorem Js.okNs_app : ∀ (ns b : List ByteArray) (x : ByteArray), Js.okNs b ns = true → (Js.bad8 x).isNone = true → (b ++ ns).contains x = false → Js.okNs b (ns ++ [x]) = true
  | [], b, x, _, h1, h2 => by
    rw [List.append_nil] at h2
    rw [List.nil_append, Js.okNs, Js.okNs, h1, h2]
    rfl
  | y :: r, b, x, h0, h1, h2 => by
    rw [Js.okNs, Bool.and_eq_true] at h0
    rw [List.cons_append, Js.okNs, h0.1, Js.okNs_app r (b ++ [y]) x h0.2 h1 (by rw [List.append_assoc]; exact h2)]
    rfl

/-- what has been read of a value, from k on -/
structure Js.Rt (s : ByteArray) (d k b : Nat) (v : Js.V) (j b' : Nat) : Prop where
  fit : Js.fit v = true
  dep : Js.dep v ≤ d
  cnt : b' = b + Js.cnt v
  lim : b' ≤ 4096
  len : (Js.wr v).length + k ≤ j
  le : j ≤ s.size
  b8 : Js.B8 s j
  sz : Js.sz v
/-- what has been read of a list's members -/
structure Js.Ls (s : ByteArray) (obj : Bool) (d b1 : Nat) (ns : List ByteArray) (xs : List Js.V) (b : Nat) : Prop where
  fit : Js.fitL xs = true
  dep : Js.depL xs ≤ d
  cnt : b = b1 + Js.cntL xs
  lim : b ≤ 4096
  sz : Js.szL xs
  nms : obj = true → ns.length = xs.length ∧ Js.okNs [] ns = true
  no : obj = false → ns = []
  szn : ∀ x ∈ ns, x.size ≤ 1000000
theorem Js.lsF_arrE (s : ByteArray) (val : Nat → Nat → Js.R (Js.V × Nat × Nat)) (n k b : Nat) (xs : List Js.V) : Js.lsF s false val (n + 1) k b [] xs = (match val k b with
    | .error e => .error e
    | .ok (x, k2, b2) => if Js.nx s (Js.sp s k2) = 93 then .ok (.mk 6 ⟨#[]⟩ [] (xs ++ [x]), Js.sp s k2 + 1, b2) else if Js.nx s (Js.sp s k2) = 44 then Js.lsF s false val n (Js.sp s k2 + 1) b2 [] (xs ++ [x]) else .error (Js.wrong s (Js.sp s k2))) := by
  rw [Js.lsF]
  dsimp only [Js.ends]
  rw [if_neg (by decide)]
  rfl
theorem Js.lsF_objE (s : ByteArray) (val : Nat → Nat → Js.R (Js.V × Nat × Nat)) (n k b : Nat) (ns : List ByteArray) (xs : List Js.V) (v : Js.V) (j b' : Nat) (h : Js.lsF s true val (n + 1) k b ns xs = .ok (v, j, b')) :
    ∃ t c x k2 b2, Js.nx s (Js.sp s k) = 34 ∧ Js.tx s (Js.sp s k) = .ok (t, c) ∧ ns.contains ⟨t.toArray⟩ = false ∧ Js.nx s (Js.sp s c) = 58 ∧ val (Js.sp s c + 1) b = .ok (x, k2, b2) ∧
      ((Js.nx s (Js.sp s k2) = 125 ∧ v = .mk 7 ⟨#[]⟩ (ns ++ [⟨t.toArray⟩]) (xs ++ [x]) ∧ j = Js.sp s k2 + 1 ∧ b' = b2) ∨ (Js.nx s (Js.sp s k2) = 44 ∧ Js.lsF s true val n (Js.sp s k2 + 1) b2 (ns ++ [⟨t.toArray⟩]) (xs ++ [x]) = .ok (v, j, b'))) := by
  rw [Js.lsF] at h
  dsimp only [Js.ends] at h
  rw [if_pos rfl] at h
  by_cases h34 : Js.nx s (Js.sp s k) = 34
  · rw [if_neg (fun e => e h34)] at h
    cases ht : Js.tx s (Js.sp s k) with
    | error e => rw [ht] at h; cases h
    | ok p =>
      obtain ⟨t, c⟩ := p
      rw [ht] at h
      dsimp only at h
      cases hc : ns.contains ⟨t.toArray⟩ with
      | true => rw [hc, if_pos rfl] at h; cases h
      | false =>
        rw [hc, if_neg (by decide)] at h
        by_cases h58 : Js.nx s (Js.sp s c) = 58
        · rw [if_pos h58] at h
          dsimp only at h
          cases hv : val (Js.sp s c + 1) b with
          | error e => rw [hv] at h; cases h
          | ok q =>
            obtain ⟨x, k2, b2⟩ := q
            rw [hv] at h
            dsimp only at h
            refine ⟨t, c, x, k2, b2, h34, rfl, hc, h58, hv, ?_⟩
            have h' : (if Js.nx s (Js.sp s k2) = 125 then Except.ok (Js.V.mk 7 ⟨#[]⟩ (ns ++ [⟨t.toArray⟩]) (xs ++ [x]), Js.sp s k2 + 1, b2) else if Js.nx s (Js.sp s k2) = 44 then Js.lsF s true val n (Js.sp s k2 + 1) b2 (ns ++ [⟨t.toArray⟩]) (xs ++ [x]) else .error (Js.wrong s (Js.sp s k2))) = (Except.ok (v, j, b') : Js.R (Js.V × Nat × Nat)) := h
            clear h
            have h := h'
            by_cases h125 : Js.nx s (Js.sp s k2) = 125
            · rw [if_pos h125] at h
              cases h
              exact .inl ⟨h125, rfl, rfl, rfl⟩
            · rw [if_neg h125] at h
              by_cases h44 : Js.nx s (Js.sp s k2) = 44
              · rw [if_pos h44] at h
                exact .inr ⟨h44, h⟩
              · rw [if_neg h44] at h; cases h
        · rw [if_neg h58] at h; cases h
  · rw [if_pos h34] at h; cases h

theorem Js.lt_of_nx {s : ByteArray} {k c : Nat} (h : Js.nx s k = c) (hc : c ≠ 0) : k < s.size := Nat.lt_of_not_le fun hh => by rw [Js.nx_end s k hh] at h; exact hc h.symm
/-- one member more -/
theorem Js.Ls.more {s : ByteArray} {obj : Bool} {d b1 : Nat} {ns : List ByteArray} {xs : List Js.V} {b : Nat} (h : Js.Ls s obj d b1 ns xs b) {k j b2 : Nat} {x : Js.V} (hx : Js.Rt s d k b x j b2) (m : List ByteArray)
    (hm : (obj = true → ∃ t : ByteArray, m = [t] ∧ (Js.bad8 t).isNone = true ∧ ns.contains t = false ∧ t.size ≤ 1000000) ∧ (obj = false → m = [])) : Js.Ls s obj d b1 (ns ++ m) (xs ++ [x]) b2 where
  fit := by rw [Js.fitL_app, h.fit, Js.fitL, hx.fit, Js.fitL]; rfl
  dep := by rw [Js.depL_append, Js.depL, Js.depL]; have := h.dep; have := hx.dep; omega
  cnt := by rw [Js.cntL_append, Js.cntL, Js.cntL, hx.cnt, h.cnt]; omega
  lim := hx.lim
  sz := Js.szL_app _ _ h.sz (by rw [Js.szL, Js.szL]; exact ⟨hx.sz, trivial⟩)
  nms := fun e => by
    obtain ⟨t, rfl, h1, h2, _⟩ := hm.1 e
    obtain ⟨h3, h4⟩ := h.nms e
    exact ⟨by rw [List.length_append, List.length_append, h3]; rfl, Js.okNs_app ns [] t h4 h1 h2⟩
  no := fun e => by rw [h.no e, hm.2 e]; rfl
  szn := fun y hy => by
    rcases List.mem_append.1 hy with hy | hy
    · exact h.szn y hy
    · cases obj with
      | false => rw [hm.2 rfl] at hy; cases hy
      | true =>
        obtain ⟨t, rfl, _, _, h4⟩ := hm.1 rfl
        rw [List.mem_singleton.1 hy]
        exact h4
theorem Js.wrL_more (obj : Bool) (ns m : List ByteArray) (xs : List Js.V) (x : Js.V) (h : obj = true → ns.length = xs.length) (q : Nat) (hq : obj = true → ∃ t : ByteArray, m = [t] ∧ (Js.quo t.data.toList).length + 1 ≤ q) :
    (Js.wrL obj (ns ++ m) 0 (xs ++ [x])).length ≤ (Js.wrL obj ns 0 xs).length + (if xs = [] then 0 else 1) + (if obj then q else 0) + (Js.wr x).length := by
  rw [Js.wrL_app, Js.wrL_names obj ns m xs 0 (fun e => by have := h e; omega), List.length_append, Js.wrL, Js.wrL, List.length_append, List.length_append, Nat.zero_add, List.append_nil]
  have e1 : (if xs.length = 0 then ([] : List UInt8) else [44]).length = (if xs = [] then 0 else 1) := by
    cases xs with
    | nil => rfl
    | cons y r => rfl
  rw [e1]
  cases obj with
  | false =>
    rw [if_neg (show ¬ (false = true) by decide), if_neg (show ¬ (false = true) by decide), List.length_nil]
    omega
  | true =>
    obtain ⟨t, rfl, h1⟩ := hq rfl
    rw [if_pos rfl, if_pos rfl, List.getD_eq_getElem?_getD, List.getElem?_append_right (by rw [h rfl]; exact Nat.le_refl _), h rfl, Nat.sub_self]
    show _ + (_ + ((Js.quo t.data.toList ++ [58]).length + _)) ≤ _
    rw [List.length_append]
    simp only [List.length_cons, List.length_nil]
    omega
theorem Js.qc_one (c : UInt8) : 1 ≤ (Js.qc c).length := by
  unfold Js.qc
  (repeat' split) <;> simp
theorem Js.flat_one : ∀ t : List UInt8, t.length ≤ (t.flatMap Js.qc).length
  | [] => Nat.zero_le _
  | c :: r => by
    have := Js.qc_one c
    have := Js.flat_one r
    rw [List.flatMap_cons, List.length_append, List.length_cons]
    omega
theorem Js.quo_one (t : List UInt8) : t.length ≤ (Js.quo t).length := by
  have := Js.flat_one t
  unfold Js.quo
  simp only [List.length_cons, List.length_append]
  omega
/-- the members of a list, all of them -/
theorem Js.list_right (s : ByteArray) (hs : s.size ≤ 1000000) (obj : Bool) (d k0 b1 : Nat) (IH : ∀ k b v j b', k ≤ s.size → Js.B8 s k → b ≤ 4096 → Js.val s d k b = .ok (v, j, b') → Js.Rt s d k b v j b') :
    ∀ n k b ns xs v j b', k ≤ s.size → Js.B8 s k → Js.Ls s obj d b1 ns xs b → (Js.wrL obj ns 0 xs).length + (if xs = [] then 0 else 1) + k0 ≤ k → Js.lsF s obj (Js.val s d) n k b ns xs = .ok (v, j, b') →
      ∃ ns' xs', v = .mk (if obj then 7 else 6) ⟨#[]⟩ ns' xs' ∧ Js.Ls s obj d b1 ns' xs' b' ∧ (Js.wrL obj ns' 0 xs').length + 1 + k0 ≤ j ∧ j ≤ s.size ∧ Js.B8 s j := by
  intro n
  induction n with
  | zero => intro k b ns xs v j b' _ _ _ _ h; rw [Js.lsF] at h; cases h
  | succ n ih =>
    intro k b ns xs v j b' hk h8 hl hlen h
    have hne : ∀ x : Js.V, (if xs ++ [x] = [] then 0 else 1) = 1 := fun x => if_neg (by simp)
    cases obj with
    | false =>
      obtain rfl : ns = [] := hl.no rfl
      rw [Js.lsF_arrE] at h
      cases hv : Js.val s d k b with
      | error e => rw [hv] at h; cases h
      | ok q =>
        obtain ⟨x, k2, b2⟩ := q
        rw [hv] at h
        dsimp only at h
        have hx := IH k b x k2 b2 hk h8 hl.lim hv
        have hm := hl.more hx [] ⟨fun e => (by cases e), fun _ => rfl⟩
        have hw := Js.wrL_more false [] [] xs x (fun e => (by cases e)) 0 (fun e => (by cases e))
        rw [if_neg (show ¬ (false = true) by decide)] at hw
        have hge := Js.sp_ge s k2
        have h8a := hx.b8.sp hx.le
        have := hx.len
        by_cases h93 : Js.nx s (Js.sp s k2) = 93
        · rw [if_pos h93] at h
          cases h
          have hlt := Js.lt_of_nx h93 (by decide)
          exact ⟨[], xs ++ [x], rfl, hm, by rw [List.append_nil] at hw; omega, hlt, h8a.next hlt (by omega)⟩
        · rw [if_neg h93] at h
          by_cases h44 : Js.nx s (Js.sp s k2) = 44
          · rw [if_pos h44] at h
            have hlt := Js.lt_of_nx h44 (by decide)
            exact ih _ _ [] _ _ _ _ hlt (h8a.next hlt (by omega)) hm (by rw [hne]; rw [List.append_nil] at hw; omega) h
          · rw [if_neg h44] at h; cases h
    | true =>
      obtain ⟨t, c, x, k2, b2, h34, ht, hc, h58, hv, hor⟩ := Js.lsF_objE s _ n k b ns xs v j b' h
      have hkm := Js.sp_ge s k
      have hml := Js.lt_of_nx h34 (by decide)
      obtain ⟨t1, t2, t3, t4⟩ := Js.tx_right s _ t c hml (h8.sp hk) h34 ht
      have hcs := Js.sp_ge s c
      have hsl := Js.lt_of_nx h58 (by decide)
      have h8c := (t2.sp t3).next hsl (by omega)
      have hx := IH _ b x k2 b2 hsl h8c hl.lim hv
      have hts := Js.quo_one t
      have hm := hl.more hx [⟨t.toArray⟩] ⟨fun _ => ⟨_, rfl, by rw [(Js.bad8_v8 _).2 t1]; rfl, hc, by show t.toArray.size ≤ _; simp only [List.size_toArray]; omega⟩, fun e => by cases e⟩
      have hw := Js.wrL_more true ns [⟨t.toArray⟩] xs x (fun _ => (hl.nms rfl).1) ((Js.quo t).length + 1) (fun _ => ⟨_, rfl, Nat.le_refl _⟩)
      rw [if_pos rfl] at hw
      have hge := Js.sp_ge s k2
      have h8a := hx.b8.sp hx.le
      have := hx.len
      rcases hor with ⟨h125, rfl, rfl, rfl⟩ | ⟨h44, h⟩
      · have hlt := Js.lt_of_nx h125 (by decide)
        exact ⟨_, _, rfl, hm, by omega, hlt, h8a.next hlt (by omega)⟩
      · have hlt := Js.lt_of_nx h44 (by decide)
        exact ih _ _ _ _ _ _ _ hlt (h8a.next hlt (by omega)) hm (by rw [hne]; omega) h
theorem Js.Ls.rt {s : ByteArray} {obj : Bool} {d b : Nat} {ns : List ByteArray} {xs : List Js.V} {b' k a j : Nat} (h : Js.Ls s obj d (b + 1) ns xs b') (hl : (Js.wrL obj ns 0 xs).length + 1 + (a + 1) ≤ j) (hk : k ≤ a) (hj : j ≤ s.size) (h8 : Js.B8 s j) :
    Js.Rt s (d + 1) k b (.mk (if obj then 7 else 6) ⟨#[]⟩ ns xs) j b' := by
  have hd := h.dep
  have hc := h.cnt
  have hb := h.lim
  have hx := Js.len_cntL xs
  have hnl : ns.length ≤ xs.length := by
    cases obj with
    | false => rw [h.no rfl]; exact Nat.zero_le _
    | true => rw [(h.nms rfl).1]; exact Nat.le_refl _
  refine ⟨?_, ?_, ?_, h.lim, ?_, hj, h8, ?_⟩
  · cases obj with
    | false =>
      rw [h.no rfl]
      show Js.fit (.mk 6 ⟨#[]⟩ [] xs) = true
      rw [Js.fit, if_neg (by decide), if_neg (by decide), if_neg (by decide), if_pos rfl, h.fit]
      rfl
    | true =>
      show Js.fit (.mk 7 ⟨#[]⟩ ns xs) = true
      rw [Js.fit, if_neg (by decide), if_neg (by decide), if_neg (by decide), if_neg (by decide), if_pos rfl, h.fit, (h.nms rfl).2, (h.nms rfl).1, beq_self_eq_true]
      rfl
  · cases obj with
    | false => show Js.depL xs + 1 ≤ d + 1; omega
    | true => show Js.depL xs + 1 ≤ d + 1; omega
  · rw [Js.cnt]; omega
  · cases obj with
    | false =>
      show (Js.wr (.mk 6 ⟨#[]⟩ ns xs)).length + k ≤ j
      rw [Js.wr, if_neg (by decide), if_neg (by decide), if_neg (by decide), if_neg (by decide), if_neg (by decide), if_neg (by decide)]
      simp only [List.length_cons, List.length_append, List.length_nil]
      omega
    | true =>
      show (Js.wr (.mk 7 ⟨#[]⟩ ns xs)).length + k ≤ j
      rw [Js.wr, if_neg (by decide), if_neg (by decide), if_neg (by decide), if_neg (by decide), if_neg (by decide), if_pos rfl]
      simp only [List.length_cons, List.length_append, List.length_nil]
      omega
  · rw [Js.sz]
    exact ⟨Nat.zero_le _, ⟨by omega, h.szn⟩, h.sz⟩
/-- a value without members -/
theorem Js.Rt.leaf {s : ByteArray} {d k b j kd : Nat} {t : ByteArray} (hf : Js.fit (.mk kd t [] []) = true) (hk : ¬ (kd = 6 ∨ kd = 7)) (hb : b < 4096) (hl : (Js.wr (.mk kd t [] [])).length + k ≤ j) (hj : j ≤ s.size) (h8 : Js.B8 s j) (ht : t.size ≤ 1000000) : Js.Rt s d k b (.mk kd t [] []) j (b + 1) where
  fit := hf
  dep := by rw [Js.dep, Js.depL, if_neg hk]; omega
  cnt := by rw [Js.cnt, Js.cntL]
  lim := hb
  len := hl
  le := hj
  b8 := h8
  sz := by rw [Js.sz, Js.szL]; exact ⟨ht, ⟨Nat.zero_le _, fun x hx => by cases hx⟩, trivial⟩
theorem Js.word_right (s : ByteArray) (d k a b kd : Nat) (l : List Nat) (v : Js.V) (j b' : Nat) (hl : ∀ c ∈ l, c < 128 ∧ c ≠ 0) (hka : k ≤ a) (ha : a ≤ s.size) (h8 : Js.B8 s a) (hb : b < 4096) (hk : kd = 1 ∨ kd = 2 ∨ kd = 3) (hw : (Js.wr (.mk kd ⟨#[]⟩ [] [])).length = l.length)
    (h : ((Js.wd s l a).map fun j => (Js.V.mk kd ⟨#[]⟩ [] [], j, b + 1) : Js.R (Js.V × Nat × Nat)) = .ok (v, j, b')) : Js.Rt s d k b v j b' := by
  cases hx : Js.wd s l a with
  | error e => rw [hx] at h; cases h
  | ok i =>
    rw [hx] at h
    cases h
    obtain ⟨h1, h2, h3⟩ := Js.wd_ascii s l a _ hl ha hx
    refine Js.Rt.leaf ?_ (by omega) hb (by rw [hw]; omega) h2 (h8.to (by omega) h2 h3) (Nat.zero_le _)
    rw [Js.fit, if_pos hk]
    rfl
theorem Js.val_right0 (s : ByteArray) (hs : s.size ≤ 1000000) (d : Nat) (IH : ∀ d', d = d' + 1 → ∀ k b v j b', k ≤ s.size → Js.B8 s k → b ≤ 4096 → Js.val s d' k b = .ok (v, j, b') → Js.Rt s d' k b v j b') : ∀ k b v j b', k ≤ s.size → Js.B8 s k → b ≤ 4096 → Js.val s d k b = .ok (v, j, b') → Js.Rt s d k b v j b' := by
  intro k b v j b' hk h8 hb h
  have hbg : Js.begins (Js.nx s (Js.sp s k)) = true := by
    cases e : Js.begins (Js.nx s (Js.sp s k)) with
    | true => rfl
    | false => rw [Js.val.eq_def] at h; dsimp only at h; rw [if_pos e] at h; cases h
  have h4 : b ≠ 4096 := by
    intro e
    rw [Js.val.eq_def] at h
    dsimp only at h
    rw [if_neg (by rw [hbg]; decide), if_pos e] at h
    cases h
  rw [Js.val_head s d k b _ rfl hbg h4] at h
  have hka := Js.sp_ge s k
  have h8a := h8.sp hk
  have hal := Js.sp_le s k hk
  obtain ⟨a, ha⟩ : ∃ a, Js.sp s k = a := ⟨_, rfl⟩
  rw [ha] at h hka h8a hal hbg
  have hlt : a < s.size := Nat.lt_of_not_le fun hh => by rw [Js.nx_end s a hh] at hbg; cases hbg
  by_cases hls : Js.nx s a = 91 ∨ Js.nx s a = 123
  · rw [if_pos hls] at h
    cases d with
    | zero => cases h
    | succ d =>
      dsimp only at h
      obtain ⟨obj, hobj⟩ : ∃ obj, (Js.nx s a == 123) = obj := ⟨_, rfl⟩
      rw [hobj] at h
      have h81 := h8a.next hlt (by omega)
      have h82 := h81.sp hlt
      have hg2 := Js.sp_ge s (a + 1)
      have hl2 := Js.sp_le s (a + 1) hlt
      unfold Js.ls at h
      dsimp only at h
      have h0 : Js.Ls s obj d (b + 1) [] [] (b + 1) := ⟨rfl, Nat.zero_le _, rfl, by omega, trivial, fun _ => ⟨rfl, rfl⟩, fun _ => rfl, fun x hx => by cases hx⟩
      by_cases he : Js.nx s (Js.sp s (a + 1)) = Js.ends obj
      · rw [if_pos he] at h
        cases h
        have he2 : Js.ends obj < 128 ∧ Js.ends obj ≠ 0 := by cases obj <;> decide
        have hlt2 := Js.lt_of_nx he he2.2
        exact h0.rt (a := a) (by rw [Js.wrL, List.length_nil]; omega) hka hlt2 (h82.next hlt2 (by omega))
      · rw [if_neg he] at h
        obtain ⟨ns', xs', rfl, h1, h2, h3, h5⟩ := Js.list_right s hs obj d (a + 1) (b + 1) (IH d rfl) _ _ _ [] [] v j b' hl2 h82 h0 (by rw [Js.wrL, List.length_nil, if_pos rfl]; omega) h
        exact h1.rt h2 hka h3 h5
  rw [if_neg hls] at h
  by_cases h34 : Js.nx s a = 34
  · rw [if_pos h34] at h
    cases ht : Js.tx s a with
    | error e => rw [ht] at h; cases h
    | ok q =>
      obtain ⟨t, c⟩ := q
      rw [ht] at h
      cases h
      obtain ⟨t1, t2, t3, t4⟩ := Js.tx_right s _ t _ hlt h8a h34 ht
      have hts := Js.quo_one t
      refine Js.Rt.leaf ?_ (by decide) (by omega) ?_ t3 t2 (by show t.toArray.size ≤ _; simp only [List.size_toArray]; omega)
      · rw [Js.fit, if_neg (by decide), if_neg (by decide), if_pos rfl, (Js.bad8_v8 _).2 t1]
        rfl
      · rw [Js.wr, if_neg (by decide), if_neg (by decide), if_neg (by decide), if_neg (by decide), if_pos rfl]
        show (Js.quo t).length + k ≤ _
        omega
  rw [if_neg h34] at h
  by_cases h110 : Js.nx s a = 110
  · rw [if_pos h110] at h
    exact Js.word_right s d k a b 1 _ v j b' (by decide) hka hal h8a (by omega) (by decide) rfl h
  rw [if_neg h110] at h
  by_cases h102 : Js.nx s a = 102
  · rw [if_pos h102] at h
    exact Js.word_right s d k a b 2 _ v j b' (by decide) hka hal h8a (by omega) (by decide) rfl h
  rw [if_neg h102] at h
  by_cases h116 : Js.nx s a = 116
  · rw [if_pos h116] at h
    exact Js.word_right s d k a b 3 _ v j b' (by decide) hka hal h8a (by omega) (by decide) rfl h
  rw [if_neg h116] at h
  by_cases hn : (Js.num s a).2 = true
  · rw [if_pos hn] at h
    cases h
    obtain ⟨j, hj⟩ : ∃ j, (Js.num s a).1 = j := ⟨_, rfl⟩
    have hpos := Rj.num_pos s a hn
    have hle : (Js.num s a).1 ≤ s.size := (Js.num_ok s a hal).2
    have hby := Js.num_bytes s a hn
    have hasc : ∀ i, a ≤ i → i < (Js.num s a).1 → Js.nx s i < 128 := by
      intro i h1 h2
      have h3 := hby i h1 h2
      unfold Js.spec Js.isDg at h3
      simp only [Bool.or_eq_true, Bool.and_eq_true, decide_eq_true_eq, beq_iff_eq] at h3
      omega
    rw [hj] at hpos hle hasc ⊢
    have hsz : (s.extract a j).size = j - a := by rw [ByteArray.size_extract]; omega
    have hcut : Js.Cut s (s.extract a j) a := by
      intro i hi
      rw [hsz] at hi
      rw [Js.nx_get _ i (by rw [hsz]; exact hi), Js.nx_get s (a + i) (by omega)]
      rw [ByteArray.getElem_extract]
    have hnum := hcut.num (by rw [hsz, show a + (j - a) = j by omega, ← hj, ← hn])
    refine Js.Rt.leaf ?_ (by decide) (by omega) ?_ hle (h8a.to (by omega) hle hasc) (by omega)
    · rw [Js.fit, if_neg (by decide), if_pos rfl]
      unfold Js.isNum
      rw [hnum, beq_self_eq_true, decide_eq_true (by omega : 0 < (s.extract a j).size)]
      rfl
    · rw [Js.wr, if_neg (by decide), if_neg (by decide), if_neg (by decide), if_pos rfl]
      have : (s.extract a j).data.toList.length = j - a := by rw [Array.length_toList]; exact hsz
      omega
  · rw [if_neg hn] at h; cases h
/-- a value -/
theorem Js.val_right (s : ByteArray) (hs : s.size ≤ 1000000) : ∀ d k b v j b', k ≤ s.size → Js.B8 s k → b ≤ 4096 → Js.val s d k b = .ok (v, j, b') → Js.Rt s d k b v j b' := by
  intro d
  induction d with
  | zero => exact Js.val_right0 s hs 0 (fun _ e => by cases e)
  | succ d ih => exact Js.val_right0 s hs (d + 1) (fun d' e => by cases e; exact ih)
theorem Js.wrong_ne (s : ByteArray) (k : Nat) : (Js.wrong s k).2 ≠ 0 ∧ (Js.wrong s k).1 = k := by
  unfold Js.wrong
  refine ⟨?_, rfl⟩
  dsimp only
  split <;> decide
/-- WHAT IS READ IS RIGHT, and its plain text is not longer than what was read -/
theorem Js.read_right (s : ByteArray) (v : Js.V) (h : Js.read s = .ok v) : Js.fit v = true ∧ Js.dep v ≤ 16 ∧ Js.cnt v ≤ 4096 ∧ (Js.wr v).length ≤ s.size ∧ s.size ≤ 65536 ∧ Js.sz v := by
  unfold Js.read at h
  by_cases hs : 65536 < s.size
  · rw [if_pos hs] at h; cases h
  · rw [if_neg hs] at h
    cases hb : Js.bad8 s with
    | some k => rw [hb] at h; cases h
    | none =>
      rw [hb] at h
      dsimp only at h
      cases hv : Js.val s 16 0 0 with
      | error e => rw [hv] at h; cases h
      | ok q =>
        obtain ⟨x, k, b⟩ := q
        rw [hv] at h
        dsimp only at h
        by_cases hk : Js.sp s k < s.size
        · rw [if_pos hk] at h; cases h
        · rw [if_neg hk] at h
          cases h
          have hr := Js.val_right s (by omega) 16 0 0 v k b (Nat.zero_le _) (by unfold Js.B8; rw [List.drop_zero]; exact (Js.bad8_v8 s).1 hb) (by omega) hv
          have h1 := hr.cnt
          have h2 := hr.lim
          have h3 := hr.len
          have h4 := hr.le
          exact ⟨hr.fit, hr.dep, by omega, by omega, by omega, hr.sz⟩
end Go.Proofs.YtmmijebekipdeaaDoor
