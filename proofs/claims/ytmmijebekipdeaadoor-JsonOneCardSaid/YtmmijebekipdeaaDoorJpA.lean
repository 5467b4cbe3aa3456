/- Plain laws of chapter 14, one: reading what has been written, with white space or without. No program in sight. -/
import Derived.Test.YtmmijebekipdeaaDoorJsZ
namespace Go.Proofs.YtmmijebekipdeaaDoor
set_option linter.unusedVariables false
set_option linter.unusedSimpArgs false

/-- the text from k on -/
def Js.Tl (s : ByteArray) (k : Nat) (l : List UInt8) : Prop := s.data.toList.drop k = l
theorem Js.Tl.lt {s : ByteArray} {k : Nat} {c : UInt8} {r : List UInt8} (h : Js.Tl s k (c :: r)) : k < s.size := by
  refine Nat.lt_of_not_le fun hh => ?_
  unfold Js.Tl at h
  rw [List.drop_eq_nil_of_le (by simpa using hh)] at h
  cases h
theorem Js.Tl.nx {s : ByteArray} {k : Nat} {c : UInt8} {r : List UInt8} (h : Js.Tl s k (c :: r)) : Js.nx s k = c.toNat := by
  have hk := h.lt
  unfold Js.Tl at h
  rw [List.drop_eq_getElem_cons (by simpa using hk)] at h
  rw [Js.nx_get s k hk]
  have := (List.cons.inj h).1
  rw [← this]
  rfl
theorem Js.Tl.next {s : ByteArray} {k : Nat} {c : UInt8} {r : List UInt8} (h : Js.Tl s k (c :: r)) : Js.Tl s (k + 1) r := by
  have hk := h.lt
  unfold Js.Tl at h
  rw [List.drop_eq_getElem_cons (by simpa using hk)] at h
  exact (List.cons.inj h).2
theorem Js.Tl.nil {s : ByteArray} {k : Nat} (h : Js.Tl s k []) : s.size ≤ k := by
  unfold Js.Tl at h
  have := congrArg List.length h
  simp at this
  omega
theorem Js.Tl.end' {s : ByteArray} {k : Nat} (h : Js.Tl s k []) : Js.nx s k = 0 := Js.nx_end s k h.nil
theorem Js.Tl.len {s : ByteArray} {k : Nat} {l : List UInt8} (h : Js.Tl s k l) (hk : k ≤ s.size) : k + l.length = s.size := by
  have := congrArg List.length h
  simp at this
  omega
theorem Js.Tl.le {s : ByteArray} {k : Nat} {l : List UInt8} (h : Js.Tl s k l) : s.size ≤ k + l.length := by
  have := congrArg List.length h
  simp at this
  omega
theorem Js.Tl.skip {s : ByteArray} : ∀ {l r : List UInt8} {k : Nat}, Js.Tl s k (l ++ r) → Js.Tl s (k + l.length) r
  | [], _, _, h => h
  | c :: l, r, k, h => by
    have := Js.Tl.skip (l := l) (r := r) (Js.Tl.next (c := c) h)
    rw [List.length_cons, show k + (l.length + 1) = k + 1 + l.length by omega]
    exact this
/-- white space -/
def Js.Ws (l : List UInt8) : Prop := ∀ c ∈ l, Js.isSp c.toNat = true
theorem Js.Tl.sp {s : ByteArray} : ∀ {l r : List UInt8} {k : Nat}, Js.Tl s k (l ++ r) → Js.Ws l → (∀ c r', r = c :: r' → Js.isSp c.toNat = false) → Js.sp s k = k + l.length
  | [], r, k, h, _, hr => by
    refine Js.sp_stop s k ?_
    cases r with
    | nil => rw [Js.Tl.end' h]; rfl
    | cons c r' => rw [Js.Tl.nx h]; exact hr c r' rfl
  | c :: l, r, k, h, hw, hr => by
    have h1 := hw c (by simp)
    rw [Js.sp_step s k (by rw [Js.Tl.nx h]; exact h1), Js.Tl.sp (Js.Tl.next h) (fun x hx => hw x (List.mem_cons_of_mem _ hx)) hr, List.length_cons]
    omega
/-- a head that is given -/
theorem Js.Tl.sp1 {s : ByteArray} {l r : List UInt8} {c : UInt8} {k : Nat} (h : Js.Tl s k (l ++ c :: r)) (hw : Js.Ws l) (hc : Js.isSp c.toNat = false) : Js.sp s k = k + l.length :=
  h.sp hw fun c' r' e => by cases e; exact hc

/-- what may follow a number: nothing that a number could go on with -/
def Js.Fo (r : List UInt8) : Prop := ∀ c r', r = c :: r' → Js.isDg c.toNat = false ∧ c ≠ 43 ∧ c ≠ 45 ∧ c ≠ 46 ∧ c ≠ 69 ∧ c ≠ 101
def Js.spec (c : Nat) : Bool := Js.isDg c || c == 43 || c == 45 || c == 46 || c == 69 || c == 101
/-- two texts agree as far as numbers look -/
theorem Js.Tl.agree {s t : ByteArray} {k : Nat} {r : List UInt8} (h : Js.Tl s k (t.data.toList ++ r)) (hf : Js.Fo r) : ∀ j, j ≤ t.size → (j < t.size → Js.nx s (k + j) = Js.nx t j) ∧ (j = t.size → Js.spec (Js.nx s (k + j)) = false) := by
  intro j hj
  refine ⟨fun hlt => ?_, fun he => ?_⟩
  · have h1 : t.data.toList.drop j ++ r = s.data.toList.drop (k + j) := by
      have h2 := congrArg (List.drop j) h
      rw [List.drop_drop, List.drop_append_of_le_length (by simpa using hj)] at h2
      rw [← h2]
    have h3 : t.data.toList.drop j = UInt8.ofNat (Js.nx t j) :: t.data.toList.drop (j + 1) := Js.drop_cons t j hlt
    rw [h3] at h1
    have h4 := Js.Tl.nx (s := s) (k := k + j) (c := UInt8.ofNat (Js.nx t j)) (r := t.data.toList.drop (j + 1) ++ r) h1.symm
    rw [h4, UInt8.toNat_ofNat', Nat.mod_eq_of_lt (Js.nx_lt t j)]
  · subst he
    have h1 : Js.Tl s (k + t.size) r := by
      have := h.skip
      simpa using this
    cases r with
    | nil => rw [h1.end']; rfl
    | cons c r' =>
      rw [h1.nx]
      obtain ⟨f1, f2, f3, f4, f5, f6⟩ := hf c r' rfl
      have g : ∀ n : UInt8, c ≠ n → (c.toNat == n.toNat) = false := fun n hn => by rw [beq_eq_false_iff_ne]; exact fun e => hn (UInt8.toNat_inj.1 e)
      unfold Js.spec
      rw [f1, show (c.toNat == 43) = false from g 43 f2, show (c.toNat == 45) = false from g 45 f3, show (c.toNat == 46) = false from g 46 f4, show (c.toNat == 69) = false from g 69 f5, show (c.toNat == 101) = false from g 101 f6]
      rfl
/-- the bytes that numbers look at are the same -/
def Js.Ag (s t : ByteArray) (k : Nat) : Prop := ∀ j, j ≤ t.size → (Js.spec (Js.nx s (k + j)) = true ↔ Js.spec (Js.nx t j) = true) ∧ (Js.spec (Js.nx t j) = true → Js.nx s (k + j) = Js.nx t j ∧ j < t.size)
theorem Js.Tl.ag {s t : ByteArray} {k : Nat} {r : List UInt8} (h : Js.Tl s k (t.data.toList ++ r)) (hf : Js.Fo r) : Js.Ag s t k := by
  intro j hj
  obtain ⟨h1, h2⟩ := h.agree hf j hj
  by_cases hlt : j < t.size
  · rw [h1 hlt]
    exact ⟨Iff.rfl, fun _ => ⟨rfl, hlt⟩⟩
  · have he : j = t.size := by omega
    have h3 := h2 he
    have h4 : Js.spec (Js.nx t j) = false := by rw [Js.nx_end t j (by omega)]; rfl
    rw [h3, h4]
    exact ⟨Iff.rfl, fun e => by cases e⟩
theorem Js.Ag.is {s t : ByteArray} {k : Nat} (h : Js.Ag s t k) (c : Nat) (hc : Js.spec c = true) (j : Nat) (hj : j ≤ t.size) : (Js.nx s (k + j) = c ↔ Js.nx t j = c) ∧ (Js.nx t j = c → j < t.size) := by
  obtain ⟨h1, h2⟩ := h j hj
  refine ⟨⟨fun e => ?_, fun e => ?_⟩, fun e => (h2 (by rw [e]; exact hc)).2⟩
  · rw [← (h2 (h1.1 (by rw [e]; exact hc))).1]; exact e
  · rw [(h2 (by rw [e]; exact hc)).1]; exact e
theorem Js.Ag.dgc {s t : ByteArray} {k : Nat} (h : Js.Ag s t k) (j : Nat) (hj : j ≤ t.size) : Js.isDg (Js.nx s (k + j)) = Js.isDg (Js.nx t j) ∧ (Js.isDg (Js.nx t j) = true → j < t.size) := by
  obtain ⟨h1, h2⟩ := h j hj
  have sp : ∀ c, Js.isDg c = true → Js.spec c = true := fun c hc => by unfold Js.spec; rw [hc]; rfl
  refine ⟨?_, fun e => (h2 (sp _ e)).2⟩
  rw [Bool.eq_iff_iff]
  refine ⟨fun e => ?_, fun e => ?_⟩
  · rw [← (h2 (h1.1 (sp _ e))).1]; exact e
  · rw [(h2 (sp _ e)).1]; exact e
theorem Js.Ag.dg {s t : ByteArray} {k : Nat} (h : Js.Ag s t k) : ∀ n j, j ≤ t.size → t.size ≤ n + j → Js.dg s (k + j) = k + Js.dg t j
  | 0, j, hj, hn => by
    have he : j = t.size := by omega
    have h1 := h.dgc j hj
    have h2 : Js.isDg (Js.nx t j) = false := by rw [Js.nx_end t j (by omega)]; rfl
    rw [Js.dg_stop s _ (by rw [h1.1]; exact h2), Js.dg_stop t _ h2]
  | n + 1, j, hj, hn => by
    have h1 := h.dgc j hj
    by_cases hd : Js.isDg (Js.nx t j) = true
    · have hlt := h1.2 hd
      rw [Js.dg_step s _ (by rw [h1.1]; exact hd), Js.dg_step t _ hd, Nat.add_assoc]
      exact Js.Ag.dg h n (j + 1) (by omega) (by omega)
    · have h2 : Js.isDg (Js.nx t j) = false := by simpa using hd
      rw [Js.dg_stop s _ (by rw [h1.1]; exact h2), Js.dg_stop t _ h2]
theorem Js.Ag.dg' {s t : ByteArray} {k : Nat} (h : Js.Ag s t k) (j : Nat) (hj : j ≤ t.size) : Js.dg s (k + j) = k + Js.dg t j := h.dg t.size j hj (by omega)
theorem Js.Ag.numX {s t : ByteArray} {k : Nat} (h : Js.Ag s t k) (a : Nat) (ha : a ≤ t.size) : Js.numX s (k + a) = (k + (Js.numX t a).1, (Js.numX t a).2) := by
  unfold Js.numX
  have e1 := h.is 101 rfl a ha
  have e2 := h.is 69 rfl a ha
  by_cases hx : Js.nx t a = 101 ∨ Js.nx t a = 69
  · have hlt : a < t.size := by rcases hx with hx | hx; exact e1.2 hx; exact e2.2 hx
    have hx' : Js.nx s (k + a) = 101 ∨ Js.nx s (k + a) = 69 := by rcases hx with hx | hx; exact .inl (e1.1.2 hx); exact .inr (e2.1.2 hx)
    rw [if_pos hx', if_pos hx]
    have f1 := h.is 43 rfl (a + 1) hlt
    have f2 := h.is 45 rfl (a + 1) hlt
    by_cases hy : Js.nx t (a + 1) = 43 ∨ Js.nx t (a + 1) = 45
    · have hlt2 : a + 1 < t.size := by rcases hy with hy | hy; exact f1.2 hy; exact f2.2 hy
      have hy' : Js.nx s (k + a + 1) = 43 ∨ Js.nx s (k + a + 1) = 45 := by rw [Nat.add_assoc]; rcases hy with hy | hy; exact .inl (f1.1.2 hy); exact .inr (f2.1.2 hy)
      rw [if_pos hy', if_pos hy, Nat.add_assoc]
      dsimp only
      rw [h.dg' (a + 2) hlt2]
      congr 1
      rw [Bool.eq_iff_iff, bne_iff_ne, bne_iff_ne]
      omega
    · have hy' : ¬ (Js.nx s (k + a + 1) = 43 ∨ Js.nx s (k + a + 1) = 45) := by rw [Nat.add_assoc]; exact fun e => hy (e.elim (fun e => .inl (f1.1.1 e)) (fun e => .inr (f2.1.1 e)))
      rw [if_neg hy', if_neg hy, Nat.add_assoc]
      dsimp only
      rw [h.dg' (a + 1) hlt]
      congr 1
      rw [Bool.eq_iff_iff, bne_iff_ne, bne_iff_ne]
      omega
  · have hx' : ¬ (Js.nx s (k + a) = 101 ∨ Js.nx s (k + a) = 69) := fun e => hx (e.elim (fun e => .inl (e1.1.1 e)) (fun e => .inr (e2.1.1 e)))
    rw [if_neg hx', if_neg hx]
theorem Js.Ag.numF {s t : ByteArray} {k : Nat} (h : Js.Ag s t k) (a : Nat) (ha : a ≤ t.size) : Js.numF s (k + a) = (k + (Js.numF t a).1, (Js.numF t a).2) := by
  unfold Js.numF
  have e1 := h.is 46 rfl a ha
  by_cases hx : Js.nx t a = 46
  · have hlt := e1.2 hx
    have hd := h.dg' (a + 1) hlt
    have hge := Js.dg_ge t (a + 1)
    rw [if_pos (e1.1.2 hx), if_pos hx, show k + a + 1 = k + (a + 1) by omega, hd]
    by_cases hz : Js.dg t (a + 1) = a + 1
    · rw [if_pos (by omega), if_pos hz]
    · rw [if_neg (by omega), if_neg hz]
      exact h.numX _ (Js.dg_le t _ hlt)
  · rw [if_neg (fun e => hx (e1.1.1 e)), if_neg hx]
    exact h.numX a ha
/-- a number is read where it stands -/
theorem Js.Tl.num {s t : ByteArray} {k : Nat} {r : List UInt8} (h0 : Js.Tl s k (t.data.toList ++ r)) (hf : Js.Fo r) : Js.num s k = (k + (Js.num t 0).1, (Js.num t 0).2) := by
  have h := h0.ag hf
  unfold Js.num
  have e1 := h.is 45 rfl 0 (Nat.zero_le _)
  rw [Nat.add_zero] at e1
  obtain ⟨a, ha⟩ : ∃ a, a = (if Js.nx t 0 = 45 then 0 + 1 else 0) := ⟨_, rfl⟩
  have ha2 : a ≤ t.size := by
    rw [ha]; split
    · next hx => exact e1.2 hx
    · exact Nat.zero_le _
  have hb : (if Js.nx s k = 45 then k + 1 else k) = k + a := by
    rw [ha]
    by_cases hx : Js.nx t 0 = 45
    · rw [if_pos hx, if_pos (e1.1.2 hx)]
    · rw [if_neg hx, if_neg (fun e => hx (e1.1.1 e))]; rfl
  dsimp only
  rw [hb, ← ha]
  have e2 := h.is 48 rfl a ha2
  by_cases hx : Js.nx t a = 48
  · rw [if_pos hx, if_pos (e2.1.2 hx), show k + a + 1 = k + (a + 1) by omega]
    exact h.numF (a + 1) (e2.2 hx)
  · rw [if_neg hx, if_neg (fun e => hx (e2.1.1 e)), h.dg' a ha2]
    by_cases hz : Js.dg t a = a
    · rw [if_pos hz, if_pos (by omega)]
    · rw [if_neg hz, if_neg (by omega)]
      exact h.numF _ (Js.dg_le t _ ha2)

/-- a word is read where it stands -/
theorem Js.Tl.wd {s : ByteArray} : ∀ {l : List UInt8} {r : List UInt8} {k : Nat}, Js.Tl s k (l ++ r) → Js.wd s (l.map UInt8.toNat) k = .ok (k + l.length)
  | [], _, _, _ => rfl
  | c :: l, r, k, h => by
    rw [List.map_cons, Js.wd, if_pos h.nx, Js.Tl.wd (Js.Tl.next h), List.length_cons, show k + 1 + l.length = k + (l.length + 1) by omega]
theorem Js.enc_low (c : Nat) (h : c < 128) : Js.enc c = [UInt8.ofNat c] := by unfold Js.enc; rw [if_pos h]
theorem Js.u8_of (c : UInt8) : UInt8.ofNat c.toNat = c := by simp
/-- what is written for a byte is read as this byte -/
theorem Js.Tl.qc {s : ByteArray} (c : UInt8) {r : List UInt8} {k : Nat} (h : Js.Tl s k (Js.qc c ++ r)) (n : Nat) (out : List UInt8) : Js.txF s (n + 1) k out = Js.txF s n (k + (Js.qc c).length) (out ++ [c]) := by
  have hlt := UInt8.toNat_lt c
  have short2 : ∀ (d : UInt8) (x : Nat), Js.qc c = [92, d] → Js.short d.toNat = some x → Js.enc x = [c] → Js.txF s (n + 1) k out = Js.txF s n (k + (Js.qc c).length) (out ++ [c]) := by
    intro d x hq hs he
    rw [hq] at h ⊢
    have n0 : Js.nx s k = 92 := h.nx
    have n1 : Js.nx s (k + 1) = d.toNat := h.next.nx
    rw [Js.txF, if_neg (by omega), if_neg (by omega), if_pos n0, Js.esc, n1, hs]
    dsimp only
    rw [he]
    rfl
  by_cases h34 : c = 34
  · subst h34; exact short2 34 34 rfl rfl rfl
  by_cases h92 : c = 92
  · subst h92; exact short2 92 92 rfl rfl rfl
  by_cases h32 : 32 ≤ c.toNat
  · have hq : Js.qc c = [c] := by unfold Js.qc; rw [if_neg (by simp [h34, h92]), if_pos h32]
    rw [hq] at h ⊢
    have n0 : Js.nx s k = c.toNat := h.nx
    have a1 : c.toNat ≠ 34 := fun e => h34 (UInt8.toNat_inj.1 e)
    have a2 : c.toNat ≠ 92 := fun e => h92 (UInt8.toNat_inj.1 e)
    rw [Js.txF, n0, if_neg (by omega), if_neg a1, if_neg a2, Js.u8_of]
    rfl
  by_cases h8 : c = 8
  · subst h8; exact short2 98 8 rfl rfl rfl
  by_cases h9 : c = 9
  · subst h9; exact short2 116 9 rfl rfl rfl
  by_cases h10 : c = 10
  · subst h10; exact short2 110 10 rfl rfl rfl
  by_cases h12 : c = 12
  · subst h12; exact short2 102 12 rfl rfl rfl
  by_cases h13 : c = 13
  · subst h13; exact short2 114 13 rfl rfl rfl
  · have hq : Js.qc c = [92, 117, 48, 48, UInt8.ofNat (48 + c.toNat / 16), UInt8.ofNat (if c.toNat % 16 < 10 then 48 + c.toNat % 16 else 87 + c.toNat % 16)] := by
      unfold Js.qc; rw [if_neg (by simp [h34, h92]), if_neg h32, if_neg h8, if_neg h9, if_neg h10, if_neg h12, if_neg h13]
    rw [hq] at h ⊢
    have n0 : Js.nx s k = 92 := h.nx
    have n1 : Js.nx s (k + 1) = 117 := h.next.nx
    have n2 : Js.nx s (k + 2) = 48 := h.next.next.nx
    have n3 : Js.nx s (k + 2 + 1) = 48 := h.next.next.next.nx
    have n4 : Js.nx s (k + 2 + 1 + 1) = 48 + c.toNat / 16 := by have h5 := h.next.next.next.next.nx; rw [UInt8.toNat_ofNat', Nat.mod_eq_of_lt (by omega)] at h5; exact h5
    have n5 : Js.nx s (k + 2 + 1 + 1 + 1) = (if c.toNat % 16 < 10 then 48 + c.toNat % 16 else 87 + c.toNat % 16) := by
      have h5 := h.next.next.next.next.next.nx
      rw [UInt8.toNat_ofNat', Nat.mod_eq_of_lt (by split <;> omega)] at h5; exact h5
    have d4 : Js.hexd (48 + c.toNat / 16) = some (c.toNat / 16) := by unfold Js.hexd; rw [if_pos (by omega)]; congr 1; omega
    have d5 : Js.hexd (if c.toNat % 16 < 10 then 48 + c.toNat % 16 else 87 + c.toNat % 16) = some (c.toNat % 16) := by
      unfold Js.hexd
      split
      · rw [if_pos (by omega)]; congr 1; omega
      · rw [if_neg (by omega), if_pos (by omega)]; congr 1; omega
    have hx : Js.hx s 4 (k + 2) 0 = .ok c.toNat := by
      rw [Js.hx, n2, show Js.hexd 48 = some 0 from rfl]
      dsimp only
      rw [Js.hx, n3, show Js.hexd 48 = some 0 from rfl]
      dsimp only
      rw [Js.hx, n4, d4]
      dsimp only
      rw [Js.hx, n5, d5]
      dsimp only
      rw [Js.hx]
      congr 1
      omega
    rw [Js.txF, if_neg (by omega), if_neg (by omega), if_pos n0, Js.esc, n1, show Js.short 117 = none from rfl]
    dsimp only
    rw [if_pos rfl, hx]
    dsimp only
    rw [if_pos (by omega)]
    dsimp only
    rw [Js.enc_low _ (by omega), Js.u8_of]
    rfl
theorem Js.qc_pos (c : UInt8) : 0 < (Js.qc c).length := by
  unfold Js.qc
  (repeat' split) <;> simp
theorem Js.Tl.txF {s : ByteArray} : ∀ (l : List UInt8) (r : List UInt8) (k n : Nat) (out : List UInt8), Js.Tl s k (l.flatMap Js.qc ++ (34 :: r)) → l.length < n → Js.txF s n k out = .ok (out ++ l, k + (l.flatMap Js.qc).length + 1)
  | [], r, k, n, out, h, hn => by
    obtain ⟨m, rfl⟩ : ∃ m, n = m + 1 := ⟨n - 1, by simp at hn; omega⟩
    have n0 : Js.nx s k = 34 := Js.Tl.nx h
    rw [Js.txF, if_neg (by omega), if_pos n0]
    simp
  | c :: l, r, k, n, out, h, hn => by
    obtain ⟨m, rfl⟩ : ∃ m, n = m + 1 := ⟨n - 1, by simp at hn; omega⟩
    rw [List.flatMap_cons, List.append_assoc] at h
    rw [Js.Tl.qc c h m out, Js.Tl.txF l r _ m _ h.skip (by simpa using hn), List.flatMap_cons, List.length_append]
    simp only [List.append_assoc, List.cons_append, List.nil_append]
    congr 2
    omega
/-- a string that has been quoted is read as it was -/
theorem Js.Tl.tx {s : ByteArray} {l r : List UInt8} {k : Nat} (h : Js.Tl s k (Js.quo l ++ r)) : Js.tx s k = .ok (l, k + (Js.quo l).length) := by
  unfold Js.quo at h ⊢
  have hk := Js.Tl.lt h
  have h1 : Js.Tl s (k + 1) (l.flatMap Js.qc ++ (34 :: r)) := by
    have h2 : Js.Tl s (k + 1) ((l.flatMap Js.qc ++ [34]) ++ r) := Js.Tl.next h
    rw [List.append_assoc] at h2
    exact h2
  have hl : l.length ≤ (l.flatMap Js.qc).length := by
    clear h h1
    induction l with
    | nil => simp
    | cons c l ih => rw [List.flatMap_cons, List.length_append, List.length_cons]; have := Js.qc_pos c; omega
  have h3 := h1.len (by omega)
  rw [List.length_append, List.length_cons] at h3
  unfold Js.tx
  rw [Js.Tl.txF l r (k + 1) _ [] h1 (by omega)]
  rw [List.length_cons, List.length_append]
  simp only [List.nil_append, List.length_cons, List.length_nil]
  congr 2
  omega
end Go.Proofs.YtmmijebekipdeaaDoor
