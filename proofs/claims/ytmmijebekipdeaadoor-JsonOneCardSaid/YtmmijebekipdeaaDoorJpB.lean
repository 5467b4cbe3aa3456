/- Plain laws of chapter 14, two: the text of a right value, with white space or without, is read as this value. -/
import Derived.Test.YtmmijebekipdeaaDoorJpA
namespace Go.Proofs.YtmmijebekipdeaaDoor
set_option linter.unusedVariables false
set_option linter.unusedSimpArgs false

/-- what stands behind a value that ends with a bracket -/
def Js.trail (g : Nat → List UInt8) (i : Nat) (x : Js.V) : List UInt8 := if x.kind = 6 ∨ x.kind = 7 then g (i + (Js.wr x).length - 1) else []
/-- how long a name is with its colon -/
def Js.nmL (obj : Bool) (ns : List ByteArray) (j : Nat) : Nat := if obj then (Js.quo (ns.getD j ⟨#[]⟩).data.toList).length + 1 else 0
def Js.nmT (g : Nat → List UInt8) (obj : Bool) (ns : List ByteArray) (j i : Nat) : List UInt8 := if obj then Js.quo (ns.getD j ⟨#[]⟩).data.toList ++ (58 :: g (i + (Js.quo (ns.getD j ⟨#[]⟩).data.toList).length)) else []
mutual
/-- the text of a value with white space: g says what stands behind the byte at a place of the plain text; i is where the value begins in it -/
def Js.wrS (g : Nat → List UInt8) : Nat → Js.V → List UInt8
  | i, .mk k t ns xs =>
    if k = 1 then [110, 117, 108, 108] else if k = 2 then [102, 97, 108, 115, 101] else if k = 3 then [116, 114, 117, 101]
    else if k = 4 then t.data.toList else if k = 5 then Js.quo t.data.toList
    else if k = 7 then 123 :: (g i ++ (Js.wrSE g true ns 0 (i + 1) xs ++ [125])) else 91 :: (g i ++ (Js.wrSE g false ns 0 (i + 1) xs ++ [93]))
def Js.wrSE (g : Nat → List UInt8) (obj : Bool) (ns : List ByteArray) : Nat → Nat → List Js.V → List UInt8
  | _, _, [] => []
  | j, i, x :: r => Js.nmT g obj ns j i ++ (Js.wrS g (i + Js.nmL obj ns j) x ++ (Js.trail g (i + Js.nmL obj ns j) x ++ (if r.isEmpty then [] else 44 :: (g (i + Js.nmL obj ns j + (Js.wr x).length) ++ Js.wrSE g obj ns (j + 1) (i + Js.nmL obj ns j + (Js.wr x).length + 1) r))))
end
def Js.no : Nat → List UInt8 := fun _ => []
mutual
/-- without white space it is the plain text -/
theorem Js.wrS_no : ∀ (i : Nat) (v : Js.V), Js.wrS Js.no i v = Js.wr v
  | i, .mk k t ns xs => by
    rw [Js.wrS, Js.wr, Js.wrSE_no true ns 0 (i + 1) xs, Js.wrSE_no false ns 0 (i + 1) xs]
    rfl
theorem Js.wrSE_no (obj : Bool) (ns : List ByteArray) : ∀ (j i : Nat) (xs : List Js.V), Js.wrSE Js.no obj ns j i xs = (if j = 0 then Js.wrL obj ns j xs else (Js.wrL obj ns j xs).drop 1)
  | j, i, [] => by rw [Js.wrSE, Js.wrL]; split <;> rfl
  | j, i, x :: r => by
    rw [Js.wrSE, Js.wrS_no _ x, Js.wrSE_no obj ns (j + 1) _ r, Js.wrL]
    have e1 : Js.nmT Js.no obj ns j i = (if obj = true then Js.quo (ns.getD j ⟨#[]⟩).data.toList ++ [58] else []) := rfl
    have e2 : Js.trail Js.no (i + Js.nmL obj ns j) x = [] := by unfold Js.trail Js.no; split <;> rfl
    have e3 : (if r.isEmpty = true then [] else 44 :: (Js.no (i + Js.nmL obj ns j + (Js.wr x).length) ++ (if j + 1 = 0 then Js.wrL obj ns (j + 1) r else (Js.wrL obj ns (j + 1) r).drop 1))) = Js.wrL obj ns (j + 1) r := by
      cases r with
      | nil => rw [Js.wrL]; rfl
      | cons y r' =>
        rw [if_neg (by simp), if_neg (by omega), Js.wrL, if_neg (by omega)]
        rfl
    rw [e1, e2, e3]
    by_cases hj : j = 0
    · rw [if_pos hj, if_pos hj]; rfl
    · rw [if_neg hj, if_neg hj]; rfl
end

/-- the head of a value's text -/
theorem Js.num_head (t : ByteArray) (h : (Js.num t 0).2 = true) : 0 < t.size ∧ (Js.nx t 0 = 45 ∨ Js.isDg (Js.nx t 0) = true) := by
  have hd : Js.nx t 0 = 45 ∨ Js.isDg (Js.nx t 0) = true := by
    by_cases h1 : Js.nx t 0 = 45
    · exact .inl h1
    · refine .inr ?_
      unfold Js.num at h
      dsimp only at h
      rw [if_neg h1] at h
      by_cases h2 : Js.nx t 0 = 48
      · rw [h2]; rfl
      · rw [if_neg h2] at h
        cases h3 : Js.isDg (Js.nx t 0) with
        | true => rfl
        | false => rw [Js.dg_stop t 0 h3, if_pos rfl] at h; cases h
  refine ⟨Nat.lt_of_not_le fun hh => ?_, hd⟩
  rw [Js.nx_end t 0 hh] at hd
  rcases hd with hd | hd <;> cases hd
theorem Js.Fo.of (c : UInt8) (r : List UInt8) (h : c = 44 ∨ c = 93 ∨ c = 125 ∨ c = 32 ∨ c = 9 ∨ c = 10 ∨ c = 13) : Js.Fo (c :: r) := by
  intro c' r' e
  cases e
  rcases h with rfl | rfl | rfl | rfl | rfl | rfl | rfl <;> exact ⟨rfl, by decide, by decide, by decide, by decide, by decide⟩
theorem Js.Fo.ws {l r : List UInt8} (hw : Js.Ws l) (hr : Js.Fo r) : Js.Fo (l ++ r) := by
  cases l with
  | nil => exact hr
  | cons c l =>
    have h := hw c (by simp)
    refine Js.Fo.of c _ ?_
    unfold Js.isSp at h
    simp only [Bool.or_eq_true, beq_iff_eq] at h
    have e : ∀ n : UInt8, c.toNat = n.toNat → c = n := fun n hn => UInt8.toNat_inj.1 hn
    rcases h with ((h | h) | h) | h
    · exact .inr (.inr (.inr (.inl (e 32 h))))
    · exact .inr (.inr (.inr (.inr (.inl (e 9 h)))))
    · exact .inr (.inr (.inr (.inr (.inr (.inl (e 10 h))))))
    · exact .inr (.inr (.inr (.inr (.inr (.inr (e 13 h))))))
theorem Js.begins_sp (c : Nat) (h : Js.begins c = true) : Js.isSp c = false := by
  cases hs : Js.isSp c with
  | false => rfl
  | true =>
    unfold Js.isSp at hs
    simp only [Bool.or_eq_true, beq_iff_eq] at hs
    rcases hs with ((rfl | rfl) | rfl) | rfl <;> exact absurd h (by decide)
/-- a right value's text begins with a byte that a value may begin with -/
theorem Js.wrS_head (g : Nat → List UInt8) (i : Nat) (v : Js.V) (hf : Js.fit v = true) : ∃ c r, Js.wrS g i v = c :: r ∧ Js.begins c.toNat = true ∧
    (v.kind = 1 → c = 110) ∧ (v.kind = 2 → c = 102) ∧ (v.kind = 3 → c = 116) ∧ (v.kind = 4 → c = 45 ∨ Js.isDg c.toNat = true) ∧ (v.kind = 5 → c = 34) ∧ (v.kind = 6 → c = 91) ∧ (v.kind = 7 → c = 123) ∧ 1 ≤ v.kind ∧ v.kind ≤ 7 := by
  obtain ⟨k, t, ns, xs⟩ := v
  rw [Js.fit] at hf
  rw [Js.wrS]
  show ∃ c r, _ = c :: r ∧ _ ∧ (k = 1 → _) ∧ (k = 2 → _) ∧ (k = 3 → _) ∧ (k = 4 → _) ∧ (k = 5 → _) ∧ (k = 6 → _) ∧ (k = 7 → _) ∧ 1 ≤ k ∧ k ≤ 7
  by_cases h1 : k = 1
  · subst h1; exact ⟨110, _, rfl, rfl, by decide, by decide, by decide, by decide, by decide, by decide, by decide, by decide, by decide⟩
  by_cases h2 : k = 2
  · subst h2; exact ⟨102, _, rfl, rfl, by decide, by decide, by decide, by decide, by decide, by decide, by decide, by decide, by decide⟩
  by_cases h3 : k = 3
  · subst h3; exact ⟨116, _, rfl, rfl, by decide, by decide, by decide, by decide, by decide, by decide, by decide, by decide, by decide⟩
  by_cases h4 : k = 4
  · subst h4
    rw [if_neg (by decide), if_pos rfl, Bool.and_eq_true, Bool.and_eq_true] at hf
    have hn := hf.1.1
    unfold Js.isNum at hn
    rw [Bool.and_eq_true, Bool.and_eq_true] at hn
    obtain ⟨h0, hh⟩ := Js.num_head t hn.1.1
    have hd := Js.drop_cons t 0 h0
    rw [List.drop_zero] at hd
    have hc : (UInt8.ofNat (Js.nx t 0)).toNat = Js.nx t 0 := by rw [UInt8.toNat_ofNat', Nat.mod_eq_of_lt (Js.nx_lt t 0)]
    refine ⟨UInt8.ofNat (Js.nx t 0), t.data.toList.drop 1, hd, ?_, fun h => by omega, fun h => by omega, fun h => by omega, fun _ => ?_, fun h => by omega, fun h => by omega, fun h => by omega, by omega, by omega⟩
    · rw [hc]
      unfold Js.begins
      rcases hh with hh | hh
      · rw [hh]; rfl
      · rw [hh]; simp
    · rcases hh with hh | hh
      · exact .inl (by rw [hh]; rfl)
      · exact .inr (by rw [hc]; exact hh)
  by_cases h5 : k = 5
  · subst h5; exact ⟨34, _, rfl, rfl, by decide, by decide, by decide, by decide, by decide, by decide, by decide, by decide, by decide⟩
  by_cases h7 : k = 7
  · subst h7; exact ⟨123, _, rfl, rfl, by decide, by decide, by decide, by decide, by decide, by decide, by decide, by decide, by decide⟩
  · have h6 : k = 6 := Classical.byContradiction fun h => by rw [if_neg (by omega), if_neg h4, if_neg h5, if_neg h, if_neg h7] at hf; cases hf
    subst h6; exact ⟨91, _, rfl, rfl, by decide, by decide, by decide, by decide, by decide, by decide, by decide, by decide, by decide⟩
theorem Js.okNs_new : ∀ (ns b : List ByteArray) (j : Nat) (h : j < ns.length), Js.okNs b ns = true → (b ++ ns.take j).contains ns[j] = false
  | x :: r, b, 0, _, hf => by
    rw [Js.okNs, Bool.and_eq_true, Bool.and_eq_true] at hf
    have := hf.1.2
    simpa using this
  | x :: r, b, j + 1, h, hf => by
    rw [Js.okNs, Bool.and_eq_true] at hf
    have := Js.okNs_new r (b ++ [x]) j (by simpa using h) hf.2
    rw [List.append_assoc] at this
    exact this
end Go.Proofs.YtmmijebekipdeaaDoor
