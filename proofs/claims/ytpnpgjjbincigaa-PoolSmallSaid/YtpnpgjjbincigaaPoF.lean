/- What a sync answers, in plain words: the keys of slots and targets in order, each once, and what becomes of each. Contract of pool.Sync: of all slots, targets and numbers. Contracts: slices.Equal at labels, slices.IndexFunc at slots, pool.Right, Find. (Printed in part by gen_idx.py.) Contracts of pool.Running and pool.End. -/
import Derived.Test.YtpnpgjjbincigaaSyA
import Derived.Test.YtpnpgjjbincigaaOneP
import Derived.Test.YtpnpgjjbincigaaSame
import Derived.BigQuiet
namespace Go.Proofs.Ytpnpgjjbincigaa
open Go.RowKit
set_option linter.unusedVariables false

/-! ### a strictly ascending list of keys -/
def Po.ins (k : List UInt8) : List (List UInt8) → List (List UInt8)
  | [] => [k]
  | a :: r => if k < a then k :: a :: r else if k = a then a :: r else a :: Po.ins k r
def Po.srt (l : List (List UInt8)) : List (List UInt8) := l.foldr Po.ins []
def Po.Asc (l : List (List UInt8)) : Prop := l.Pairwise (· < ·)
theorem Po.ins_mem (k x : List UInt8) (l : List (List UInt8)) : x ∈ Po.ins k l ↔ x = k ∨ x ∈ l := by
  induction l with
  | nil => simp [Po.ins]
  | cons a r ih =>
    unfold Po.ins
    split
    · simp
    · split
      · rename_i h1 h2
        subst h2
        simp
      · simp only [List.mem_cons, ih]
        constructor
        · rintro (h | h | h)
          · exact .inr (.inl h)
          · exact .inl h
          · exact .inr (.inr h)
        · rintro (h | h | h)
          · exact .inr (.inl h)
          · exact .inl h
          · exact .inr (.inr h)
theorem Po.tri {a b : List UInt8} (h1 : ¬ a < b) (h2 : ¬ a = b) : b < a := by
  rcases Decidable.em (b < a) with h | h
  · exact h
  · exact absurd (Std.le_antisymm (List.not_lt.1 h) (List.not_lt.1 h1)) h2
theorem Po.ins_asc (k : List UInt8) (l : List (List UInt8)) (h : Po.Asc l) : Po.Asc (Po.ins k l) := by
  induction l with
  | nil => simp [Po.ins, Po.Asc]
  | cons a r ih =>
    obtain ⟨h1, h2⟩ := List.pairwise_cons.1 h
    unfold Po.ins
    split
    · rename_i hk
      refine List.pairwise_cons.2 ⟨fun x hx => ?_, h⟩
      rcases List.mem_cons.1 hx with rfl | hx
      · exact hk
      · exact List.lt_trans hk (h1 x hx)
    · rename_i hk
      split
      · exact h
      · rename_i hk2
        refine List.pairwise_cons.2 ⟨fun x hx => ?_, ih h2⟩
        rcases (Po.ins_mem k x r).1 hx with rfl | hx
        · exact Po.tri hk hk2
        · exact h1 x hx
theorem Po.srt_mem (x : List UInt8) (l : List (List UInt8)) : x ∈ Po.srt l ↔ x ∈ l := by
  induction l with
  | nil => simp [Po.srt]
  | cons a r ih =>
    show x ∈ Po.ins a (Po.srt r) ↔ _
    rw [Po.ins_mem, ih, List.mem_cons]
theorem Po.srt_asc (l : List (List UInt8)) : Po.Asc (Po.srt l) := by
  induction l with
  | nil => exact List.Pairwise.nil
  | cons a r ih => exact Po.ins_asc a _ ih
theorem Po.asc_eq : ∀ (a b : List (List UInt8)), Po.Asc a → Po.Asc b → (∀ x, x ∈ a ↔ x ∈ b) → a = b
  | [], [], _, _, _ => rfl
  | [], y :: b, _, _, h => absurd ((h y).2 (List.mem_cons_self ..)) (by simp)
  | x :: a, [], _, _, h => absurd ((h x).1 (List.mem_cons_self ..)) (by simp)
  | x :: a, y :: b, ha, hb, h => by
    obtain ⟨a1, a2⟩ := List.pairwise_cons.1 ha
    obtain ⟨b1, b2⟩ := List.pairwise_cons.1 hb
    have e : x = y := by
      rcases List.mem_cons.1 ((h x).1 (List.mem_cons_self ..)) with e | e
      · exact e
      · rcases List.mem_cons.1 ((h y).2 (List.mem_cons_self ..)) with f | f
        · exact f.symm
        · exact absurd (List.lt_trans (b1 x e) (a1 y f)) (List.lt_irrefl _)
    subst e
    rw [Po.asc_eq a b a2 b2 fun z => ?_]
    constructor
    · intro hz
      rcases List.mem_cons.1 ((h z).1 (List.mem_cons_of_mem _ hz)) with e | e
      · subst e; exact absurd (a1 z hz) (List.lt_irrefl _)
      · exact e
    · intro hz
      rcases List.mem_cons.1 ((h z).2 (List.mem_cons_of_mem _ hz)) with e | e
      · subst e; exact absurd (b1 z hz) (List.lt_irrefl _)
      · exact e

/-! ### views of slots and targets -/
instance Lab.decL : DecidableEq Lab.L := fun a b =>
  if h : a.n = b.n ∧ a.v = b.v then .isTrue (by cases a; cases b; obtain ⟨h1, h2⟩ := h; dsimp only at h1 h2; rw [h1, h2]) else .isFalse fun e => h (by rw [e]; exact ⟨rfl, rfl⟩)
abbrev Po.V := ByteArray × List Lab.L × Int × Int × Bool
abbrev Po.U := ByteArray × List Lab.L
def Po.ky (u : Po.U) : List UInt8 := (Can.key (Lab.bs u.1) u.2).1
def Po.ke (u : Po.U) : Int := (Can.key (Lab.bs u.1) u.2).2
def Po.vu (s : Po.V) : Po.U := (s.1, s.2.1)
def Po.vk (s : Po.V) : List UInt8 := Po.ky (Po.vu s)
def Po.tv (t : Can.T) : Po.U := (t.job, t.ls)
theorem Po.ky_keyB (t : Can.T) : Lab.bs (Can.keyB t) = Po.ky (Po.tv t) := rfl
theorem Po.ke_keyE (t : Can.T) : Can.keyE t = Po.ke (Po.tv t) := rfl
/-- are slots right -/
def Po.okV (q : Option (List UInt8)) (s : Po.V) : Bool := decide (Po.ke (Po.vu s) = 0) && Po.num s.2.2.1 s.2.2.2.1 && (match q with | none => true | some k => decide (k < Po.vk s))
def Po.okFrom : Option (List UInt8) → List Po.V → Bool
  | _, [] => true
  | q, s :: r => Po.okV q s && Po.okFrom (some (Po.vk s)) r
def Po.okVs (l : List Po.V) : Bool := Po.okFrom none l
theorem Po.okFrom_is (l : List Sl) : ∀ q : Option ByteArray, Po.rightFrom q l = Po.okFrom (q.map Lab.bs) (l.map Sl.view) := by
  induction l with
  | nil => intro q; cases q <;> rfl
  | cons s r ih =>
    intro q
    show (Po.ok1 q s && Po.rightFrom (some (Can.keyB s.t)) r) = (Po.okV (q.map Lab.bs) (Sl.view s) && Po.okFrom (some (Po.vk (Sl.view s))) (r.map Sl.view))
    rw [ih]
    congr 1
    cases q <;> rfl
theorem Po.okVs_is (l : List Sl) : Po.right l = Po.okVs (l.map Sl.view) := Po.okFrom_is l none
/-- what is said of right slots -/
theorem Po.okFrom_mem (l : List Po.V) : ∀ q, Po.okFrom q l = true → (∀ s ∈ l, Po.ke (Po.vu s) = 0 ∧ Po.num s.2.2.1 s.2.2.2.1 = true) ∧ (l.map Po.vk).Pairwise (· < ·) ∧ ∀ k, q = some k → ∀ s ∈ l, k < Po.vk s := by
  induction l with
  | nil => intro q _; exact ⟨fun s h => (nomatch h), List.Pairwise.nil, fun k _ s h => (nomatch h)⟩
  | cons s r ih =>
    intro q h
    unfold Po.okFrom at h
    rw [Bool.and_eq_true] at h
    obtain ⟨h1, h2⟩ := h
    obtain ⟨i1, i2, i3⟩ := ih _ h2
    unfold Po.okV at h1
    rw [Bool.and_eq_true, Bool.and_eq_true, decide_eq_true_eq] at h1
    obtain ⟨⟨g1, g2⟩, g3⟩ := h1
    refine ⟨fun x hx => ?_, ?_, fun k hk x hx => ?_⟩
    · rcases List.mem_cons.1 hx with rfl | hx
      · exact ⟨g1, g2⟩
      · exact i1 x hx
    · rw [List.map_cons]
      refine List.pairwise_cons.2 ⟨fun y hy => ?_, i2⟩
      obtain ⟨z, hz, rfl⟩ := List.mem_map.1 hy
      exact i3 _ rfl z hz
    · subst hk
      have g4 : k < Po.vk s := by simpa using g3
      rcases List.mem_cons.1 hx with rfl | hx
      · exact g4
      · exact List.lt_trans g4 (i3 _ rfl x hx)
theorem Po.okFrom_of (l : List Po.V) (h1 : ∀ s ∈ l, Po.ke (Po.vu s) = 0 ∧ Po.num s.2.2.1 s.2.2.2.1 = true) (h2 : (l.map Po.vk).Pairwise (· < ·)) : ∀ q, (∀ k, q = some k → ∀ s ∈ l, k < Po.vk s) → Po.okFrom q l = true := by
  induction l with
  | nil => intro q _; cases q <;> rfl
  | cons s r ih =>
    intro q hq
    rw [List.map_cons] at h2
    obtain ⟨p1, p2⟩ := List.pairwise_cons.1 h2
    unfold Po.okFrom
    rw [ih (fun x hx => h1 x (List.mem_cons_of_mem _ hx)) p2 (some (Po.vk s)) (fun k hk x hx => by
      simp only [Option.some.injEq] at hk
      subst hk
      exact p1 _ (List.mem_map_of_mem hx)), Bool.and_true]
    obtain ⟨e1, e2⟩ := h1 s (List.mem_cons_self ..)
    unfold Po.okV
    rw [e1, e2]
    cases q with
    | none => rfl
    | some k => simpa using hq k rfl s (List.mem_cons_self ..)
theorem Po.okVs_of (l : List Po.V) (h1 : ∀ s ∈ l, Po.ke (Po.vu s) = 0 ∧ Po.num s.2.2.1 s.2.2.2.1 = true) (h2 : (l.map Po.vk).Pairwise (· < ·)) : Po.okVs l = true := Po.okFrom_of l h1 h2 none (fun k h => (nomatch h))
theorem Po.okVs_mem (l : List Po.V) (h : Po.okVs l = true) : (∀ s ∈ l, Po.ke (Po.vu s) = 0 ∧ Po.num s.2.2.1 s.2.2.2.1 = true) ∧ (l.map Po.vk).Pairwise (· < ·) := by
  obtain ⟨h1, h2, _⟩ := Po.okFrom_mem l none h
  exact ⟨h1, h2⟩
/-- keys without error tell their targets -/
theorem Po.ke_zero (u : Po.U) (h : Po.ke u = 0) : Can.job (Lab.bs u.1) = true ∧ Lab.right u.2 = true ∧ Po.ky u = Lab.bs u.1 ++ [254] ++ Can.raw u.2 := by
  unfold Po.ke at h
  unfold Po.ky
  unfold Can.key at h ⊢
  by_cases hj : Can.job (Lab.bs u.1) = true
  · rw [if_pos hj] at h ⊢
    by_cases hr : Lab.right u.2 = true
    · rw [Can.bytes_right _ hr]
      exact ⟨hj, hr, rfl⟩
    · exfalso
      have e : Can.bytes u.2 = _ := if_neg hr
      rw [e] at h
      revert h
      simp
  · rw [if_neg hj] at h
    cases h
theorem Po.ky_inj (u v : Po.U) (hu : Po.ke u = 0) (hv : Po.ke v = 0) (h : Po.ky u = Po.ky v) : u = v := by
  obtain ⟨a1, a2, a3⟩ := Po.ke_zero u hu
  obtain ⟨b1, b2, b3⟩ := Po.ke_zero v hv
  rw [a3, b3] at h
  obtain ⟨e1, e2⟩ := Can.key_inj _ _ _ _ a1 b1 a2 b2 h
  exact Prod.ext e1 e2
theorem Po.ke_n (u : Po.U) (hu : Po.ke u = 0) : u.2.length ≤ 64 := (Lab.right_parts _ (Po.ke_zero u hu).2.1).1

/-! ### what a sync answers -/
def Po.sl (S : List Po.V) (k : List UInt8) : Option Po.V := S.find? fun s => decide (Po.vk s = k)
def Po.tg (T : List Po.U) (k : List UInt8) : Option Po.U := T.find? fun t => decide (Po.ky t = k)
def Po.oS (ev ti : Int) : Option Po.V → Option Po.U → List Po.V
  | none, none => []
  | none, some t => [(t.1, t.2, ev, ti, false)]
  | some s, t => [(s.1, s.2.1, s.2.2.1, s.2.2.2.1, if s.2.2.1 = ev ∧ s.2.2.2.1 = ti ∧ s.2.2.2.2 = false ∧ t.isSome then false else true)]
def Po.oM (ev ti : Int) : Option Po.V → Option Po.U → List (Int × Po.U)
  | none, none => []
  | none, some t => [(1, t.1, t.2)]
  | some s, t => if s.2.2.1 = ev ∧ s.2.2.2.1 = ti ∧ s.2.2.2.2 = false ∧ t.isSome then [] else (if s.2.2.2.2 then [] else [(2, s.1, s.2.1)]) ++ if t.isSome then [(3, s.1, s.2.1)] else []
theorem Po.outS_is (ev ti : Int) (y : Option Sl × Option Can.T) : Po.outS ev ti y = Po.oS ev ti (y.1.map Sl.view) (y.2.map Po.tv) := by
  rcases y with ⟨_ | s, _ | t⟩ <;> rfl
theorem Po.outM_is (ev ti : Int) (y : Option Sl × Option Can.T) : Po.outM ev ti y = Po.oM ev ti (y.1.map Sl.view) (y.2.map Po.tv) := by
  rcases y with ⟨_ | s, _ | t⟩ <;> rfl
def Po.ks (S : List Po.V) (T : List Po.U) : List (List UInt8) := Po.srt (S.map Po.vk ++ T.map Po.ky)
def Po.sS (S : List Po.V) (T : List Po.U) (ev ti : Int) : List Po.V := (Po.ks S T).flatMap fun k => Po.oS ev ti (Po.sl S k) (Po.tg T k)
def Po.sM (S : List Po.V) (T : List Po.U) (ev ti : Int) : List (Int × Po.U) := (Po.ks S T).flatMap fun k => Po.oM ev ti (Po.sl S k) (Po.tg T k)
def Po.okT (T : List Po.U) : Bool := T.all fun t => decide (Po.ke t = 0)
def Po.sync (S : List Po.V) (T : List Po.U) (ev ti : Int) : Int × List Po.V × List (Int × Po.U) :=
  if Po.okVs S = true then (if Po.num ev ti = true then (if Po.okT T = true then (if (Po.sS S T ev ti).length ≤ 3000 then (0, Po.sS S T ev ti, Po.sM S T ev ti) else (5, [], [])) else (351, [], [])) else (2, [], [])) else (350, [], [])
theorem Po.err_is (ts : List Can.T) : Can.err ts = 0 ↔ Po.okT (ts.map Po.tv) = true := by
  induction ts with
  | nil => simp [Can.err, Po.okT]
  | cons t r ih =>
    have e : Po.okT ((t :: r).map Po.tv) = (decide (Po.ke (Po.tv t) = 0) && Po.okT (r.map Po.tv)) := by simp [Po.okT]
    rw [e, Bool.and_eq_true, decide_eq_true_eq, ← ih]
    show (if Can.keyE t = 0 then Can.err r else Can.keyE t) = 0 ↔ _
    rw [← Po.ke_keyE]
    constructor
    · intro h
      by_cases h0 : Can.keyE t = 0
      · rw [if_pos h0] at h; exact ⟨h0, h⟩
      · rw [if_neg h0] at h; exact absurd h h0
    · rintro ⟨h0, h⟩
      rw [if_pos h0]; exact h

/-! ### two rows of pairs in one -/
def Po.AscP (l : List Pr) : Prop := l.Pairwise fun x y => Lab.bs x.k < Lab.bs y.k
theorem Po.mrg_facts (x y : List Pr) (hx : Po.AscP x) (hy : Po.AscP y) (sx : ∀ a ∈ x, a.s ≠ none ∧ a.t = none) (sy : ∀ a ∈ y, a.s = none ∧ a.t ≠ none) :
    Po.AscP (Po.mrg x y) ∧ (∀ k, k ∈ (Po.mrg x y).map (fun a => Lab.bs a.k) ↔ k ∈ x.map (fun a => Lab.bs a.k) ∨ k ∈ y.map (fun a => Lab.bs a.k)) ∧
      ∀ a ∈ Po.mrg x y, (a.s = none → ∀ b ∈ x, b.k ≠ a.k) ∧ (a.t = none → ∀ b ∈ y, b.k ≠ a.k) := by
  have ne : ∀ {a b : Pr}, Lab.bs a.k < Lab.bs b.k → a.k ≠ b.k := fun h e => by rw [e] at h; exact List.lt_irrefl _ h
  have ne' : ∀ {a b : Pr}, Lab.bs a.k < Lab.bs b.k → b.k ≠ a.k := fun h e => by rw [e] at h; exact List.lt_irrefl _ h
  fun_induction Po.mrg x y with
  | case1 y =>
    refine ⟨hy, fun k => by simp, fun a ha => ⟨fun _ b hb => (nomatch hb), fun h => absurd h (sy a ha).2⟩⟩
  | case2 a x =>
    refine ⟨hx, fun k => by simp, fun b hb => ⟨fun h => absurd h (sx b hb).1, fun _ c hc => (nomatch hc)⟩⟩
  | case3 a x b y h ih =>
    obtain ⟨x1, x2⟩ := List.pairwise_cons.1 hx
    obtain ⟨y1, y2⟩ := List.pairwise_cons.1 hy
    obtain ⟨i1, i2, i3⟩ := ih x2 hy (fun a ha => sx a (List.mem_cons_of_mem _ ha)) sy
    have hlt : ∀ c ∈ Po.mrg x (b :: y), Lab.bs a.k < Lab.bs c.k := fun c hc => by
      rcases (i2 (Lab.bs c.k)).1 (List.mem_map_of_mem hc) with h1 | h1
      · obtain ⟨d, hd, e⟩ := List.mem_map.1 h1
        rw [← e]; exact x1 d hd
      · obtain ⟨d, hd, e⟩ := List.mem_map.1 h1
        rw [← e]
        rcases List.mem_cons.1 hd with rfl | hd
        · exact h
        · exact List.lt_trans h (y1 d hd)
    refine ⟨List.pairwise_cons.2 ⟨hlt, i1⟩, fun k => ?_, fun c hc => ?_⟩
    · rw [List.map_cons, List.mem_cons, i2, List.map_cons (l := x), List.mem_cons (l := x.map _)]
      exact or_assoc.symm
    · rcases List.mem_cons.1 hc with rfl | hc'
      · refine ⟨fun h0 => absurd h0 (sx c (List.mem_cons_self ..)).1, fun _ d hd => ?_⟩
        rcases List.mem_cons.1 hd with rfl | hd
        · exact ne' h
        · exact ne' (List.lt_trans h (y1 d hd))
      · refine ⟨fun h0 d hd => ?_, (i3 c hc').2⟩
        rcases List.mem_cons.1 hd with rfl | hd
        · exact ne (hlt c hc')
        · exact (i3 c hc').1 h0 d hd
  | case4 a x b y h1 h2 ih =>
    obtain ⟨x1, x2⟩ := List.pairwise_cons.1 hx
    obtain ⟨y1, y2⟩ := List.pairwise_cons.1 hy
    obtain ⟨i1, i2, i3⟩ := ih hx y2 sx (fun a ha => sy a (List.mem_cons_of_mem _ ha))
    have hlt : ∀ c ∈ Po.mrg (a :: x) y, Lab.bs b.k < Lab.bs c.k := fun c hc => by
      rcases (i2 (Lab.bs c.k)).1 (List.mem_map_of_mem hc) with g1 | g1
      · obtain ⟨d, hd, e⟩ := List.mem_map.1 g1
        rw [← e]
        rcases List.mem_cons.1 hd with rfl | hd
        · exact h2
        · exact List.lt_trans h2 (x1 d hd)
      · obtain ⟨d, hd, e⟩ := List.mem_map.1 g1
        rw [← e]; exact y1 d hd
    refine ⟨List.pairwise_cons.2 ⟨hlt, i1⟩, fun k => ?_, fun c hc => ?_⟩
    · rw [List.map_cons, List.mem_cons, i2, List.map_cons (l := y), List.mem_cons (l := y.map _)]
      exact or_left_comm
    · rcases List.mem_cons.1 hc with rfl | hc'
      · refine ⟨fun _ d hd => ?_, fun h0 => absurd h0 (sy c (List.mem_cons_self ..)).2⟩
        rcases List.mem_cons.1 hd with rfl | hd
        · exact ne' h2
        · exact ne' (List.lt_trans h2 (x1 d hd))
      · refine ⟨(i3 c hc').1, fun h0 d hd => ?_⟩
        rcases List.mem_cons.1 hd with rfl | hd
        · exact ne (hlt c hc')
        · exact (i3 c hc').2 h0 d hd
  | case5 a x b y h1 h2 ih =>
    obtain ⟨x1, x2⟩ := List.pairwise_cons.1 hx
    obtain ⟨y1, y2⟩ := List.pairwise_cons.1 hy
    obtain ⟨i1, i2, i3⟩ := ih x2 y2 (fun a ha => sx a (List.mem_cons_of_mem _ ha)) (fun a ha => sy a (List.mem_cons_of_mem _ ha))
    have hk : a.k = b.k := by
      have h3 : Lab.bs a.k = Lab.bs b.k := Std.le_antisymm (Std.not_lt.1 h2) (Std.not_lt.1 h1)
      exact ByteArray.ext (Array.toList_inj.1 h3)
    have hlt : ∀ c ∈ Po.mrg x y, Lab.bs a.k < Lab.bs c.k := fun c hc => by
      rcases (i2 (Lab.bs c.k)).1 (List.mem_map_of_mem hc) with g1 | g1
      · obtain ⟨d, hd, e⟩ := List.mem_map.1 g1
        rw [← e]; exact x1 d hd
      · obtain ⟨d, hd, e⟩ := List.mem_map.1 g1
        rw [← e, hk]; exact y1 d hd
    refine ⟨List.pairwise_cons.2 ⟨hlt, i1⟩, fun k => ?_, fun c hc => ?_⟩
    · rw [List.map_cons, List.mem_cons, i2, List.map_cons (l := x), List.mem_cons (l := x.map _), List.map_cons (l := y), List.mem_cons (l := y.map _)]
      dsimp only
      rw [hk]
      constructor
      · rintro (h | h | h)
        · exact .inl (.inl h)
        · exact .inl (.inr h)
        · exact .inr (.inr h)
      · rintro ((h | h) | h | h)
        · exact .inl h
        · exact .inr (.inl h)
        · exact .inl h
        · exact .inr (.inr h)
    · rcases List.mem_cons.1 hc with rfl | hc'
      · exact ⟨fun h0 => absurd h0 (sx a (List.mem_cons_self ..)).1, fun h0 => absurd h0 (sy b (List.mem_cons_self ..)).2⟩
      · refine ⟨fun h0 d hd => ?_, fun h0 d hd => ?_⟩
        · rcases List.mem_cons.1 hd with rfl | hd
          · exact ne (hlt c hc')
          · exact (i3 c hc').1 h0 d hd
        · rcases List.mem_cons.1 hd with rfl | hd
          · rw [← hk]; exact ne (hlt c hc')
          · exact (i3 c hc').2 h0 d hd
/-- a row in order, each key once -/
theorem Po.comp_facts (l : List Pr) (h : Pr.Up l) : ∀ i, i ≤ l.length → Po.AscP (Pr.comp l i) ∧ (∀ a ∈ l.take i, ∃ b ∈ Pr.comp l i, b.k = a.k) ∧ (∀ b ∈ Pr.comp l i, b ∈ l.take i)
  | 0, _ => ⟨List.Pairwise.nil, fun a ha => by simp at ha, fun b hb => by cases hb⟩
  | i + 1, hi => by
    obtain ⟨h1, h2, h3⟩ := Po.comp_facts l h i (by omega)
    have hl : i < l.length := by omega
    have ht : l.take (i + 1) = l.take i ++ [l[i]] := by rw [List.take_add_one, List.getElem?_eq_getElem hl]; rfl
    have hup : ∀ b ∈ l.take i, Lab.bs b.k ≤ Lab.bs l[i].k := fun b hb => by
      obtain ⟨j, hj, rfl⟩ := List.getElem_of_mem hb
      rw [List.getElem_take]
      rw [List.length_take] at hj
      exact List.pairwise_iff_getElem.1 h j i (by omega) hl (by omega)
    have hc : Pr.comp l (i + 1) = Pr.comp l i ++ if Pr.kept l i = true then (l[i]?).toList else [] := rfl
    by_cases hk : Pr.kept l i = true
    · rw [if_pos hk, List.getElem?_eq_getElem hl, Option.toList] at hc
      rw [hc, ht]
      refine ⟨List.pairwise_append.2 ⟨h1, List.pairwise_singleton .., fun b hb c hc => ?_⟩, fun a ha => ?_, fun b hb => ?_⟩
      · rw [List.mem_singleton] at hc
        subst hc
        have hb2 := h3 b hb
        have hle := hup b hb2
        rcases Nat.eq_zero_or_pos i with h0 | h0
        · subst h0; simp at hb2
        · rw [Pr.kept_eq h0 hl] at hk
          have hne : ¬ l[i].k = l[i - 1].k := by simpa using hk
          obtain ⟨j, hj, rfl⟩ := List.getElem_of_mem hb2
          rw [List.length_take] at hj
          rw [List.getElem_take] at hle ⊢
          have h4 : Lab.bs l[j].k ≤ Lab.bs l[i - 1].k := by
            by_cases hji : j = i - 1
            · subst hji; exact Std.le_refl _
            · exact List.pairwise_iff_getElem.1 h j (i - 1) (by omega) (by omega) (by omega)
          have h5 : Lab.bs l[i - 1].k ≤ Lab.bs l[i].k := List.pairwise_iff_getElem.1 h (i - 1) i (by omega) hl (by omega)
          rcases Decidable.em (Lab.bs l[j].k < Lab.bs l[i].k) with g | g
          · exact g
          · have g2 := List.not_lt.1 g
            have g3 : Lab.bs l[i].k = Lab.bs l[i - 1].k := Std.le_antisymm (Std.le_trans g2 h4) h5
            exact absurd (ByteArray.ext (Array.toList_inj.1 g3)) hne
      · rcases List.mem_append.1 ha with ha | ha
        · obtain ⟨b, hb, e⟩ := h2 a ha
          exact ⟨b, List.mem_append_left _ hb, e⟩
        · rw [List.mem_singleton] at ha
          exact ⟨l[i], List.mem_append_right _ (by simp), by rw [ha]⟩
      · rcases List.mem_append.1 hb with hb | hb
        · exact List.mem_append_left _ (h3 b hb)
        · exact List.mem_append_right _ hb
    · rw [if_neg hk, List.append_nil] at hc
      rw [hc, ht]
      refine ⟨h1, fun a ha => ?_, fun b hb => List.mem_append_left _ (h3 b hb)⟩
      rcases List.mem_append.1 ha with ha | ha
      · exact h2 a ha
      · rw [List.mem_singleton] at ha
        rcases Nat.eq_zero_or_pos i with h0 | h0
        · subst h0; exact absurd rfl hk
        · rw [Pr.kept_eq h0 hl] at hk
          have he : l[i].k = l[i - 1].k := by simpa using hk
          obtain ⟨b, hb, e⟩ := h2 l[i - 1] (by rw [List.mem_take_iff_getElem]; exact ⟨i - 1, by omega, rfl⟩)
          exact ⟨b, hb, by rw [e, ← he, ha]⟩
end Go.Proofs.Ytpnpgjjbincigaa
namespace Go.Proofs.Ytpnpgjjbincigaa
open Go.RowKit Go.Shelf
set_option linter.unusedVariables false
attribute [local go_sem] Oper.semAt_some

theorem Po.n_of_right {ss : List Sl} (h : Po.right ss = true) (hF : ∀ s ∈ ss, Can.TAny s.t) : ∀ s ∈ ss, s.t.n ≤ 64 := fun s hs => by
  rw [Po.okVs_is] at h
  have h1 := ((Po.okVs_mem _ h).1 (Sl.view s) (List.mem_map_of_mem hs)).1
  have h2 := Po.ke_n _ h1
  have h3 := (hF s hs).2.1
  have : (Po.vu (Sl.view s)).2.length = s.t.ls.length := rfl
  omega
theorem Po.n_of_err {ts : List Can.T} (h : Can.err ts = 0) (hG : ∀ t ∈ ts, Can.TAny t) : ∀ t ∈ ts, t.n ≤ 64 := fun t ht => by
  have h0 := (Po.err_is ts).1 h
  unfold Po.okT at h0
  have h1 := List.all_eq_true.1 h0 (Po.tv t) (List.mem_map_of_mem ht)
  have h2 := Po.ke_n _ (of_decide_eq_true h1)
  have h3 := (hG t ht).2.1
  have : (Po.tv t).2.length = t.ls.length := rfl
  omega
theorem Po.Rows.none (B : Nat) (w : World) : Po.Rows B (.slice none 0 0) (.slice none 0 0) [] [] w :=
  ⟨OwnR.nil _ _ _, fun s h => (nomatch h), OwnR.nil _ _ _, fun s h => (nomatch h), fun s h => (nomatch h)⟩

theorem Po.hav_get {b o : Nat} {ss : List Sl} {a : Pr} (h : a ∈ Po.hav b o ss ss.length) : ∃ s ∈ ss, a.k = Sl.kb s ∧ a.s ≠ none ∧ a.t = none := by
  unfold Po.hav at h
  obtain ⟨i, hi, rfl⟩ := List.mem_map.1 h
  have hi := List.mem_range.1 hi
  refine ⟨ss[i], List.getElem_mem _, ?_, by simp [Po.havAt], rfl⟩
  unfold Po.havAt
  rw [getElem!_pos ss i hi]
theorem Po.hav_keys (b o : Nat) (ss : List Sl) : (Po.hav b o ss ss.length).map (fun a => Lab.bs a.k) = (ss.map Sl.view).map Po.vk := by
  unfold Po.hav
  rw [List.map_map, List.map_map]
  apply List.ext_getElem
  · simp
  · intro i h1 h2
    simp only [List.getElem_map, List.getElem_range, Function.comp]
    have hi : i < ss.length := by simpa using h2
    show Lab.bs (Sl.kb ss[i]!) = _
    rw [getElem!_pos ss i hi]
    rfl
theorem Po.wan_get {b o : Nat} {ts : List Can.T} {a : Pr} (h : a ∈ Po.wan b o ts ts.length) : ∃ t ∈ ts, a.k = Can.keyB t ∧ a.s = none ∧ a.t ≠ none := by
  unfold Po.wan at h
  obtain ⟨i, hi, rfl⟩ := List.mem_map.1 h
  have hi := List.mem_range.1 hi
  refine ⟨ts[i], List.getElem_mem _, ?_, rfl, by simp [Po.wanAt]⟩
  unfold Po.wanAt
  rw [getElem!_pos ts i hi]
theorem Po.wan_of {b o : Nat} {ts : List Can.T} {t : Can.T} (h : t ∈ ts) : ∃ a ∈ Po.wan b o ts ts.length, a.k = Can.keyB t := by
  obtain ⟨i, hi, rfl⟩ := List.getElem_of_mem h
  refine ⟨Po.wanAt b o ts i, List.mem_map_of_mem (List.mem_range.2 hi), ?_⟩
  unfold Po.wanAt
  rw [getElem!_pos ts i hi]
theorem Po.kb_eq {a b : ByteArray} : a = b ↔ Lab.bs a = Lab.bs b := ⟨fun h => by rw [h], fun h => ByteArray.ext (Array.toList_inj.1 h)⟩
/-- what the collected pairs come to -/
theorem Po.made_is {B b o b' o' : Nat} {ss : List Sl} {ts : List Can.T} {w : World} {ev ti : Int} {Y : List Pr} {s2 : List Sl} {m2 : List Mv} (hr : Po.right ss = true) (he : Can.err ts = 0) (hY : Y.Perm (Po.wan b' o' ts ts.length)) (hU : Pr.Up Y)
    (h : Po.Made B ss ts w ev ti (Po.mrg (Po.hav b o ss ss.length) (Pr.comp Y Y.length)) s2 m2) :
    s2.map Sl.view = Po.sS (ss.map Sl.view) (ts.map Po.tv) ev ti ∧ m2.map Mv.view = Po.sM (ss.map Sl.view) (ts.map Po.tv) ev ti := by
  rw [Po.okVs_is] at hr
  have hT := (Po.err_is ts).1 he
  obtain ⟨hS1, hS2⟩ := Po.okVs_mem _ hr
  obtain ⟨c1, c2, c3⟩ := Po.comp_facts Y hU Y.length (Nat.le_refl _)
  rw [List.take_length] at c2 c3
  have hX : Po.AscP (Po.hav b o ss ss.length) := by
    have := hS2
    rw [← Po.hav_keys b o ss] at this
    exact List.pairwise_map.1 this
  obtain ⟨m1, m2', m3⟩ := Po.mrg_facts _ _ hX c1 (fun a ha => by obtain ⟨_, _, _, h1, h2⟩ := Po.hav_get ha; exact ⟨h1, h2⟩) (fun a ha => by obtain ⟨_, _, _, h1, h2⟩ := Po.wan_get (hY.mem_iff.1 (c3 a ha)); exact ⟨h1, h2⟩)
  obtain ⟨ys, hl, hs, hv, hm⟩ := h
  obtain ⟨xs, hxs⟩ : ∃ xs, Po.mrg (Po.hav b o ss ss.length) (Pr.comp Y Y.length) = xs := ⟨_, rfl⟩
  rw [hxs] at hl hs m1 m2' m3
  have hkeys : xs.map (fun a => Lab.bs a.k) = Po.ks (ss.map Sl.view) (ts.map Po.tv) := by
    refine Po.asc_eq _ _ (List.pairwise_map.2 m1) (Po.srt_asc _) fun k => ?_
    unfold Po.ks
    rw [Po.srt_mem, m2', Po.hav_keys, List.mem_append]
    refine or_congr Iff.rfl ?_
    constructor
    · intro hk
      obtain ⟨a, ha, rfl⟩ := List.mem_map.1 hk
      obtain ⟨t, ht, e, _⟩ := Po.wan_get (hY.mem_iff.1 (c3 a ha))
      rw [e]
      exact List.mem_map.2 ⟨Po.tv t, List.mem_map_of_mem ht, rfl⟩
    · intro hk
      obtain ⟨u, hu, rfl⟩ := List.mem_map.1 hk
      obtain ⟨t, ht, rfl⟩ := List.mem_map.1 hu
      obtain ⟨a, ha, e⟩ := Po.wan_of (b := b') (o := o') ht
      obtain ⟨c, hc, e2⟩ := c2 a (hY.mem_iff.2 ha)
      refine List.mem_map.2 ⟨c, hc, ?_⟩
      rw [e2, e]
      rfl
  have hys : ys.map (fun y => (y.1.map Sl.view, y.2.map Po.tv)) = (xs.map (fun a => Lab.bs a.k)).map (fun k => (Po.sl (ss.map Sl.view) k, Po.tg (ts.map Po.tv) k)) := by
    apply List.ext_getElem
    · simp [hl]
    · intro i h1 h2
      simp only [List.getElem_map]
      have i1 : i < xs.length := by simpa using h2
      have i2 : i < ys.length := by simpa using h1
      obtain ⟨g1, g2⟩ := hs i i1 i2
      obtain ⟨n1, n2⟩ := m3 xs[i] (List.getElem_mem _)
      obtain ⟨y, hy⟩ : ∃ y, ys[i] = y := ⟨_, rfl⟩
      obtain ⟨x, hx⟩ : ∃ x, xs[i] = x := ⟨_, rfl⟩
      rw [hy] at g1 g2
      rw [hx] at g1 g2 n1 n2
      rw [hy, hx]
      obtain ⟨y1, y2⟩ := y
      refine Prod.ext ?_ ?_
      · show y1.map Sl.view = Po.sl (ss.map Sl.view) (Lab.bs x.k)
        unfold Po.sl
        cases y1 with
        | none =>
          symm
          rw [Option.map_none, List.find?_eq_none]
          intro s0 hs0
          obtain ⟨s1, hs1, rfl⟩ := List.mem_map.1 hs0
          have hb := n1 g1
          obtain ⟨j, hj, rfl⟩ := List.getElem_of_mem hs1
          have := hb (Po.havAt b o ss j) (List.mem_map_of_mem (List.mem_range.2 hj))
          unfold Po.havAt at this
          rw [getElem!_pos ss j hj] at this
          intro hc
          exact this (Po.kb_eq.2 (of_decide_eq_true hc))
        | some s =>
          obtain ⟨g3, g4, _⟩ := g1
          cases hf : (ss.map Sl.view).find? (fun s => decide (Po.vk s = Lab.bs x.k)) with
          | none =>
            have := List.find?_eq_none.1 hf (Sl.view s) (List.mem_map_of_mem g3)
            refine absurd ?_ this
            rw [← g4]
            simp
            rfl
          | some s' =>
            have h3 := List.find?_some hf
            have h4 := List.mem_of_find?_eq_some hf
            have h5 : Po.vk s' = Po.vk (Sl.view s) := by
              rw [of_decide_eq_true h3, ← g4]; rfl
            obtain ⟨a, ha, e1⟩ := List.getElem_of_mem h4
            obtain ⟨c, hc, e2⟩ := List.getElem_of_mem (List.mem_map_of_mem (f := Sl.view) g3)
            have : a = c := by
              rcases Nat.lt_trichotomy a c with hlt | he | hlt
              · have := List.pairwise_iff_getElem.1 (List.pairwise_map.1 hS2) a c ha hc hlt
                rw [e1, e2, h5] at this
                exact absurd this (List.lt_irrefl _)
              · exact he
              · have := List.pairwise_iff_getElem.1 (List.pairwise_map.1 hS2) c a hc ha hlt
                rw [e1, e2, h5] at this
                exact absurd this (List.lt_irrefl _)
            subst this
            show some (Sl.view s) = some s'
            rw [← e2, e1]
      · show y2.map Po.tv = Po.tg (ts.map Po.tv) (Lab.bs x.k)
        unfold Po.tg
        cases y2 with
        | none =>
          symm
          rw [Option.map_none, List.find?_eq_none]
          intro u hu
          obtain ⟨t, ht, rfl⟩ := List.mem_map.1 hu
          obtain ⟨a, ha, e⟩ := Po.wan_of (b := b') (o := o') ht
          obtain ⟨c, hc, e2⟩ := c2 a (hY.mem_iff.2 ha)
          have := n2 g2 c hc
          intro hcc
          refine this ?_
          rw [e2, e]
          exact Po.kb_eq.2 (of_decide_eq_true hcc)
        | some t =>
          obtain ⟨g3, g4, _⟩ := g2
          cases hf : (ts.map Po.tv).find? (fun t => decide (Po.ky t = Lab.bs x.k)) with
          | none =>
            have := List.find?_eq_none.1 hf (Po.tv t) (List.mem_map_of_mem g3)
            refine absurd ?_ this
            rw [← g4]
            simp
            rfl
          | some u =>
            have h3 := List.find?_some hf
            have h4 := List.mem_of_find?_eq_some hf
            have h5 : Po.ky u = Po.ky (Po.tv t) := by
              rw [of_decide_eq_true h3, ← g4]; rfl
            unfold Po.okT at hT
            have z1 := of_decide_eq_true (List.all_eq_true.1 hT u h4)
            have z2 := of_decide_eq_true (List.all_eq_true.1 hT _ (List.mem_map_of_mem (f := Po.tv) g3))
            rw [Po.ky_inj u (Po.tv t) z1 z2 h5]
            rfl
  constructor
  · rw [hv]
    unfold Po.sS
    rw [← hkeys]
    have e1 : ys.flatMap (Po.outS ev ti) = (ys.map (fun y => (y.1.map Sl.view, y.2.map Po.tv))).flatMap fun z => Po.oS ev ti z.1 z.2 := by
      rw [List.flatMap_map]
      congr 1
      funext y
      exact Po.outS_is ev ti y
    rw [e1, hys, List.flatMap_map]
  · rw [hm]
    unfold Po.sM
    rw [← hkeys]
    have e1 : ys.flatMap (Po.outM ev ti) = (ys.map (fun y => (y.1.map Sl.view, y.2.map Po.tv))).flatMap fun z => Po.oM ev ti z.1 z.2 := by
      rw [List.flatMap_map]
      congr 1
      funext y
      exact Po.outM_is ev ti y
    rw [e1, hys, List.flatMap_map]

set_option maxHeartbeats 1600000 in
set_option maxRecDepth 100000 in
theorem sync_bad (p q : Option Addr) (ss : List Sl) (n c m d : Nat) (ev ti : Int) (hr : Po.right ss = false) (w : World) (hn : ss.length = n) (hA : Po.At p ss w)
    (hF : ∀ s ∈ ss, Can.TAny s.t) (hl : n ≤ 100000) :
    Calls Try.prog 25 #[.slice p n c, .slice q m d, .int .i64 ev, .int .i64 ti] w fun e w' =>
      e = .returned (.tuple #[.slice none 0 0, .slice none 0 0, .int .i64 350]) ∧ Below w.heap.size w w' := by
  have HK := Lib.hid (fun w hA => pkeys_is p ss n c false hr w hn hA hF (by omega))
  have HA := Lib.hid hA
  clear hn hA hF hr
  go_enter Try.func25, Try.ntmps25
  have hb0 : Below w.heap.size w ((w.alloc (.cells #[.int .i64 ev] 3)).alloc (.cells #[.int .i64 ti] 3)) := ((Below.refl _ w).alloc (Nat.le_refl _) _).alloc (by simp) _
  have k6 : ((w.alloc (.cells #[.int .i64 ev] 3)).alloc (.cells #[.int .i64 ti] 3)).heap[w.heap.size]? = some (.cells #[.int .i64 ev] 3) := alloc_kept (alloc_new _ _)
  have k7 : ((w.alloc (.cells #[.int .i64 ev] 3)).alloc (.cells #[.int .i64 ti] 3)).heap[w.heap.size + 1]? = some (.cells #[.int .i64 ti] 3) := by simpa using alloc_new (w.alloc (.cells #[.int .i64 ev] 3)) (.cells #[.int .i64 ti] 3)
  have K6 := Lib.hid k6
  have K7 := Lib.hid k7
  clear k6 k7
  go_wp2_with (go_at_call 54; refine (HK.out _ (HA.out.below hb0 (Nat.le_refl _))).mono ?_)
  first | rintro e w1 v1 rfl hO hb1 | rintro e w1 ⟨⟨v1, rfl, hO⟩, hb1⟩
  have hB1 : Below w.heap.size w w1 := hb0.trans (hb1.mono (by first | omega | (simp; done) | (simp; omega)))
  have c6 : w1.cell? ⟨w.heap.size, 0, none⟩ = some (.int .i64 ev) := by rw [Lib.cell_of_heap (below_kept hb1 K6.out (by first | omega | (simp; done) | (simp; omega)))]; rfl
  have c7 : w1.cell? ⟨w.heap.size + 1, 0, none⟩ = some (.int .i64 ti) := by rw [Lib.cell_of_heap (below_kept hb1 K7.out (by first | omega | (simp; done) | (simp; omega)))]; rfl
  clear hO hb0 hb1
  go_wp2_with fail
  go_ret3
  exact ⟨rfl, hB1.alloc hB1.size _⟩
set_option maxHeartbeats 1600000 in
set_option maxRecDepth 100000 in
theorem sync_arg (p q : Option Addr) (ss : List Sl) (n c m d : Nat) (ev ti : Int) (hr : Po.right ss = true) (hnum : Po.num ev ti = false) (w : World) (hn : ss.length = n) (hA : Po.At p ss w)
    (hF : ∀ s ∈ ss, Can.TAny s.t) (hl : n ≤ 100000) :
    Calls Try.prog 25 #[.slice p n c, .slice q m d, .int .i64 ev, .int .i64 ti] w fun e w' =>
      e = .returned (.tuple #[.slice none 0 0, .slice none 0 0, .int .i64 2]) ∧ Below w.heap.size w w' := by
  have HK := Lib.hid (fun w hA => pkeys_is p ss n c true hr w hn hA hF (by omega))
  have HA := Lib.hid hA
  have HR := Lib.hid (fun w => planR_is ev ti false false hnum w)
  clear hn hA hF hr hnum
  go_enter Try.func25, Try.ntmps25
  have hb0 : Below w.heap.size w ((w.alloc (.cells #[.int .i64 ev] 3)).alloc (.cells #[.int .i64 ti] 3)) := ((Below.refl _ w).alloc (Nat.le_refl _) _).alloc (by simp) _
  have k6 : ((w.alloc (.cells #[.int .i64 ev] 3)).alloc (.cells #[.int .i64 ti] 3)).heap[w.heap.size]? = some (.cells #[.int .i64 ev] 3) := alloc_kept (alloc_new _ _)
  have k7 : ((w.alloc (.cells #[.int .i64 ev] 3)).alloc (.cells #[.int .i64 ti] 3)).heap[w.heap.size + 1]? = some (.cells #[.int .i64 ti] 3) := by simpa using alloc_new (w.alloc (.cells #[.int .i64 ev] 3)) (.cells #[.int .i64 ti] 3)
  have K6 := Lib.hid k6
  have K7 := Lib.hid k7
  clear k6 k7
  go_wp2_with (go_at_call 54; refine (HK.out _ (HA.out.below hb0 (Nat.le_refl _))).mono ?_)
  first | rintro e w1 v1 rfl hO hb1 | rintro e w1 ⟨⟨v1, rfl, hO⟩, hb1⟩
  have hB1 : Below w.heap.size w w1 := hb0.trans (hb1.mono (by first | omega | (simp; done) | (simp; omega)))
  have c6 : w1.cell? ⟨w.heap.size, 0, none⟩ = some (.int .i64 ev) := by rw [Lib.cell_of_heap (below_kept hb1 K6.out (by first | omega | (simp; done) | (simp; omega)))]; rfl
  have c7 : w1.cell? ⟨w.heap.size + 1, 0, none⟩ = some (.int .i64 ti) := by rw [Lib.cell_of_heap (below_kept hb1 K7.out (by first | omega | (simp; done) | (simp; omega)))]; rfl
  clear hO hb0 hb1
  go_wp2_with (go_at_call 56; refine (HR.out _).mono ?_)
  first | rintro e w2 rfl hb2 | rintro e w2 ⟨rfl, hb2⟩
  have hB2 : Below w.heap.size w w2 := (hB1.alloc hB1.size _).trans (hb2.mono (by have := hB1.size; simp; omega))
  go_wp2_with fail
  go_ret3
  exact ⟨rfl, hB2⟩

/-- Sync, of all inputs -/
theorem sync_is (p q : Option Addr) (ss : List Sl) (ts : List Can.T) (n c m d : Nat) (ev ti r : Int) (S : List Po.V) (M : List (Int × Po.U)) (h : Po.sync (ss.map Sl.view) (ts.map Po.tv) ev ti = (r, S, M)) (w : World) (hn : ss.length = n) (hm : ts.length = m) (hA : Po.At p ss w) (hT : Po.TgAt q ts w)
    (hF : ∀ s ∈ ss, Can.TAny s.t) (hG : ∀ t ∈ ts, Can.TAny t) (hl : n ≤ 100000) (hml : m ≤ 100000) :
    Calls Try.prog 25 #[.slice p n c, .slice q m d, .int .i64 ev, .int .i64 ti] w fun e w' =>
      (∃ v1 v2 s2 m2, e = .returned (.tuple #[v1, v2, .int .i64 r]) ∧ Po.Rows w.heap.size v1 v2 s2 m2 w' ∧ s2.map Sl.view = S ∧ m2.map Mv.view = M) ∧ Below w.heap.size w w' := by
  unfold Po.sync at h
  rw [← Po.okVs_is] at h
  by_cases hr : Po.right ss = true
  · rw [if_pos hr] at h
    by_cases hnum : Po.num ev ti = true
    · rw [if_pos hnum] at h
      refine (sync_main p q ss ts n c m d ev ti hr hnum w hn hm hA hT hF hG hl hml (fun s hs => Nat.le_trans (Po.n_of_right hr hF s hs) (by decide)) (fun he t ht => Nat.le_trans (Po.n_of_err he hG t ht) (by decide))).mono ?_
      rintro e w' ⟨⟨v1, v2, er, rfl, hans⟩, hb⟩
      refine ⟨?_, hb⟩
      rcases hans with ⟨h1, rfl, rfl, rfl⟩ | ⟨h1, b, o, b', o', Y, s2, m2, hY, hU, hM, hend⟩
      · rw [if_neg (fun hc => h1 ((Po.err_is ts).2 hc))] at h
        simp only [Prod.mk.injEq] at h
        obtain ⟨rfl, rfl, rfl⟩ := h
        exact ⟨_, _, [], [], rfl, Po.Rows.none _ _, rfl, rfl⟩
      · rw [if_pos ((Po.err_is ts).1 h1)] at h
        obtain ⟨e1, e2⟩ := Po.made_is hr h1 hY hU hM
        rw [← e1, ← e2, List.length_map] at h
        rcases hend with ⟨h2, rfl, rfl, rfl⟩ | ⟨h2, rfl, hR⟩
        · rw [if_neg (by omega)] at h
          simp only [Prod.mk.injEq] at h
          obtain ⟨rfl, rfl, rfl⟩ := h
          exact ⟨_, _, [], [], rfl, Po.Rows.none _ _, rfl, rfl⟩
        · rw [if_pos h2] at h
          simp only [Prod.mk.injEq] at h
          obtain ⟨rfl, rfl, rfl⟩ := h
          exact ⟨v1, v2, s2, m2, rfl, hR, rfl, rfl⟩
    · rw [if_neg hnum] at h
      simp only [Prod.mk.injEq] at h
      obtain ⟨rfl, rfl, rfl⟩ := h
      refine (sync_arg p q ss n c m d ev ti hr (Bool.eq_false_iff.2 hnum) w hn hA hF hl).mono ?_
      rintro e w' ⟨rfl, hb⟩
      exact ⟨⟨_, _, [], [], rfl, Po.Rows.none _ _, rfl, rfl⟩, hb⟩
  · rw [if_neg hr] at h
    simp only [Prod.mk.injEq] at h
    obtain ⟨rfl, rfl, rfl⟩ := h
    refine (sync_bad p q ss n c m d ev ti (Bool.eq_false_iff.2 hr) w hn hA hF hl).mono ?_
    rintro e w' ⟨rfl, hb⟩
    exact ⟨⟨_, _, [], [], rfl, Po.Rows.none _ _, rfl, rfl⟩, hb⟩
end Go.Proofs.Ytpnpgjjbincigaa
namespace Go.Proofs.Ytpnpgjjbincigaa
open Go.RowKit
set_option linter.unusedVariables false

theorem Po.first_ix (f : Nat → Bool) (n : Nat) (q : Bool) (h1 : ∀ k, k < n → f k = true → q = true) (h2 : (∀ j, j < n → f j = false) → q = false) :
    ∃ r : Int, (∀ k, k < n → (∀ j, j < k → f j = false) → f k = true → r = k) ∧ ((∀ j, j < n → f j = false) → r = -1) ∧ decide (0 ≤ r) = q := by
  induction n with
  | zero => exact ⟨-1, fun k hk => by omega, fun _ => rfl, by rw [h2 (fun j hj => by omega)]; rfl⟩
  | succ n ih =>
    by_cases hall : ∀ j, j < n → f j = false
    · cases hn : f n with
      | true =>
        refine ⟨n, fun k hk hj hf => ?_, fun h => ?_, ?_⟩
        · by_cases e : k = n
          · rw [e]
          · rw [hall k (by omega)] at hf; cases hf
        · rw [h n (by omega)] at hn; cases hn
        · rw [h1 n (by omega) hn]; exact decide_eq_true (by omega)
      | false =>
        refine ⟨-1, fun k hk hj hf => ?_, fun _ => rfl, ?_⟩
        · by_cases e : k = n
          · rw [e, hn] at hf; cases hf
          · rw [hall k (by omega)] at hf; cases hf
        · rw [h2 fun j hj => by by_cases e : j = n; (subst e; exact hn); exact hall j (by omega)]; rfl
    · obtain ⟨m, hm⟩ := Classical.not_forall.1 hall
      obtain ⟨hm1, hm2⟩ := Classical.not_imp.1 hm
      have hm3 : f m = true := by simpa using hm2
      obtain ⟨r, e1, e2, e3⟩ := ih (fun k hk => h1 k (by omega)) (fun h => absurd h hall)
      refine ⟨r, fun k hk hj hf => ?_, fun h => absurd (fun j hj => h j (by omega)) hall, e3⟩
      by_cases e : k = n
      · subst e
        rw [hj m hm1] at hm3; cases hm3
      · exact e1 k (by omega) hj hf

set_option maxHeartbeats 1600000 in
theorem equalL_is (p1 p2 : Option Addr) (a b : List Lab.L) (n m c1 c2 : Nat) (r : Bool) (h : r = true ↔ a = b) (w : World) (hn : a.length = n) (hm : b.length = m) (hA : Lab.At p1 a w) (hB : Lab.At p2 b w) (hl : n ≤ maxLen) (hl2 : m ≤ maxLen) :
    Calls Try.prog 78 #[.slice p1 n c1, .slice p2 m c2] w fun e w' => e = .returned (.bool r) ∧ ∃ k, w' = w.drewN k := by
  unfold maxLen at hl hl2
  by_cases hnm : n = m
  · subst hnm
    have HN := Lib.hid hn
    have HM := Lib.hid hm
    have HR1 : Hid ((∀ i (h1 : i < a.length) (h2 : i < b.length), a[i] = b[i]) → r = true) := fun hall => h.2 (List.ext_getElem (hn.trans hm.symm) hall)
    have HR0 : Hid (∀ k (h1 : k < a.length) (h2 : k < b.length), a[k] ≠ b[k] → r = false) := fun k h1 h2 hne => by
      cases r with
      | false => rfl
      | true => exact absurd (by simp [h.1 rfl]) hne
    have q0 : ((n : Int) != (n : Int)) = false := by simp
    clear hn hm h
    go_enter Try.func78, Try.ntmps78
    go_wp2_with fail
    go_loopw [13] (fun i wr => ∃ k : Nat, k ≤ n ∧ i = .int .i64 k ∧ Hid (∀ i (h1 : i < a.length) (h2 : i < b.length), i < k → a[i] = b[i]) ∧ ∃ m, wr = w.drewN m) (fun i _ => n - (intOf i).toNat)
    case atStart => exact ⟨0, Nat.zero_le _, rfl, fun i _ _ hi => absurd hi (by omega), 0, rfl⟩
    case round =>
      obtain ⟨k, hk, rfl, HK, m, rfl⟩ := hrel
      by_cases hlt : k < n
      · have hkl : k < a.length := by rw [HN.out]; exact hlt
        have hkl2 : k < b.length := by rw [HM.out]; exact hlt
        obtain ⟨b1, o1, rfl, hc1⟩ := hA.open k hkl
        obtain ⟨b2, o2, rfl, hc2⟩ := hB.open k hkl2
        have d0 := (hc1 k hkl).1
        have d1 := (hc1 k hkl).2
        have e0 := (hc2 k hkl2).1
        have e1 := (hc2 k hkl2).2
        by_cases hxy : a[k] = b[k]
        · have HK2 : Hid (∀ i (h1 : i < a.length) (h2 : i < b.length), i < k + 1 → a[i] = b[i]) := fun i h1 h2 hi => by
            by_cases e : i = k
            · subst e; exact hxy
            · exact HK.out i h1 h2 (by omega)
          rw [← hxy] at e0 e1
          obtain ⟨x, hx⟩ : ∃ x, a[k] = x := ⟨_, rfl⟩
          rw [hx] at d0 d1 e0 e1
          have hneq := neqLab x
          clear hc1 hc2 hx hA hB hxy HK
          go_wp2_with fail
          go_quiet (fail)
          go_wp2_with fail
          go_roundw
          case rel => exact ⟨k + 1, by omega, by go_num, HK2, _, rfl⟩
          case measure => simp [intOf]; omega
        · have hneq := fun w => neqLab2 _ _ hxy w
          obtain rfl := HR0.out k hkl hkl2 hxy
          obtain ⟨x, hx⟩ : ∃ x, a[k] = x := ⟨_, rfl⟩
          obtain ⟨y, hy⟩ : ∃ y, b[k] = y := ⟨_, rfl⟩
          rw [hx] at d0 d1 hneq
          rw [hy] at e0 e1 hneq
          clear hc1 hc2 hx hy hA hB hxy HK HR0 HR1
          go_wp2_with fail
          go_quiet (fail)
          go_wp2_with fail
          go_ret
          exact ⟨rfl, _, by rw [World.drewN_drewN]⟩
      · obtain rfl := HR1.out (fun i h1 h2 => HK.out i h1 h2 (by have := HN.out; omega))
        have n2 : (n : Int) ≤ (k : Int) := by omega
        clear HK HR0 HR1 hA hB
        go_wp2_with fail
        go_ret
        exact ⟨rfl, _, rfl⟩
  · have q0 : ((n : Int) != (m : Int)) = true := by simp; omega
    obtain rfl : r = false := by
      cases r with
      | false => rfl
      | true => exact absurd (by rw [← hn, ← hm, h.1 rfl]) hnm
    clear hn hm h hA hB
    go_enter Try.func78, Try.ntmps78
    go_wp2_with fail
    go_ret
    exact ⟨rfl, 0, rfl⟩

/-- a target in a block -/
def Po.Box (bx : Nat) (t : Can.T) (w : World) : Prop := w.heap[bx]? = some (.cells #[.string t.job, .slice t.p t.n t.c] 29)
set_option maxHeartbeats 1600000 in
theorem find1_is (s : Sl) (t : Can.T) (bx : Nat) (r : Bool) (h : r = true ↔ Po.vu (Sl.view s) = Po.tv t) (w : World) (hb : Po.Box bx t w) (hs : s.t.ls.length = s.t.n) (ht : t.ls.length = t.n) (hA : Lab.At s.t.p s.t.ls w) (hB : Lab.At t.p t.ls w) (hl : s.t.n ≤ maxLen) (hl2 : t.n ≤ maxLen) :
    Calls Try.prog 77 #[.agg #[.string s.t.job, .slice s.t.p s.t.n s.t.c, .int .i64 s.ev, .int .i64 s.ti, .bool s.en], .pointer (some ⟨bx, 0, none⟩)] w fun e w' => e = .returned (.bool r) ∧ Below w.heap.size w w' := by
  have hlt := lt_of_heap hb
  obtain ⟨⟨j, p, n, c, ls⟩, ev, ti, en⟩ := s
  obtain ⟨i, p2, m, c2, ls2⟩ := t
  dsimp only at hs ht hA hB hl hl2 ⊢
  have h' : r = true ↔ (j = i ∧ ls = ls2) := by
    rw [h]
    simp [Po.vu, Sl.view, Po.tv]
  have hb2 : (w.alloc (.cells #[.string j, .slice p n c, .int .i64 ev, .int .i64 ti, .bool en] 33)).heap[bx]? = some (.cells #[.string i, .slice p2 m c2] 29) := alloc_kept hb
  have c0 : w.cell? ⟨bx, 0, none⟩ = some (.string i) := by rw [Lib.cell_of_heap hb]; rfl
  have c1 : w.cell? ⟨bx, 1, none⟩ = some (.slice p2 m c2) := by rw [Lib.cell_of_heap hb]; rfl
  by_cases hij : j = i
  · subst hij
    have q1 : (j.toList == j.toList) = true := by simp
    have HE := Lib.hid (fun w hA hB => equalL_is p p2 ls ls2 n m c c2 r (by rw [h']; simp) w hs ht hA hB hl hl2)
    have HA := Lib.hid (hA.alloc (.cells #[.string j, .slice p n c, .int .i64 ev, .int .i64 ti, .bool en] 33))
    have HB := Lib.hid (hB.alloc (.cells #[.string j, .slice p n c, .int .i64 ev, .int .i64 ti, .bool en] 33))
    clear h h' hs ht hl hl2 hA hB hb hb2
    go_enter Try.func77, Try.ntmps77
    go_wp2_with (go_at_call 78; refine (HE.out _ HA.out HB.out).mono ?_)
    first | rintro e w1 rfl k rfl | rintro e w1 k rfl rfl | rintro e w1 ⟨rfl, k, rfl⟩
    go_wp2_with fail
    go_ret
    exact ⟨rfl, below_drewN ((Below.refl _ _).alloc (Nat.le_refl _) _) k⟩
  · obtain rfl : r = false := by cases r with | false => rfl | true => exact absurd (h'.1 rfl).1 hij
    have q1 : (j.toList == i.toList) = false := by
      rw [Lab.bytes_beq]
      exact decide_eq_false fun e => hij (Lab.bs_inj e)
    clear h h' hs ht hl hl2 hA hB hij hb hb2
    go_enter Try.func77, Try.ntmps77
    go_wp2_with fail
    go_ret
    exact ⟨rfl, (Below.refl _ _).alloc (Nat.le_refl _) _⟩

set_option maxHeartbeats 1600000 in
set_option maxRecDepth 100000 in
theorem idxS_is (p : Option Addr) (l : List Sl) (n c : Nat) (bx : Nat) (f : Nat → Bool) (r : Int) (w : World) (hn : l.length = n) (hA : Po.At p l w) (hl : n ≤ 1000000)
    (HG : ∀ i (h : i < l.length) w', Below w.heap.size w w' → Calls Try.prog 77 #[.agg #[.string l[i].t.job, .slice l[i].t.p l[i].t.n l[i].t.c, .int .i64 l[i].ev, .int .i64 l[i].ti, .bool l[i].en], .pointer (some ⟨bx, 0, none⟩)] w' fun e w'' => e = .returned (.bool (f i)) ∧ Below w'.heap.size w' w'')
    (h1 : ∀ k, k < n → (∀ j, j < k → f j = false) → f k = true → r = k) (h2 : (∀ j, j < n → f j = false) → r = -1) :
    Calls Try.prog 76 #[.slice p n c, .func (.func 77) #[] #[.pointer (some ⟨bx, 0, none⟩)]] w fun e w' => e = .returned (.int .i64 r) ∧ Below w.heap.size w w' := by
  have HN := Lib.hid hn
  have HA := Lib.hid hA
  have HG := Lib.hid HG
  have H1 := Lib.hid h1
  have H2 := Lib.hid h2
  clear hn hA h1 h2
  go_enter Try.func76, Try.ntmps76
  go_wp2_with fail
  go_loopw [8] (fun i wr => ∃ k : Nat, k ≤ n ∧ i = .int .i64 (k : Int) ∧ Hid (∀ j, j < k → f j = false) ∧ Hid (Below w.heap.size w wr)) (fun i _ => n - (intOf i).toNat)
  case atStart => exact ⟨0, Nat.zero_le _, rfl, fun j hj => absurd hj (Nat.not_lt_zero _), Below.refl _ _⟩
  case round =>
    obtain ⟨k, hk, rfl, HF, HB⟩ := hrel
    by_cases hlt : k < n
    · have hkl : k < l.length := by rw [HN.out]; exact hlt
      obtain ⟨b, o, rfl, hc⟩ := HA.out.cells (by omega)
      obtain ⟨d0, d1, d2, d3, d4⟩ := hc k hkl
      have hb := World.block_lt_of_cell? _ _ d0
      replace d0 := (HB.out.cell (p := ⟨b, o + k * 5, none⟩) hb).trans d0
      replace d1 := (HB.out.cell (p := ⟨b, o + k * 5 + 1, none⟩) hb).trans d1
      replace d2 := (HB.out.cell (p := ⟨b, o + k * 5 + 2, none⟩) hb).trans d2
      replace d3 := (HB.out.cell (p := ⟨b, o + k * 5 + 3, none⟩) hb).trans d3
      replace d4 := (HB.out.cell (p := ⟨b, o + k * 5 + 4, none⟩) hb).trans d4
      have HX := Lib.hid (HG.out k hkl wr HB.out)
      obtain ⟨x, hx⟩ : ∃ x, l[k] = x := ⟨_, rfl⟩
      obtain ⟨bq, hbq⟩ : ∃ bq, f k = bq := ⟨_, rfl⟩
      have HBQ := Lib.hid hbq
      rw [hx] at d0 d1 d2 d3 d4
      rw [hx, hbq] at HX
      have n1 : (0 : Int) ≤ (k : Int) := by omega
      have n2 : (k : Int) < (n : Int) := by omega
      clear hx hc hbq
      go_wp2_with (go_at_call 77; refine HX.out.mono ?_)
      first | rintro e w3 rfl hb3 | rintro e w3 ⟨rfl, hb3⟩
      have hb4 : Below w.heap.size w w3 := HB.out.trans (hb3.mono HB.out.size)
      clear hb3
      cases bq
      · go_wp2_with fail
        go_roundw
        case rel => exact ⟨k + 1, by omega, by go_num, (fun j hj => by by_cases e : j = k; (subst e; exact HBQ.out); exact HF.out j (by omega)), hb4⟩
        case measure => simp [intOf]; omega
      · obtain rfl := H1.out k hlt HF.out HBQ.out
        go_wp2_with fail
        go_ret
        exact ⟨rfl, hb4⟩
    · have n2 : (n : Int) ≤ (k : Int) := by omega
      obtain rfl := H2.out (fun j hj => HF.out j (by omega))
      go_wp2_with fail
      go_ret
      exact ⟨rfl, HB.out⟩

/-- the first slot of a target -/
def Po.fx (S : List Po.V) (u : Po.U) : Option Nat := S.findIdx? fun s => decide (Po.vu s = u)
theorem Po.fx_facts (S : List Po.V) (u : Po.U) : (∀ i, Po.fx S u = some i → ∃ h : i < S.length, Po.vu S[i] = u ∧ ∀ j (hj : j < i), Po.vu (S[j]'(by omega)) ≠ u) ∧ (Po.fx S u = none → ∀ s ∈ S, Po.vu s ≠ u) := by
  constructor
  · intro i h
    obtain ⟨h1, h2, h3⟩ := List.findIdx?_eq_some_iff_getElem.1 h
    exact ⟨h1, of_decide_eq_true h2, fun j hj e => h3 j hj (decide_eq_true e)⟩
  · intro h s hs
    have := List.findIdx?_eq_none_iff.1 h s hs
    simpa using this
def Po.find (S : List Po.V) (u : Po.U) : Int × Bool := match Po.fx S u with
  | some i => (i, true)
  | none => (0, false)
set_option maxHeartbeats 1600000 in
theorem find_is (p : Option Addr) (ss : List Sl) (t : Can.T) (n c : Nat) (i : Int) (q : Bool) (h : Po.find (ss.map Sl.view) (Po.tv t) = (i, q)) (w : World) (hn : ss.length = n) (hA : Po.At p ss w) (hB : Lab.At t.p t.ls w) (hF : ∀ s ∈ ss, s.t.ls.length = s.t.n ∧ s.t.n ≤ maxLen) (ht : t.ls.length = t.n) (ht2 : t.n ≤ maxLen) (hl : n ≤ 1000000) :
    Calls Try.prog 45 #[.slice p n c, .agg #[.string t.job, .slice t.p t.n t.c]] w fun e w' => e = .returned (.tuple #[.int .i64 i, .bool q]) ∧ Below w.heap.size w w' := by
  obtain ⟨r, h1, h2, hi, hq⟩ : ∃ r : Int, (∀ k, k < n → (∀ j, j < k → (fun j => decide (((ss.map Sl.view)[j]?).map Po.vu = some (Po.tv t))) j = false) → (fun j => decide (((ss.map Sl.view)[j]?).map Po.vu = some (Po.tv t))) k = true → r = k) ∧ ((∀ j, j < n → (fun j => decide (((ss.map Sl.view)[j]?).map Po.vu = some (Po.tv t))) j = false) → r = -1) ∧
      max r 0 = i ∧ decide (r ≥ 0) = q := by
    obtain ⟨f1, f2⟩ := Po.fx_facts (ss.map Sl.view) (Po.tv t)
    unfold Po.find at h
    cases hx : Po.fx (ss.map Sl.view) (Po.tv t) with
    | none =>
      rw [hx] at h
      simp only [Prod.mk.injEq] at h
      obtain ⟨rfl, rfl⟩ := h
      refine ⟨-1, fun k hk _ hf => ?_, fun _ => rfl, rfl, rfl⟩
      exfalso
      have hk2 : k < (ss.map Sl.view).length := by rw [List.length_map, hn]; exact hk
      have := of_decide_eq_true hf
      rw [List.getElem?_eq_getElem hk2] at this
      exact f2 hx _ (List.getElem_mem hk2) (by simpa using this)
    | some a =>
      rw [hx] at h
      simp only [Prod.mk.injEq] at h
      obtain ⟨rfl, rfl⟩ := h
      obtain ⟨g1, g2, g3⟩ := f1 a hx
      have g4 : a < n := by rw [List.length_map, hn] at g1; exact g1
      have ga : decide (((ss.map Sl.view)[a]?).map Po.vu = some (Po.tv t)) = true := by
        rw [List.getElem?_eq_getElem g1, Option.map_some, g2]; simp
      refine ⟨a, fun k hk hj hf => ?_, fun hall => ?_, by omega, decide_eq_true (by omega)⟩
      · have hk2 : k < (ss.map Sl.view).length := by rw [List.length_map, hn]; exact hk
        have hf2 := of_decide_eq_true hf
        rw [List.getElem?_eq_getElem hk2, Option.map_some, Option.some.injEq] at hf2
        rcases Nat.lt_trichotomy a k with hlt | he | hlt
        · have := hj a hlt
          dsimp only at this
          rw [ga] at this; cases this
        · rw [he]
        · exact absurd hf2 (g3 k hlt)
      · have := hall a g4
        dsimp only at this
        rw [ga] at this; cases this
  have hb0 : Below w.heap.size w (w.alloc (.cells #[.string t.job, .slice t.p t.n t.c] 29)) := (Below.refl _ _).alloc (Nat.le_refl _) _
  have HI := Lib.hid (idxS_is p ss n c w.heap.size (fun j => decide (((ss.map Sl.view)[j]?).map Po.vu = some (Po.tv t))) r _ hn (hA.below hb0 (Nat.le_refl _)) hl (fun i hi w' hb' => by
    have hw := hb0.trans (hb'.mono (by simp))
    refine find1_is ss[i] t w.heap.size _ ?_ w' ?_ (hF _ (List.getElem_mem _)).1 ht (((hA.2 _ (List.getElem_mem _))).below hw (Nat.le_refl _)) (hB.below hw (Nat.le_refl _)) (hF _ (List.getElem_mem _)).2 ht2
    · rw [decide_eq_true_eq, List.getElem?_map, List.getElem?_eq_getElem hi]
      simp
    · exact below_kept hb' (alloc_new w _) (by simp)) h1 h2)
  have q2 : decide (r ≥ 0) = q := hq
  have HQ1 : Hid (max r 0 = i) := hi
  obtain ⟨j, tp, tn, tc, tl⟩ := t
  dsimp only at HI ⊢
  have HB0 := Lib.hid hb0
  clear h1 h2 hn hA hB hF h hq hi hb0 ht
  go_enter Try.func45, Try.ntmps45
  go_wp2_with (go_at_call 76; refine HI.out.mono ?_)
  first | rintro e w3 rfl hb3 | rintro e w3 ⟨rfl, hb3⟩
  go_wp2_with fail
  go_ret2
  exact ⟨by rw [← HQ1.out]; rfl, HB0.out.trans (hb3.mono (by simp))⟩

set_option maxHeartbeats 1600000 in
theorem pright_is (p : Option Addr) (ss : List Sl) (n c : Nat) (b : Bool) (h : Po.okVs (ss.map Sl.view) = b) (w : World) (hn : ss.length = n) (hA : Po.At p ss w) (hF : ∀ s ∈ ss, Can.TAny s.t) (hl : n ≤ 1000000) :
    Calls Try.prog 23 #[.slice p n c] w fun e w' => e = .returned (.bool b) ∧ Below w.heap.size w w' := by
  have HK := Lib.hid (pkeys_is p ss n c b (by rw [Po.okVs_is]; exact h) w hn hA hF hl)
  clear h hn hA hF
  go_enter Try.func23, Try.ntmps23
  go_wp2_with (go_at_call 54; refine HK.out.mono ?_)
  first | rintro e w1 v1 rfl hO hb1 | rintro e w1 ⟨⟨v1, rfl, hO⟩, hb1⟩
  clear hO
  go_wp2_with fail
  go_ret
  exact ⟨rfl, hb1⟩
end Go.Proofs.Ytpnpgjjbincigaa
namespace Go.Proofs.Ytpnpgjjbincigaa
open Go.RowKit
set_option linter.unusedVariables false

/-- the targets of the slots that run -/
def Po.runs (S : List Po.V) : List Po.U := (S.filter fun s => !s.2.2.2.2).map Po.vu
theorem Po.runs_take (S : List Po.V) (k : Nat) (h : k < S.length) : Po.runs (S.take (k + 1)) = if S[k].2.2.2.2 = true then Po.runs (S.take k) else Po.runs (S.take k) ++ [Po.vu S[k]] := by
  unfold Po.runs
  rw [List.take_succ_eq_append_getElem h, List.filter_append, List.map_append]
  cases hb : S[k].2.2.2.2 <;> simp [hb]

set_option maxHeartbeats 1600000 in
set_option maxRecDepth 100000 in
theorem running_is (p : Option Addr) (ss : List Sl) (n c : Nat) (w : World) (hn : ss.length = n) (hA : Po.At p ss w) (hF : ∀ s ∈ ss, s.t.ls.length = s.t.n ∧ s.t.n ≤ 4398046511104) (hl : n ≤ 1000000) :
    Calls Try.prog 21 #[.slice p n c] w fun e w' => (∃ v ts, e = .returned v ∧ OwnTs w.heap.size v ts w' ∧ ts.map Po.tv = Po.runs (ss.map Sl.view)) ∧ Below w.heap.size w w' := by
  have HN := Lib.hid hn
  have HA := Lib.hid hA
  have HF := Lib.hid hF
  have HT := Lib.hid (fun k h => Po.runs_take (ss.map Sl.view) k h)
  clear hn hA hF
  go_enter Try.func21, Try.ntmps21
  go_wp2_with fail
  go_loopw [3, 8] (fun v i wr => ∃ (k : Nat) (ts : List Can.T), k ≤ n ∧ i = .int .i64 (k : Int) ∧ OwnTs w.heap.size v ts wr ∧ Hid (ts.map Po.tv = Po.runs ((ss.map Sl.view).take k)) ∧ Hid (ts.length ≤ k) ∧ Hid (Below w.heap.size w wr)) (fun _ i _ => n - (intOf i).toNat)
  case atStart => exact ⟨0, [], Nat.zero_le _, rfl, OwnTs.nil _ _, rfl, Nat.zero_le _, Below.refl _ _⟩
  case round =>
    obtain ⟨wj, rfl⟩ : ∃ wo : World, wo = wr := ⟨_, rfl⟩
    obtain ⟨k, ts, hk, rfl, hown, HV, HL, HB⟩ := hrel
    by_cases hlt : k < n
    · have hkl : k < ss.length := by rw [HN.out]; exact hlt
      obtain ⟨b, o, rfl, hc⟩ := (HA.out).cells (by omega)
      obtain ⟨d0, d1, d2, d3, d4⟩ := hc k hkl
      have hb := World.block_lt_of_cell? _ _ d0
      replace d0 := (HB.out.cell (p := ⟨b, o + k * 5, none⟩) hb).trans d0
      replace d1 := (HB.out.cell (p := ⟨b, o + k * 5 + 1, none⟩) hb).trans d1
      replace d2 := (HB.out.cell (p := ⟨b, o + k * 5 + 2, none⟩) hb).trans d2
      replace d3 := (HB.out.cell (p := ⟨b, o + k * 5 + 3, none⟩) hb).trans d3
      replace d4 := (HB.out.cell (p := ⟨b, o + k * 5 + 4, none⟩) hb).trans d4
      have hls := (HA.out.2 ss[k] (List.getElem_mem _)).below HB.out (Nat.le_refl _)
      obtain ⟨f1, f2⟩ := HF.out ss[k] (List.getElem_mem _)
      have hst := HT.out k (by rw [List.length_map]; exact hkl)
      rw [← HV.out, List.getElem_map] at hst
      obtain ⟨s, hs⟩ : ∃ s, ss[k] = s := ⟨_, rfl⟩
      rw [hs] at d0 d1 d2 d3 d4 hls f1 f2 hst
      obtain ⟨⟨sj, sp, sn, sc, sl⟩, ev, ti, en⟩ := s
      dsimp only at d0 d1 d2 d3 d4 hls f1 f2
      have HC := Lib.hid (fun w hA => copiedT_is sj sp sl sn sc w f1 hA f2)
      have hsz := HB.out.size
      have n1 : (0 : Int) ≤ (k : Int) := by omega
      have n2 : (k : Int) < (n : Int) := by omega
      have hll := HL.out
      clear hs hc HV
      cases en
      · have HST : Hid (Po.runs ((ss.map Sl.view).take (k + 1)) = ts.map Po.tv ++ [(sj, sl)]) := hst
        have hown2 := hown.alloc (.cells #[.string sj, .slice sp sn sc, .int .i64 ev, .int .i64 ti, .bool false] 33)
        have hb2 := HB.out.alloc hsz (.cells #[.string sj, .slice sp sn sc, .int .i64 ev, .int .i64 ti, .bool false] 33)
        have hls2 := hls.alloc (.cells #[.string sj, .slice sp sn sc, .int .i64 ev, .int .i64 ti, .bool false] 33)
        clear hst hls
        go_wp2_with (go_at_call 51; refine (HC.out _ hls2).mono ?_)
        first | rintro e w3 q d rfl hq hb3 | rintro e w3 ⟨⟨q, d, rfl, hq⟩, hb3⟩
        have hb4 : Below w.heap.size w w3 := hb2.trans (hb3.mono (by omega))
        have hown3 := hown2.below hb3 (by simp)
        have hq2 : OwnT w.heap.size ⟨sj, q, sn, d, sl⟩ w3 := hq.lift (by first | omega | (simp; omega))
        clear hq hown2 hb3 hb2
        go_wp2_with (at_builtin; refine wpList_pushTg 23 Try.underlying23 rfl _ _ rfl w.heap.size _ ts w3 rfl (by exact hown3) ⟨sj, q, sn, d, sl⟩ (by exact hq2.1) (by exact hq2.2) _ _ rfl _ rfl rfl ?c1 ?c2 ?_)
        case c1 => omega
        case c2 => exact hb4.size
        intro v' w4 hown' hg
        have hb5 : Below w.heap.size w w4 := (hb4.alloc hb4.size _).grown hg (by have := hb4.size; simp; omega) (fun j hj => (World.ownsRow.lt hown3.1 j hj).1)
        go_wp2_with fail
        go_roundw
        case rel => exact ⟨k + 1, ts ++ [⟨sj, q, sn, d, sl⟩], by omega, by go_num, hown', (by show _ = _; rw [HST.out, List.map_append]; rfl), (by show _ ≤ _; rw [List.length_append, List.length_singleton]; exact Nat.succ_le_succ hll), hb5⟩
        case measure => simp [intOf]; omega
      · have HST : Hid (Po.runs ((ss.map Sl.view).take (k + 1)) = ts.map Po.tv) := hst
        have hown2 := hown.alloc (.cells #[.string sj, .slice sp sn sc, .int .i64 ev, .int .i64 ti, .bool true] 33)
        have hb2 := HB.out.alloc hsz (.cells #[.string sj, .slice sp sn sc, .int .i64 ev, .int .i64 ti, .bool true] 33)
        clear hst hls
        go_wp2_with fail
        go_roundw
        case rel => exact ⟨k + 1, ts, by omega, by go_num, hown2, HST.out.symm, (by show _ ≤ _; omega), hb2⟩
        case measure => simp [intOf]; omega
    · have n2 : (n : Int) ≤ (k : Int) := by omega
      have hV := HV.out
      rw [List.take_of_length_le (by rw [List.length_map, HN.out]; omega)] at hV
      go_wp2_with fail
      go_ret
      exact ⟨⟨_, ts, rfl, hown, hV⟩, HB.out⟩

/-- what End answers -/
def Po.endS (S : List Po.V) (u : Po.U) : Int × List Po.V :=
  if Po.okVs S = true then (match Po.fx S u with
    | some i => if (S[i]?).any (fun s => s.2.2.2.2) = true then (0, S.eraseIdx i) else (6, [])
    | none => (6, [])) else (350, [])
theorem Po.erase_take (S : List Po.V) (i k : Nat) (h : k < S.length) : (S.take (k + 1)).eraseIdx i = if k = i then (S.take k).eraseIdx i else (S.take k).eraseIdx i ++ [S[k]] := by
  rw [List.take_succ_eq_append_getElem h]
  have hl : (S.take k).length = k := by rw [List.length_take]; omega
  split
  · rename_i e
    subst e
    rw [List.eraseIdx_append_of_length_le (by rw [hl]; exact Nat.le_refl _), hl, Nat.sub_self, List.eraseIdx_of_length_le (l := S.take k) (by rw [hl]; exact Nat.le_refl _)]
    simp
  · rename_i e
    rcases Nat.lt_or_ge i k with g | g
    · rw [List.eraseIdx_append_of_lt_length (by rw [hl]; exact g)]
    · rw [List.eraseIdx_append_of_length_le (by rw [hl]; exact g), hl, List.eraseIdx_of_length_le (l := S.take k) (by rw [hl]; exact g), List.eraseIdx_of_length_le (by simp; omega)]

set_option maxHeartbeats 3200000 in
set_option maxRecDepth 100000 in
theorem pend_is (p : Option Addr) (ss : List Sl) (t : Can.T) (n c : Nat) (er : Int) (S : List Po.V) (h : Po.endS (ss.map Sl.view) (Po.tv t) = (er, S)) (w : World) (hn : ss.length = n) (hA : Po.At p ss w) (hB : Lab.At t.p t.ls w) (hF : ∀ s ∈ ss, Can.TAny s.t) (hG : Can.TAny t) (hl : n ≤ 100000) :
    Calls Try.prog 18 #[.slice p n c, .agg #[.string t.job, .slice t.p t.n t.c]] w fun e w' =>
      (∃ v vm s2, e = .returned (.tuple #[v, .int .i64 er]) ∧ Po.Rows w.heap.size v vm s2 [] w' ∧ s2.map Sl.view = S) ∧ Below w.heap.size w w' := by
  obtain ⟨r, hr⟩ : ∃ r, Po.okVs (ss.map Sl.view) = r := ⟨_, rfl⟩
  obtain ⟨⟨i, q⟩, hf⟩ : ∃ x, Po.find (ss.map Sl.view) (Po.tv t) = x := ⟨_, rfl⟩
  have HR := Lib.hid (fun w hA => pright_is p ss n c r hr w hn hA hF (by omega))
  have HFD := Lib.hid (fun w hA hB => find_is p ss t n c i q hf w hn hA hB (fun s hs => ⟨(hF s hs).2.1, (hF s hs).2.2.2.2⟩) hG.2.1 hG.2.2.2.2 (by omega))
  have hb0 : Below w.heap.size w (w.alloc (.cells #[.string t.job, .slice t.p t.n t.c] 29)) := (Below.refl _ _).alloc (Nat.le_refl _) _
  have hk0 := alloc_new w (.cells #[.string t.job, .slice t.p t.n t.c] 29)
  have HA := Lib.hid hA
  have HB := Lib.hid hB
  have HN := Lib.hid hn
  have HF := Lib.hid hF
  unfold Po.endS at h
  rw [hr] at h
  obtain ⟨j, tp, tn, tc, tl⟩ := t
  dsimp only at hb0 hk0 HFD HB ⊢
  cases r with
  | false =>
    rw [if_neg (by simp)] at h
    simp only [Prod.mk.injEq] at h
    obtain ⟨rfl, rfl⟩ := h
    clear hn hA hB hF hG hr hf
    go_enter Try.func18, Try.ntmps18
    go_wp2_with (go_at_call 23; refine (HR.out _ (HA.out.below hb0 (Nat.le_refl _))).mono ?_)
    first | rintro e w1 rfl hb1 | rintro e w1 ⟨rfl, hb1⟩
    go_wp2_with fail
    go_ret2
    exact ⟨⟨_, _, [], rfl, Po.Rows.none _ _, rfl⟩, hb0.trans (hb1.mono (by simp))⟩
  | true =>
    rw [if_pos rfl] at h
    have hE : Hid (Po.right ss = true) := by show _ = _; rw [Po.okVs_is]; exact hr
    have HN64 := Lib.hid (Po.n_of_right hE.out hF)
    have hc : (q = false ∧ er = 6 ∧ S = []) ∨ ∃ a : Nat, ∃ ha : a < ss.length, q = true ∧ i = (a : Int) ∧ ((ss[a].en = false ∧ er = 6 ∧ S = []) ∨ (ss[a].en = true ∧ er = 0 ∧ S = (ss.map Sl.view).eraseIdx a)) := by
      unfold Po.find at hf
      cases hx : Po.fx (ss.map Sl.view) (Po.tv ⟨j, tp, tn, tc, tl⟩) with
      | none =>
        rw [hx] at h hf
        simp only [Prod.mk.injEq] at h hf
        exact .inl ⟨hf.2.symm, h.1.symm, h.2.symm⟩
      | some a =>
        rw [hx] at h hf
        simp only [Prod.mk.injEq] at hf
        obtain ⟨g1, _, _⟩ := (Po.fx_facts _ _).1 a hx
        rw [List.length_map] at g1
        refine .inr ⟨a, g1, hf.2.symm, hf.1.symm, ?_⟩
        have e1 : ((ss.map Sl.view)[a]?).any (fun s => s.2.2.2.2) = ss[a].en := by
          rw [List.getElem?_map, List.getElem?_eq_getElem g1]; rfl
        dsimp only at h
        rw [e1] at h
        cases hb : ss[a].en with
        | false =>
          rw [hb, if_neg (by simp)] at h
          simp only [Prod.mk.injEq] at h
          exact .inl ⟨rfl, h.1.symm, h.2.symm⟩
        | true =>
          rw [hb, if_pos rfl] at h
          simp only [Prod.mk.injEq] at h
          exact .inr ⟨rfl, h.1.symm, h.2.symm⟩
    clear h hf hn hA hB hF hG hr
    rcases hc with ⟨rfl, rfl, rfl⟩ | ⟨a, ha, rfl, rfl, ⟨hen, rfl, rfl⟩ | ⟨hen, rfl, rfl⟩⟩
    · go_enter Try.func18, Try.ntmps18
      go_wp2_with (go_at_call 23; refine (HR.out _ (HA.out.below hb0 (Nat.le_refl _))).mono ?_)
      first | rintro e w1 rfl hb1 | rintro e w1 ⟨rfl, hb1⟩
      have hb2 : Below w.heap.size w w1 := hb0.trans (hb1.mono (by simp))
      have hk1 := below_kept hb1 hk0 (by simp)
      have c0 : w1.cell? ⟨w.heap.size, 0, none⟩ = some (.string j) := by rw [Lib.cell_of_heap hk1]; rfl
      have c1 : w1.cell? ⟨w.heap.size, 1, none⟩ = some (.slice tp tn tc) := by rw [Lib.cell_of_heap hk1]; rfl
      clear hk1 hb1
      go_wp2_with (go_at_call 45; refine (HFD.out _ (HA.out.below hb2 (Nat.le_refl _)) (HB.out.below hb2 (Nat.le_refl _))).mono ?_)
      first | rintro e w3 rfl hb3 | rintro e w3 ⟨rfl, hb3⟩
      go_wp2_with fail
      go_ret2
      exact ⟨⟨_, _, [], rfl, Po.Rows.none _ _, rfl⟩, below_next hb2 hb3⟩
    · have hal : a < n := by rw [← HN.out]; exact ha
      obtain ⟨b, o, rfl, hcl⟩ := HA.out.cells (by omega)
      have d4 := (hcl a ha).2.2.2.2
      rw [hen] at d4
      have hbl := World.block_lt_of_cell? _ _ d4
      have n1 : (0 : Int) ≤ (a : Int) := by omega
      have n2 : (a : Int) < (n : Int) := by omega
      clear hcl hen
      go_enter Try.func18, Try.ntmps18
      go_wp2_with (go_at_call 23; refine (HR.out _ (HA.out.below hb0 (Nat.le_refl _))).mono ?_)
      first | rintro e w1 rfl hb1 | rintro e w1 ⟨rfl, hb1⟩
      have hb2 : Below w.heap.size w w1 := hb0.trans (hb1.mono (by simp))
      have hk1 := below_kept hb1 hk0 (by simp)
      have c0 : w1.cell? ⟨w.heap.size, 0, none⟩ = some (.string j) := by rw [Lib.cell_of_heap hk1]; rfl
      have c1 : w1.cell? ⟨w.heap.size, 1, none⟩ = some (.slice tp tn tc) := by rw [Lib.cell_of_heap hk1]; rfl
      clear hk1 hb1
      go_wp2_with (go_at_call 45; refine (HFD.out _ (HA.out.below hb2 (Nat.le_refl _)) (HB.out.below hb2 (Nat.le_refl _))).mono ?_)
      first | rintro e w3 rfl hb3 | rintro e w3 ⟨rfl, hb3⟩
      have hb4 := below_next hb2 hb3
      replace d4 := (hb4.cell (p := ⟨b, o + a * 5 + 4, none⟩) hbl).trans d4
      clear c0 c1 hb3
      go_wp2_with fail
      go_ret2
      exact ⟨⟨_, _, [], rfl, Po.Rows.none _ _, rfl⟩, hb4⟩
    · have hal : a < n := by rw [← HN.out]; exact ha
      obtain ⟨b, o, rfl, hcl⟩ := HA.out.cells (by omega)
      have d4 := (hcl a ha).2.2.2.2
      rw [hen] at d4
      have hbl := World.block_lt_of_cell? _ _ d4
      have n1 : (0 : Int) ≤ (a : Int) := by omega
      have n2 : (a : Int) < (n : Int) := by omega
      have HCL := Lib.hid hcl
      clear hen hcl
      go_enter Try.func18, Try.ntmps18
      go_wp2_with (go_at_call 23; refine (HR.out _ (HA.out.below hb0 (Nat.le_refl _))).mono ?_)
      first | rintro e w1 rfl hb1 | rintro e w1 ⟨rfl, hb1⟩
      have hb2 : Below w.heap.size w w1 := hb0.trans (hb1.mono (by simp))
      have hk1 := below_kept hb1 hk0 (by simp)
      have c0 : w1.cell? ⟨w.heap.size, 0, none⟩ = some (.string j) := by rw [Lib.cell_of_heap hk1]; rfl
      have c1 : w1.cell? ⟨w.heap.size, 1, none⟩ = some (.slice tp tn tc) := by rw [Lib.cell_of_heap hk1]; rfl
      clear hk1 hb1
      go_wp2_with (go_at_call 45; refine (HFD.out _ (HA.out.below hb2 (Nat.le_refl _)) (HB.out.below hb2 (Nat.le_refl _))).mono ?_)
      first | rintro e w3 rfl hb3 | rintro e w3 ⟨rfl, hb3⟩
      have hb4 := below_next hb2 hb3
      replace d4 := (hb4.cell (p := ⟨b, o + a * 5 + 4, none⟩) hbl).trans d4
      have HB4 := Lib.hid hb4
      clear c0 c1 hb3 hb2 hb0 hk0 hb4
      go_wp2_with fail
      obtain ⟨N, hN⟩ : ∃ N, N = w3.heap.size := ⟨_, rfl⟩
      have hNw : w.heap.size ≤ N := by rw [hN]; exact HB4.out.size
      obtain ⟨V, hV⟩ : ∃ V, V = w3.alloc (.cells #[.slice none 0 0, .slice none 0 0] 88) := ⟨_, rfl⟩
      have hM0 : Po.M N N [] [] V := by rw [hV, hN]; exact Po.M.new (Nat.le_refl _)
      have hbV : Below w.heap.size w V := by rw [hV]; exact HB4.out.alloc HB4.out.size _
      rw [← hV, ← hN]
      have HM0 := Lib.hid hM0
      have HBV := Lib.hid hbV
      clear hM0 hbV hV hN d4 HB4
      go_loopw [32] (fun i wr => ∃ (k : Nat) (s2 : List Sl), k ≤ n ∧ i = .int .i64 (k : Int) ∧ Hid (Po.M N N s2 [] wr) ∧ Hid (s2.map Sl.view = ((ss.map Sl.view).take k).eraseIdx a) ∧ Hid (s2.length ≤ k) ∧ Hid (Below w.heap.size w wr)) (fun i _ => n - (intOf i).toNat)
      case atStart => exact ⟨0, [], Nat.zero_le _, rfl, HM0.out, rfl, Nat.zero_le _, HBV.out⟩
      case round =>
        obtain ⟨wj, rfl⟩ : ∃ wo : World, wo = wr := ⟨_, rfl⟩
        obtain ⟨k, s2, hk, rfl, HM, HV, HL, HBJ⟩ := hrel
        by_cases hlt : k < n
        · have hkl : k < ss.length := by rw [HN.out]; exact hlt
          obtain ⟨d0, d1, d2, d3, d4⟩ := HCL.out k hkl
          replace d0 := (HBJ.out.cell (p := ⟨b, o + k * 5, none⟩) hbl).trans d0
          replace d1 := (HBJ.out.cell (p := ⟨b, o + k * 5 + 1, none⟩) hbl).trans d1
          replace d2 := (HBJ.out.cell (p := ⟨b, o + k * 5 + 2, none⟩) hbl).trans d2
          replace d3 := (HBJ.out.cell (p := ⟨b, o + k * 5 + 3, none⟩) hbl).trans d3
          replace d4 := (HBJ.out.cell (p := ⟨b, o + k * 5 + 4, none⟩) hbl).trans d4
          have hls := (HA.out.2 ss[k] (List.getElem_mem _)).below HBJ.out (Nat.le_refl _)
          have f1 := (HF.out ss[k] (List.getElem_mem _)).2.1
          have f2 := HN64.out ss[k] (List.getElem_mem _)
          have hst := Po.erase_take (ss.map Sl.view) a k (by rw [List.length_map]; exact hkl)
          rw [← HV.out, List.getElem_map] at hst
          obtain ⟨s, hs⟩ : ∃ s, ss[k] = s := ⟨_, rfl⟩
          rw [hs] at d0 d1 d2 d3 d4 hls f1 f2 hst
          have HST := Lib.hid hst
          obtain ⟨⟨sj, sp, sn, sc, sl⟩, ev, ti, en⟩ := s
          dsimp only at d0 d1 d2 d3 d4 hls f1 f2
          have hsz := HBJ.out.size
          have m1 : (0 : Int) ≤ (k : Int) := by omega
          have m2 : (k : Int) < (n : Int) := by omega
          have hll := HL.out
          have hb2 := HBJ.out.alloc hsz (.cells #[.string sj, .slice sp sn sc, .int .i64 ev, .int .i64 ti, .bool en] 33)
          have hM2 : Po.M N N s2 [] (wj.alloc (.cells #[.string sj, .slice sp sn sc, .int .i64 ev, .int .i64 ti, .bool en] 33)) := HM.out.kept fun i cur T fr e _ => alloc_kept e
          have hls2 := hls.alloc (.cells #[.string sj, .slice sp sn sc, .int .i64 ev, .int .i64 ti, .bool en] 33)
          clear hs hst hls HV
          by_cases hka : k = a
          · subst hka
            have q1 : ((k : Int) != (k : Int)) = false := by simp
            have hst := HST.out
            rw [if_pos rfl] at hst
            clear hls2
            go_wp2_with fail
            go_roundw
            case rel => exact ⟨k + 1, s2, by omega, by go_num, hM2, hst.symm, (by show _ ≤ _; omega), hb2⟩
            case measure => simp [intOf]; omega
          · have q1 : ((k : Int) != (a : Int)) = true := by simp; omega
            have hst := HST.out
            rw [if_neg hka] at hst
            have HS2 := Lib.hid hst
            clear hst
            have HP := Lib.hid (put_is N N s2 [] ⟨⟨sj, sp, sn, sc, sl⟩, ev, ti, en⟩ none [] 0 0 _ hM2 hls2 f1 (by dsimp only; omega) (.inl rfl) rfl (by omega) (by omega) (by simp))
            go_wp2_with (go_at_call 49; refine HP.out.mono ?_)
            rintro e w10 rfl s5 hM5 hv5 hb10 hk10
            have hb11 : Below w.heap.size w w10 := hb2.trans (hb10.mono hNw)
            go_wp2_with fail
            go_roundw
            case rel => exact ⟨k + 1, s2 ++ [s5], by omega, by go_num, hM5, (by show _ = _; rw [HS2.out, List.map_append, List.map_cons, List.map_nil, hv5]), (by show _ ≤ _; rw [List.length_append, List.length_singleton]; omega), hb11⟩
            case measure => simp [intOf]; omega
        · have m2 : (n : Int) ≤ (k : Int) := by omega
          have hV := HV.out
          rw [List.take_of_length_le (by rw [List.length_map, HN.out]; omega)] at hV
          obtain ⟨vs, vm, hBm, hbm, hR⟩ := HM.out
          have e0 : wj.cell? ⟨N, 0, none⟩ = some vs := by rw [Lib.cell_of_heap hbm]; rfl
          obtain ⟨pv, cv, hvs, hcv1, hcv2, _⟩ := hR.rs.shape
          subst hvs
          go_wp2_with fail
          go_ret2
          exact ⟨⟨_, vm, s2, rfl, hR.lift hNw, hV⟩, HBJ.out⟩
end Go.Proofs.Ytpnpgjjbincigaa
