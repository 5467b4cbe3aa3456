/- The region of CanonPrints that makes a target: what each operation leaves (printed by gen_inv.py); contract of gaugerkit.CopyLabels. -/
import Derived.Test.YthnaninhbofeoaaDoorMadeT
import Derived.Test.YthnaninhbofeoaaDoorReg
import Derived.Laws.OwnMore
namespace Go.Proofs.YthnaninhbofeoaaDoor
open Go.RowKit

def Prt.V (B n : Nat) (ls : List Lab.L) (t : Value) (w : World) : Prop := ∃ q c, t = .slice q n c ∧ OwnLabels B t ls w
def Prt.Z (B : Nat) (t : Value) (w : World) : Prop := ∃ g, t = .pointer (some ⟨g, 0, none⟩) ∧ B ≤ g ∧ w.heap[g]? = some (.cells #[.string ByteArray.empty, .slice none 0 0] 27)
def Prt.Y (B n : Nat) (J : ByteArray) (ls : List Lab.L) (v t : Value) (w : World) : Prop := ∃ g, t = .pointer (some ⟨g, 0, none⟩) ∧ B ≤ g ∧ w.heap[g]? = some (.cells #[.string J, v] 27) ∧ Prt.V B n ls v w
theorem Prt.V.up {B n : Nat} {ls : List Lab.L} {t : Value} {w w2 : World} (h : Prt.V B n ls t w) (up : ∀ (g : Nat) (o : Obj), w.heap[g]? = some o → w2.heap[g]? = some o) : Prt.V B n ls t w2 := by
  obtain ⟨q, c, h1, h2, h3⟩ := h
  refine ⟨q, c, h1, h2, ?_⟩
  rcases h3 with h3 | ⟨g, cap, cur, hv, hg, hh, r⟩
  · exact .inl h3
  · exact .inr ⟨g, cap, cur, hv, hg, up _ _ hh, r⟩
theorem Prt.Z.up {B : Nat} {t : Value} {w w2 : World} (h : Prt.Z B t w) (up : ∀ (g : Nat) (o : Obj), w.heap[g]? = some o → w2.heap[g]? = some o) : Prt.Z B t w2 := by
  obtain ⟨g, h1, h2, h3⟩ := h
  exact ⟨g, h1, h2, up _ _ h3⟩
/-- a block of another type is written: labels stay -/
theorem Prt.V.far {B n : Nat} {ls : List Lab.L} {t : Value} {w : World} (h : Prt.V B n ls t w) {G : Nat} {cs : Array Value} {fr : Nat × Nat} (hG : w.heap[G]? = some (.cells cs 27 fr)) (x y : Value) :
    Prt.V B n ls t ((w.setCell ⟨G, 0, none⟩ x).setCell ⟨G, 1, none⟩ y) := by
  obtain ⟨q, c, h1, h2, h3⟩ := h
  refine ⟨q, c, h1, h2, ?_⟩
  rcases h3 with h3 | ⟨g, cap, cur, hv, hg, hh, r⟩
  · exact .inl h3
  · have hne : G ≠ g := by
      intro e
      subst e
      rw [hG] at hh
      simp at hh
    refine .inr ⟨g, cap, cur, hv, hg, ?_, r⟩
    rw [Below.heap_setCell _ _ _ _ hne.symm, Below.heap_setCell _ _ _ _ hne.symm]
    exact hh
set_option linter.unusedVariables false
/-- what stands where, once it has come up -/
structure Prt.I (B : Nat) (W : World) (X : Nat) (J : ByteArray) (p : Option Addr) (n k : Nat) (ls : List Lab.L) (d : Nat → Bool) (t51 t52 t53 t54 t55 t56 t13 : Value) (w : World) : Prop where
  b : Below B W w
  all : d 7 = true → ∀ j, j < 7 → d j = true
  c5_4 : d 5 = true → d 4 = true
  f0 : d 0 = true → t51 = .pointer (some ⟨X, 0, none⟩)
  f1 : d 1 = true → t52 = .string J
  f2 : d 2 = true → t53 = .pointer (some ⟨X, 1, none⟩)
  f3 : d 3 = true → t54 = .slice p n k
  f4 : d 4 = true → d 7 = false → Prt.V B n ls t55 w
  f5 : d 5 = true → t56 = .agg #[.string J, t55]
  f6 : d 6 = true → d 7 = false → Prt.Z B t13 w
  f7 : d 7 = true → Prt.Y B n J ls t55 t13 w
theorem Prt.start (W : World) (X : Nat) (J : ByteArray) (p : Option Addr) (n k : Nat) (ls : List Lab.L) (t51 t52 t53 t54 t55 t56 t13 : Value) : Prt.I W.heap.size W X J p n k ls (fun _ => false) t51 t52 t53 t54 t55 t56 t13 W.drew where
  b := (Below.refl _ _).drew
  all := fun q => by cases q
  c5_4 := fun q => by cases q
  f0 := fun q => by cases q
  f1 := fun q => by cases q
  f2 := fun q => by cases q
  f3 := fun q => by cases q
  f4 := fun q => by cases q
  f5 := fun q => by cases q
  f6 := fun q => by cases q
  f7 := fun q => by cases q
theorem Prt.I.notlast {B : Nat} {W : World} {X : Nat} {J : ByteArray} {p : Option Addr} {n k : Nat} {ls : List Lab.L} {d : Nat → Bool} {t51 t52 t53 t54 t55 t56 t13 : Value} {w : World} (h : Prt.I B W X J p n k ls d t51 t52 t53 t54 t55 t56 t13 w) (i : Nat) (hi : i < 7) (hd : d i = false) : d 7 = false := by
  cases e : d 7 with
  | false => rfl
  | true => rw [h.all e i hi] at hd; cases hd
theorem Prt.s0 {B : Nat} {W : World} {X : Nat} {J : ByteArray} {p : Option Addr} {n k : Nat} {ls : List Lab.L} {d : Nat → Bool} {t51 t52 t53 t54 t55 t56 t13 : Value} {w : World} {n51 : Value} (h : Prt.I B W X J p n k ls d t51 t52 t53 t54 t55 t56 t13 w) (hd : d 0 = false) (hn : n51 = .pointer (some ⟨X, 0, none⟩)) : Prt.I B W X J p n k ls (fun j => d j || j == 0) n51 t52 t53 t54 t55 t56 t13 w where
  b := h.b
  all := fun q => absurd (show d 7 = true by simpa using q) (by rw [h.notlast 0 (by omega) hd]; simp)
  c5_4 := fun q => by have := h.c5_4 (by simpa using q); simp [this]
  f0 := fun _ => hn
  f1 := fun q => h.f1 (by simpa using q)
  f2 := fun q => h.f2 (by simpa using q)
  f3 := fun q => h.f3 (by simpa using q)
  f4 := fun q q2 => h.f4 (by simpa using q) (by simpa using q2)
  f5 := fun q => h.f5 (by simpa using q)
  f6 := fun q q2 => h.f6 (by simpa using q) (by simpa using q2)
  f7 := fun q => absurd (show d 7 = true by simpa using q) (by rw [h.notlast 0 (by omega) hd]; simp)
theorem Prt.s1 {B : Nat} {W : World} {X : Nat} {J : ByteArray} {p : Option Addr} {n k : Nat} {ls : List Lab.L} {d : Nat → Bool} {t51 t52 t53 t54 t55 t56 t13 : Value} {w : World} {n52 : Value} (h : Prt.I B W X J p n k ls d t51 t52 t53 t54 t55 t56 t13 w) (hd : d 1 = false) (hn : n52 = .string J) : Prt.I B W X J p n k ls (fun j => d j || j == 1) t51 n52 t53 t54 t55 t56 t13 w where
  b := h.b
  all := fun q => absurd (show d 7 = true by simpa using q) (by rw [h.notlast 1 (by omega) hd]; simp)
  c5_4 := fun q => by have := h.c5_4 (by simpa using q); simp [this]
  f0 := fun q => h.f0 (by simpa using q)
  f1 := fun _ => hn
  f2 := fun q => h.f2 (by simpa using q)
  f3 := fun q => h.f3 (by simpa using q)
  f4 := fun q q2 => h.f4 (by simpa using q) (by simpa using q2)
  f5 := fun q => h.f5 (by simpa using q)
  f6 := fun q q2 => h.f6 (by simpa using q) (by simpa using q2)
  f7 := fun q => absurd (show d 7 = true by simpa using q) (by rw [h.notlast 1 (by omega) hd]; simp)
theorem Prt.s2 {B : Nat} {W : World} {X : Nat} {J : ByteArray} {p : Option Addr} {n k : Nat} {ls : List Lab.L} {d : Nat → Bool} {t51 t52 t53 t54 t55 t56 t13 : Value} {w : World} {n53 : Value} (h : Prt.I B W X J p n k ls d t51 t52 t53 t54 t55 t56 t13 w) (hd : d 2 = false) (hn : n53 = .pointer (some ⟨X, 1, none⟩)) : Prt.I B W X J p n k ls (fun j => d j || j == 2) t51 t52 n53 t54 t55 t56 t13 w where
  b := h.b
  all := fun q => absurd (show d 7 = true by simpa using q) (by rw [h.notlast 2 (by omega) hd]; simp)
  c5_4 := fun q => by have := h.c5_4 (by simpa using q); simp [this]
  f0 := fun q => h.f0 (by simpa using q)
  f1 := fun q => h.f1 (by simpa using q)
  f2 := fun _ => hn
  f3 := fun q => h.f3 (by simpa using q)
  f4 := fun q q2 => h.f4 (by simpa using q) (by simpa using q2)
  f5 := fun q => h.f5 (by simpa using q)
  f6 := fun q q2 => h.f6 (by simpa using q) (by simpa using q2)
  f7 := fun q => absurd (show d 7 = true by simpa using q) (by rw [h.notlast 2 (by omega) hd]; simp)
theorem Prt.s3 {B : Nat} {W : World} {X : Nat} {J : ByteArray} {p : Option Addr} {n k : Nat} {ls : List Lab.L} {d : Nat → Bool} {t51 t52 t53 t54 t55 t56 t13 : Value} {w : World} {n54 : Value} (h : Prt.I B W X J p n k ls d t51 t52 t53 t54 t55 t56 t13 w) (hd : d 3 = false) (hn : n54 = .slice p n k) : Prt.I B W X J p n k ls (fun j => d j || j == 3) t51 t52 t53 n54 t55 t56 t13 w where
  b := h.b
  all := fun q => absurd (show d 7 = true by simpa using q) (by rw [h.notlast 3 (by omega) hd]; simp)
  c5_4 := fun q => by have := h.c5_4 (by simpa using q); simp [this]
  f0 := fun q => h.f0 (by simpa using q)
  f1 := fun q => h.f1 (by simpa using q)
  f2 := fun q => h.f2 (by simpa using q)
  f3 := fun _ => hn
  f4 := fun q q2 => h.f4 (by simpa using q) (by simpa using q2)
  f5 := fun q => h.f5 (by simpa using q)
  f6 := fun q q2 => h.f6 (by simpa using q) (by simpa using q2)
  f7 := fun q => absurd (show d 7 = true by simpa using q) (by rw [h.notlast 3 (by omega) hd]; simp)
theorem Prt.s4 {B : Nat} {W : World} {X : Nat} {J : ByteArray} {p : Option Addr} {n k : Nat} {ls : List Lab.L} {d : Nat → Bool} {t51 t52 t53 t54 t55 t56 t13 : Value} {w w2 : World} {n55 : Value} (h : Prt.I B W X J p n k ls d t51 t52 t53 t54 t55 t56 t13 w) (hb : Below B w w2) (up : ∀ (g : Nat) (o : Obj), w.heap[g]? = some o → w2.heap[g]? = some o) (hd : d 4 = false) (hn : Prt.V B n ls n55 w2) : Prt.I B W X J p n k ls (fun j => d j || j == 4) t51 t52 t53 t54 n55 t56 t13 w2 where
  b := h.b.trans hb
  all := fun q => absurd (show d 7 = true by simpa using q) (by rw [h.notlast 4 (by omega) hd]; simp)
  c5_4 := fun _ => by simp
  f0 := fun q => h.f0 (by simpa using q)
  f1 := fun q => h.f1 (by simpa using q)
  f2 := fun q => h.f2 (by simpa using q)
  f3 := fun q => h.f3 (by simpa using q)
  f4 := fun _ _ => hn
  f5 := fun q => absurd (h.c5_4 (by simpa using q)) (by rw [hd]; simp)
  f6 := fun q q2 => (h.f6 (by simpa using q) (by simpa using q2)).up up
  f7 := fun q => absurd (show d 7 = true by simpa using q) (by rw [h.notlast 4 (by omega) hd]; simp)
theorem Prt.s5 {B : Nat} {W : World} {X : Nat} {J : ByteArray} {p : Option Addr} {n k : Nat} {ls : List Lab.L} {d : Nat → Bool} {t51 t52 t53 t54 t55 t56 t13 : Value} {w : World} {n56 : Value} (h : Prt.I B W X J p n k ls d t51 t52 t53 t54 t55 t56 t13 w) (hd : d 5 = false) (ha4 : d 4 = true) (hn : n56 = .agg #[.string J, t55]) : Prt.I B W X J p n k ls (fun j => d j || j == 5) t51 t52 t53 t54 t55 n56 t13 w where
  b := h.b
  all := fun q => absurd (show d 7 = true by simpa using q) (by rw [h.notlast 5 (by omega) hd]; simp)
  c5_4 := fun _ => by simp [ha4]
  f0 := fun q => h.f0 (by simpa using q)
  f1 := fun q => h.f1 (by simpa using q)
  f2 := fun q => h.f2 (by simpa using q)
  f3 := fun q => h.f3 (by simpa using q)
  f4 := fun q q2 => h.f4 (by simpa using q) (by simpa using q2)
  f5 := fun _ => hn
  f6 := fun q q2 => h.f6 (by simpa using q) (by simpa using q2)
  f7 := fun q => absurd (show d 7 = true by simpa using q) (by rw [h.notlast 5 (by omega) hd]; simp)
theorem Prt.s6 {B : Nat} {W : World} {X : Nat} {J : ByteArray} {p : Option Addr} {n k : Nat} {ls : List Lab.L} {d : Nat → Bool} {t51 t52 t53 t54 t55 t56 t13 : Value} {w w2 : World} {n13 : Value} (h : Prt.I B W X J p n k ls d t51 t52 t53 t54 t55 t56 t13 w) (hb : Below B w w2) (up : ∀ (g : Nat) (o : Obj), w.heap[g]? = some o → w2.heap[g]? = some o) (hd : d 6 = false) (hn : Prt.Z B n13 w2) : Prt.I B W X J p n k ls (fun j => d j || j == 6) t51 t52 t53 t54 t55 t56 n13 w2 where
  b := h.b.trans hb
  all := fun q => absurd (show d 7 = true by simpa using q) (by rw [h.notlast 6 (by omega) hd]; simp)
  c5_4 := fun q => by have := h.c5_4 (by simpa using q); simp [this]
  f0 := fun q => h.f0 (by simpa using q)
  f1 := fun q => h.f1 (by simpa using q)
  f2 := fun q => h.f2 (by simpa using q)
  f3 := fun q => h.f3 (by simpa using q)
  f4 := fun q q2 => (h.f4 (by simpa using q) (by simpa using q2)).up up
  f5 := fun q => h.f5 (by simpa using q)
  f6 := fun _ _ => hn
  f7 := fun q => absurd (show d 7 = true by simpa using q) (by rw [h.notlast 6 (by omega) hd]; simp)
theorem Prt.s7 {B : Nat} {W : World} {X : Nat} {J : ByteArray} {p : Option Addr} {n k : Nat} {ls : List Lab.L} {d : Nat → Bool} {t51 t52 t53 t54 t55 t56 t13 : Value} {w w2 : World} (h : Prt.I B W X J p n k ls d t51 t52 t53 t54 t55 t56 t13 w) (hb : Below B w w2) (hall : ∀ j, j < 7 → d j = true) (hn : Prt.Y B n J ls t55 t13 w2) : Prt.I B W X J p n k ls (fun j => d j || j == 7) t51 t52 t53 t54 t55 t56 t13 w2 where
  b := h.b.trans hb
  all := fun _ j hj => by simp [hall j hj]
  c5_4 := fun q => by have := h.c5_4 (by simpa using q); simp [this]
  f0 := fun q => h.f0 (by simpa using q)
  f1 := fun q => h.f1 (by simpa using q)
  f2 := fun q => h.f2 (by simpa using q)
  f3 := fun q => h.f3 (by simpa using q)
  f4 := fun _ q2 => absurd q2 (by simp)
  f5 := fun q => h.f5 (by simpa using q)
  f6 := fun _ q2 => absurd q2 (by simp)
  f7 := fun _ => hn

set_option linter.unusedVariables true
set_option maxHeartbeats 1600000 in
set_option maxRecDepth 100000 in
theorem copy_is (p : Option Addr) (ls : List Lab.L) (n c : Nat) (w : World) (hn : ls.length = n) (h0 : 0 < n) (hA : Lab.At p ls w) (hl : n ≤ 100000) :
    Calls Tryd.prog 24 #[.slice p n c] w fun e w' => (∃ v, e = .returned v ∧ OwnLabels w.heap.size v ls w') ∧ Below w.heap.size w w' := by
  obtain ⟨i0, hi, hz0, hz1, hz2⟩ := info_parts infoLab
  have HI := Lib.hid hi
  have HN := Lib.hid hn
  rcases hA.cases with ⟨rfl, hls⟩ | ⟨ad, rfl, hnews0⟩
  · rw [hls] at hn
    simp at hn
    omega
  · clear hi hn hA
    go_enter Tryd.func24, Tryd.ntmps24
    go_wp2_with (at_builtin; refine wpList_append_own _ rfl _ _ 25 rfl w.heap.size 62 i0 _ 2 32 Tryd.underlying25 HI.out hz0 hz1 hz2 rfl (by decide) _ 0 _ rfl (World.ownsRow_nil _ _ _ _) ad n c (Lab.cells ls) rfl ?b1 ?b2 (Lab.cells_one _) ?b4 ?b5 ?b6 ?_)
    case b1 => rw [Lab.cells_length, HN.out]
    case b2 => exact hnews0
    case b4 => unfold maxLen; omega
    case b5 => omega
    case b6 => exact Nat.le_refl _
    intro v' w1 hown hgrow _
    go_wp2_with fail
    go_ret
    refine ⟨⟨v', rfl, ?_⟩, (Below.refl _ w).grown hgrow (Nat.le_refl _) (by intro k hk; simp [Value.ownBlock] at hk)⟩
    unfold OwnLabels
    rw [HN.out]
    simpa using hown
end Go.Proofs.YthnaninhbofeoaaDoor
