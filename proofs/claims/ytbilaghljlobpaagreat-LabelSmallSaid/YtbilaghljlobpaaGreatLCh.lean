/- The walk of LabelChanges: the law returns true for every input. (Printed by gen_chg.py.) -/
import Derived.Test.YtbilaghljlobpaaGreatL5E
import Derived.Test.YtbilaghljlobpaaGreatL5N
import Derived.Test.YtbilaghljlobpaaGreatL5V
import Derived.Test.YtbilaghljlobpaaGreatL5X
import Derived.Test.YtbilaghljlobpaaGreatL5S
import Derived.Test.YtbilaghljlobpaaGreatLTl
import Derived.Deep.CutBlock
import Derived.Deep.DeepCutAuto
namespace Go.Proofs.YtbilaghljlobpaaGreat
open Go.RowKit

theorem opened0 {f : FuncId} {args : Array Value} {w : World} {r : List Lab.L} {n B : Nat} {er : Value} (hn : r.length = n) (h : Calls Tryz.prog f args w fun e w' => (∃ v, e = .returned (.tuple #[v, er]) ∧ OwnLabels B v r w') ∧ Below w.heap.size w w') :
    Calls Tryz.prog f args w fun e w' => (∃ p c, e = .returned (.tuple #[.slice p n c, er]) ∧ OwnLabels B (.slice p n c) r w' ∧ n ≤ maxLen) ∧ Below w.heap.size w w' :=
  h.mono fun e w' ⟨⟨v, he, hv⟩, hb⟩ => by
    obtain ⟨p, c, hvv, _, h1, h2⟩ := hv.open
    rw [hn] at hvv h1
    subst hvv
    exact ⟨⟨p, c, he, hv, Nat.le_trans h1 h2⟩, hb⟩
def Lab.hd : List ByteArray → ByteArray
  | [] => ⟨#[]⟩
  | x :: _ => x
theorem Lab.hd_mem (xs : List ByteArray) (m : Nat) (h : ∀ x ∈ xs, x.size ≤ m) : (Lab.hd xs).size ≤ m := by
  cases xs with
  | nil => exact Nat.zero_le _
  | cons x r => exact h x (by simp)

set_option maxHeartbeats 25600000 in
set_option maxRecDepth 100000 in
theorem changes_is (pa pb pe pt : Option Addr) (a b es : List Lab.L) (xs : List ByteArray) (na ca nb cb ne ce nt ct : Nat) (w : World) (hna : a.length = na) (hnb : b.length = nb) (hne : es.length = ne) (hnt : xs.length = nt)
    (hA : Lab.At pa a w) (hB : Lab.At pb b w) (hE : Lab.At pe es w) (hT : Txt.At pt xs w) (fa : Lab.Fit maxLen a) (fb : Lab.Fit maxLen b) (fe : Lab.Fit maxLen es) (ft : ∀ x ∈ xs, x.size ≤ maxLen)
    (qa : pa = none → ca = 0) (qb : pb = none → cb = 0) (qe : pe = none → ce = 0) (qt : pt = none → ct = 0) (la : na ≤ maxLen) (lb : nb ≤ maxLen) (lE : ne ≤ maxLen) (lt : nt ≤ maxLen) :
    Calls Tryz.prog 7 #[.slice pa na ca, .slice pb nb cb, .slice pe ne ce, .slice pt nt ct] w fun e w' => e = .returned (.bool true) ∧ Below w.heap.size w w' := by
  obtain ⟨b1, hb1⟩ : ∃ z, Can.short a = z := ⟨_, rfl⟩
  obtain ⟨b2, hb2⟩ : ∃ z, Can.short b = z := ⟨_, rfl⟩
  obtain ⟨b3, hb3⟩ : ∃ z, Can.short es = z := ⟨_, rfl⟩
  have HS1 := Lib.hid (fun w hA => short_is pa a na ca b1 hb1 w hna hA fa la)
  have HS2 := Lib.hid (fun w hA => short_is pb b nb cb b2 hb2 w hnb hA fb lb)
  have HS3 := Lib.hid (fun w hA => short_is pe es ne ce b3 hb3 w hne hA fe lE)
  have X0 := Lib.hid hA
  have X1 := Lib.hid hB
  have X2 := Lib.hid hE
  have X3 := Lib.hid hT
  unfold maxLen at lt
  cases b1
  · clear lt
    clear hna hnb hne hnt hA hB hE hT fa fb fe ft qa qb qe qt la lb lE hb1 hb2 hb3
    go_enter Tryz.func7, Tryz.ntmps7
    have K0 : Hid (∀ w', Below w.heap.size w w' → Lab.At pa a w' ∧ Lab.At pb b w' ∧ Lab.At pe es w' ∧ Txt.At pt xs w') := fun w' h => ⟨X0.out.below h (Nat.le_refl _), X1.out.below h (Nat.le_refl _), X2.out.below h (Nat.le_refl _), X3.out.below h (Nat.le_refl _)⟩
    have B0 : Below w.heap.size w w := Below.refl _ _
    go_wp2_with (go_at_call 9; refine (HS1.out _ ((K0.out _ (Below.refl _ w)).1)).mono ?_)
    first | rintro e v1 rfl hb1 | rintro e v1 ⟨rfl, hb1⟩
    have K1 : Hid (∀ w', Below v1.heap.size v1 w' → Lab.At pa a w' ∧ Lab.At pb b w' ∧ Lab.At pe es w' ∧ Txt.At pt xs w') := fun w' h => ⟨(K0.out w' (hb1.trans (h.mono hb1.size))).1, (K0.out w' (hb1.trans (h.mono hb1.size))).2.1, (K0.out w' (hb1.trans (h.mono hb1.size))).2.2.1, (K0.out w' (hb1.trans (h.mono hb1.size))).2.2.2⟩
    have B1 := below_next B0 hb1
    clear K0 B0 hb1
    go_wp2_with fail
    go_ret
    exact ⟨rfl, B1⟩
  cases b2
  · clear lt
    clear hna hnb hne hnt hA hB hE hT fa fb fe ft qa qb qe qt la lb lE hb1 hb2 hb3
    go_enter Tryz.func7, Tryz.ntmps7
    have K0 : Hid (∀ w', Below w.heap.size w w' → Lab.At pa a w' ∧ Lab.At pb b w' ∧ Lab.At pe es w' ∧ Txt.At pt xs w') := fun w' h => ⟨X0.out.below h (Nat.le_refl _), X1.out.below h (Nat.le_refl _), X2.out.below h (Nat.le_refl _), X3.out.below h (Nat.le_refl _)⟩
    have B0 : Below w.heap.size w w := Below.refl _ _
    go_wp2_with (go_at_call 9; refine (HS1.out _ ((K0.out _ (Below.refl _ w)).1)).mono ?_)
    first | rintro e v1 rfl hb1 | rintro e v1 ⟨rfl, hb1⟩
    have K1 : Hid (∀ w', Below v1.heap.size v1 w' → Lab.At pa a w' ∧ Lab.At pb b w' ∧ Lab.At pe es w' ∧ Txt.At pt xs w') := fun w' h => ⟨(K0.out w' (hb1.trans (h.mono hb1.size))).1, (K0.out w' (hb1.trans (h.mono hb1.size))).2.1, (K0.out w' (hb1.trans (h.mono hb1.size))).2.2.1, (K0.out w' (hb1.trans (h.mono hb1.size))).2.2.2⟩
    have B1 := below_next B0 hb1
    clear K0 B0 hb1
    go_wp2_with (go_at_call 9; refine (HS2.out _ ((K1.out _ (Below.refl _ v1)).2.1)).mono ?_)
    first | rintro e v2 rfl hb2 | rintro e v2 ⟨rfl, hb2⟩
    have K2 : Hid (∀ w', Below v2.heap.size v2 w' → Lab.At pa a w' ∧ Lab.At pb b w' ∧ Lab.At pe es w' ∧ Txt.At pt xs w') := fun w' h => ⟨(K1.out w' (hb2.trans (h.mono hb2.size))).1, (K1.out w' (hb2.trans (h.mono hb2.size))).2.1, (K1.out w' (hb2.trans (h.mono hb2.size))).2.2.1, (K1.out w' (hb2.trans (h.mono hb2.size))).2.2.2⟩
    have B2 := below_next B1 hb2
    clear K1 B1 hb2
    go_wp2_with fail
    go_ret
    exact ⟨rfl, B2⟩
  cases b3
  · clear lt
    clear hna hnb hne hnt hA hB hE hT fa fb fe ft qa qb qe qt la lb lE hb1 hb2 hb3
    go_enter Tryz.func7, Tryz.ntmps7
    have K0 : Hid (∀ w', Below w.heap.size w w' → Lab.At pa a w' ∧ Lab.At pb b w' ∧ Lab.At pe es w' ∧ Txt.At pt xs w') := fun w' h => ⟨X0.out.below h (Nat.le_refl _), X1.out.below h (Nat.le_refl _), X2.out.below h (Nat.le_refl _), X3.out.below h (Nat.le_refl _)⟩
    have B0 : Below w.heap.size w w := Below.refl _ _
    go_wp2_with (go_at_call 9; refine (HS1.out _ ((K0.out _ (Below.refl _ w)).1)).mono ?_)
    first | rintro e v1 rfl hb1 | rintro e v1 ⟨rfl, hb1⟩
    have K1 : Hid (∀ w', Below v1.heap.size v1 w' → Lab.At pa a w' ∧ Lab.At pb b w' ∧ Lab.At pe es w' ∧ Txt.At pt xs w') := fun w' h => ⟨(K0.out w' (hb1.trans (h.mono hb1.size))).1, (K0.out w' (hb1.trans (h.mono hb1.size))).2.1, (K0.out w' (hb1.trans (h.mono hb1.size))).2.2.1, (K0.out w' (hb1.trans (h.mono hb1.size))).2.2.2⟩
    have B1 := below_next B0 hb1
    clear K0 B0 hb1
    go_wp2_with (go_at_call 9; refine (HS2.out _ ((K1.out _ (Below.refl _ v1)).2.1)).mono ?_)
    first | rintro e v2 rfl hb2 | rintro e v2 ⟨rfl, hb2⟩
    have K2 : Hid (∀ w', Below v2.heap.size v2 w' → Lab.At pa a w' ∧ Lab.At pb b w' ∧ Lab.At pe es w' ∧ Txt.At pt xs w') := fun w' h => ⟨(K1.out w' (hb2.trans (h.mono hb2.size))).1, (K1.out w' (hb2.trans (h.mono hb2.size))).2.1, (K1.out w' (hb2.trans (h.mono hb2.size))).2.2.1, (K1.out w' (hb2.trans (h.mono hb2.size))).2.2.2⟩
    have B2 := below_next B1 hb2
    clear K1 B1 hb2
    go_wp2_with (go_at_call 9; refine (HS3.out _ ((K2.out _ (Below.refl _ v2)).2.2.1)).mono ?_)
    first | rintro e v3 rfl hb3 | rintro e v3 ⟨rfl, hb3⟩
    have K3 : Hid (∀ w', Below v3.heap.size v3 w' → Lab.At pa a w' ∧ Lab.At pb b w' ∧ Lab.At pe es w' ∧ Txt.At pt xs w') := fun w' h => ⟨(K2.out w' (hb3.trans (h.mono hb3.size))).1, (K2.out w' (hb3.trans (h.mono hb3.size))).2.1, (K2.out w' (hb3.trans (h.mono hb3.size))).2.2.1, (K2.out w' (hb3.trans (h.mono hb3.size))).2.2.2⟩
    have B3 := below_next B2 hb3
    clear K2 B2 hb3
    go_wp2_with fail
    go_ret
    exact ⟨rfl, B3⟩
  by_cases h20 : 20 < nt
  · have n1 : (20 : Int) < (nt : Int) := by omega
    have n2 : decide ((20 : Int) < (nt : Int)) = true := decide_eq_true n1
    clear hna hnb hne hnt hA hB hE hT fa fb fe ft qa qb qe qt la lb lE hb1 hb2 hb3
    clear h20
    go_enter Tryz.func7, Tryz.ntmps7
    have K0 : Hid (∀ w', Below w.heap.size w w' → Lab.At pa a w' ∧ Lab.At pb b w' ∧ Lab.At pe es w' ∧ Txt.At pt xs w') := fun w' h => ⟨X0.out.below h (Nat.le_refl _), X1.out.below h (Nat.le_refl _), X2.out.below h (Nat.le_refl _), X3.out.below h (Nat.le_refl _)⟩
    have B0 : Below w.heap.size w w := Below.refl _ _
    go_wp2_with (go_at_call 9; refine (HS1.out _ ((K0.out _ (Below.refl _ w)).1)).mono ?_)
    first | rintro e v1 rfl hb1 | rintro e v1 ⟨rfl, hb1⟩
    have K1 : Hid (∀ w', Below v1.heap.size v1 w' → Lab.At pa a w' ∧ Lab.At pb b w' ∧ Lab.At pe es w' ∧ Txt.At pt xs w') := fun w' h => ⟨(K0.out w' (hb1.trans (h.mono hb1.size))).1, (K0.out w' (hb1.trans (h.mono hb1.size))).2.1, (K0.out w' (hb1.trans (h.mono hb1.size))).2.2.1, (K0.out w' (hb1.trans (h.mono hb1.size))).2.2.2⟩
    have B1 := below_next B0 hb1
    clear K0 B0 hb1
    go_wp2_with (go_at_call 9; refine (HS2.out _ ((K1.out _ (Below.refl _ v1)).2.1)).mono ?_)
    first | rintro e v2 rfl hb2 | rintro e v2 ⟨rfl, hb2⟩
    have K2 : Hid (∀ w', Below v2.heap.size v2 w' → Lab.At pa a w' ∧ Lab.At pb b w' ∧ Lab.At pe es w' ∧ Txt.At pt xs w') := fun w' h => ⟨(K1.out w' (hb2.trans (h.mono hb2.size))).1, (K1.out w' (hb2.trans (h.mono hb2.size))).2.1, (K1.out w' (hb2.trans (h.mono hb2.size))).2.2.1, (K1.out w' (hb2.trans (h.mono hb2.size))).2.2.2⟩
    have B2 := below_next B1 hb2
    clear K1 B1 hb2
    go_wp2_with (go_at_call 9; refine (HS3.out _ ((K2.out _ (Below.refl _ v2)).2.2.1)).mono ?_)
    first | rintro e v3 rfl hb3 | rintro e v3 ⟨rfl, hb3⟩
    have K3 : Hid (∀ w', Below v3.heap.size v3 w' → Lab.At pa a w' ∧ Lab.At pb b w' ∧ Lab.At pe es w' ∧ Txt.At pt xs w') := fun w' h => ⟨(K2.out w' (hb3.trans (h.mono hb3.size))).1, (K2.out w' (hb3.trans (h.mono hb3.size))).2.1, (K2.out w' (hb3.trans (h.mono hb3.size))).2.2.1, (K2.out w' (hb3.trans (h.mono hb3.size))).2.2.2⟩
    have B3 := below_next B2 hb3
    clear K2 B2 hb3
    go_wp2_with fail
    go_ret
    exact ⟨rfl, B3⟩
  obtain ⟨a70, fa2⟩ := Can.short_parts a hb1
  obtain ⟨b70, fb2⟩ := Can.short_parts b hb2
  obtain ⟨e70, fe2⟩ := Can.short_parts es hb3
  rw [hna] at a70
  rw [hnb] at b70
  rw [hne] at e70
  have n1 : (nt : Int) ≤ 20 := by omega
  have n2 : decide ((20 : Int) < (nt : Int)) = false := decide_eq_false (by omega)
  have n3 : nt ≤ 20 := by omega
  obtain ⟨pf, hpf⟩ : ∃ pf, Lab.hd xs = pf := ⟨_, rfl⟩
  have hpfz : pf.size ≤ maxLen := by rw [← hpf]; exact Lab.hd_mem xs _ ft
  obtain ⟨r0, e0, h0⟩ : ∃ r e, Lab.set a es = (r, e) := ⟨_, _, rfl⟩
  obtain ⟨m0, hm0⟩ : ∃ n, r0.length = n := ⟨_, rfl⟩
  obtain ⟨r1, e1, h1⟩ : ∃ r e, Lab.merge a b = (r, e) := ⟨_, _, rfl⟩
  obtain ⟨m1, hm1⟩ : ∃ n, r1.length = n := ⟨_, rfl⟩
  obtain ⟨r2, e2, h2⟩ : ∃ r e, Lab.export a b = (r, e) := ⟨_, _, rfl⟩
  obtain ⟨m2, hm2⟩ : ∃ n, r2.length = n := ⟨_, rfl⟩
  obtain ⟨r3, e3, h3⟩ : ∃ r e, Lab.filt (Lab.has xs) a = (r, e) := ⟨_, _, rfl⟩
  obtain ⟨m3, hm3⟩ : ∃ n, r3.length = n := ⟨_, rfl⟩
  obtain ⟨r4, e4, h4⟩ : ∃ r e, Lab.filt (fun s => !Lab.has xs s) a = (r, e) := ⟨_, _, rfl⟩
  obtain ⟨m4, hm4⟩ : ∃ n, r4.length = n := ⟨_, rfl⟩
  obtain ⟨r5, e5, h5⟩ : ∃ r e, Lab.filt (fun s => !Lib.hasPrefix s.data.toList pf.data.toList) a = (r, e) := ⟨_, _, rfl⟩
  obtain ⟨m5, hm5⟩ : ∃ n, r5.length = n := ⟨_, rfl⟩
  obtain ⟨cc, hcc⟩ : ∃ c, Lab.cmpL a b = c := ⟨_, rfl⟩
  have qcc : ((cc : Int) != (cc : Int)) = false := by simp
  have HL1 := Lib.hid (fun w hA => lent_is pa a na ca w hna hA qa (by omega))
  have HL2 := Lib.hid (fun w hA => lent_is pb b nb cb w hnb hA qb (by omega))
  have HL3 := Lib.hid (fun w hA => lent_is pe es ne ce w hne hA qe (by omega))
  have HL4 := Lib.hid (fun w hA => lentt_is pt xs nt ct w hnt hA qt (by omega))
  have HP0 := Lib.hid (fun q d q2 d2 w hA hB => opened0 hm0 (lset_is q q2 a es na d ne d2 r0 e0 h0 w hna hne hA hB fa fe (by omega) (by omega)))
  have HP1 := Lib.hid (fun q d q2 d2 w hA hB => opened0 hm1 (lmerge_is q q2 a b na d nb d2 r1 e1 h1 w hna hnb hA hB fa fb (by omega) (by omega)))
  have HP2 := Lib.hid (fun q d q2 d2 w hA hB => opened0 hm2 (lexport_is q q2 a b na d nb d2 r2 e2 h2 w hna hnb hA hB fa fb (by omega) (by omega)))
  have HP3 := Lib.hid (fun q d q2 d2 w hA hB => opened0 hm3 (lkeep_is q q2 a xs na d nt d2 r3 e3 h3 w hna hnt hA hB fa (by omega) (by omega)))
  have HP4 := Lib.hid (fun q d q2 d2 w hA hB => opened0 hm4 (ldrop_is q q2 a xs na d nt d2 r4 e4 h4 w hna hnt hA hB fa (by omega) (by omega)))
  have HP5 := Lib.hid (fun q d w hA => opened0 hm5 (lwithout_is q a pf na d r5 e5 h5 w hna hA fa (by omega)))
  have HR0 := Lib.hid (fun w hA hB => opened0 hm0 (rset_contract pa pe a es na ca ne ce r0 e0 h0 w hna hne hA hB fa fe qa (by omega) (by omega)))
  have HR1 := Lib.hid (fun w hA hB => opened0 hm1 (rmerge_contract pa pb a b na ca nb cb r1 e1 h1 w hna hnb hA hB fa fb qa (by omega) (by omega)))
  have HR2 := Lib.hid (fun w hA hB => opened0 hm2 (rexport_contract pa pb a b na ca nb cb r2 e2 h2 w hna hnb hA hB fa fb qa (by omega) (by omega)))
  have HR3 := Lib.hid (fun w hA hB => opened0 hm3 (rfilter_contract (Lab.has xs) pa pt a xs true (by funext s; simp) na ca nt ct r3 e3 h3 w hna hnt hA hB fa (by omega) (by omega)))
  have HR4 := Lib.hid (fun w hA hB => opened0 hm4 (rfilter_contract (fun s => !Lab.has xs s) pa pt a xs false (by funext s; cases Lab.has xs s <;> rfl) na ca nt ct r4 e4 h4 w hna hnt hA hB fa (by omega) (by omega)))
  have HR5 := Lib.hid (fun w hA => opened0 hm5 (rwithout_contract (fun s => !Lib.hasPrefix s.data.toList pf.data.toList) pa a pf rfl na ca r5 e5 h5 w hna hA fa (by omega)))
  have HC1 := Lib.hid (fun q d q2 d2 w hA hB => lcompare_is q q2 a b na d nb d2 cc hcc w hna hnb hA hB (by omega))
  have HC2 := Lib.hid (fun w hA hB => rcompare4_is pa pb a b na ca nb cb cc hcc w hna hnb hA hB fa fb (by omega) (by omega))
  have HK1 := Lib.hid (fun g cap B w hA hO => kept_true g cap pa a na ca B w hna hA (by omega) hO)
  have HK2 := Lib.hid (fun g cap B w hA hO => kept_true g cap pb b nb cb B w hnb hA (by omega) hO)
  have HK3 := Lib.hid (fun g cap B w hA hO => kept_true g cap pe es ne ce B w hne hA (by omega) hO)
  have HK4 := Lib.hid (fun g cap B w hA hO => keptt_true g cap pt xs nt ct B w hnt hA (by omega) hO)
  have HPF := Lib.hid hpf
  have HNT := Lib.hid hnt
  have HM0 := Lib.hid hm0
  have HM1 := Lib.hid hm1
  have HM2 := Lib.hid hm2
  have HM3 := Lib.hid hm3
  have HM4 := Lib.hid hm4
  have HM5 := Lib.hid hm5
  clear hna hnb hne hnt hA hB hE hT fa fb fe ft qa qb qe qt la lb lE hb1 hb2 hb3 hcc hpf hpfz h20 fa2 fb2 fe2 h0 hm0 h1 hm1 h2 hm2 h3 hm3 h4 hm4 h5 hm5
  go_enter Tryz.func7, Tryz.ntmps7
  have K0 : Hid (∀ w', Below w.heap.size w w' → Lab.At pa a w' ∧ Lab.At pb b w' ∧ Lab.At pe es w' ∧ Txt.At pt xs w') := fun w' h => ⟨X0.out.below h (Nat.le_refl _), X1.out.below h (Nat.le_refl _), X2.out.below h (Nat.le_refl _), X3.out.below h (Nat.le_refl _)⟩
  have B0 : Below w.heap.size w w := Below.refl _ _
  go_wp2_with (go_at_call 9; refine (HS1.out _ ((K0.out _ (Below.refl _ w)).1)).mono ?_)
  first | rintro e v1 rfl hb1 | rintro e v1 ⟨rfl, hb1⟩
  have K1 : Hid (∀ w', Below v1.heap.size v1 w' → Lab.At pa a w' ∧ Lab.At pb b w' ∧ Lab.At pe es w' ∧ Txt.At pt xs w') := fun w' h => ⟨(K0.out w' (hb1.trans (h.mono hb1.size))).1, (K0.out w' (hb1.trans (h.mono hb1.size))).2.1, (K0.out w' (hb1.trans (h.mono hb1.size))).2.2.1, (K0.out w' (hb1.trans (h.mono hb1.size))).2.2.2⟩
  have B1 := below_next B0 hb1
  clear K0 B0 hb1
  clear HS1
  go_wp2_with (go_at_call 9; refine (HS2.out _ ((K1.out _ (Below.refl _ v1)).2.1)).mono ?_)
  first | rintro e v2 rfl hb2 | rintro e v2 ⟨rfl, hb2⟩
  have K2 : Hid (∀ w', Below v2.heap.size v2 w' → Lab.At pa a w' ∧ Lab.At pb b w' ∧ Lab.At pe es w' ∧ Txt.At pt xs w') := fun w' h => ⟨(K1.out w' (hb2.trans (h.mono hb2.size))).1, (K1.out w' (hb2.trans (h.mono hb2.size))).2.1, (K1.out w' (hb2.trans (h.mono hb2.size))).2.2.1, (K1.out w' (hb2.trans (h.mono hb2.size))).2.2.2⟩
  have B2 := below_next B1 hb2
  clear K1 B1 hb2
  clear HS2
  go_wp2_with (go_at_call 9; refine (HS3.out _ ((K2.out _ (Below.refl _ v2)).2.2.1)).mono ?_)
  first | rintro e v3 rfl hb3 | rintro e v3 ⟨rfl, hb3⟩
  have K3 : Hid (∀ w', Below v3.heap.size v3 w' → Lab.At pa a w' ∧ Lab.At pb b w' ∧ Lab.At pe es w' ∧ Txt.At pt xs w') := fun w' h => ⟨(K2.out w' (hb3.trans (h.mono hb3.size))).1, (K2.out w' (hb3.trans (h.mono hb3.size))).2.1, (K2.out w' (hb3.trans (h.mono hb3.size))).2.2.1, (K2.out w' (hb3.trans (h.mono hb3.size))).2.2.2⟩
  have B3 := below_next B2 hb3
  clear K2 B2 hb3
  clear HS3
  clear X0 X1 X2 X3
  have hzw0 := B3.size
  go_wp2_with (go_at_call 10; refine (HL1.out _ ((K3.out _ (Below.refl _ v3)).1)).mono ?_)
  first | rintro e v4 gx cx rfl hO hb4 | rintro e v4 ⟨⟨gx, cx, rfl, hO⟩, hb4⟩
  have HIN0 := Lib.hid (OwnLabels.isIn hO)
  have hz0 := hb4.size
  have HhO4 := Lib.hid hO
  clear hO
  have K4 : Hid (∀ w', Below v4.heap.size v4 w' → Lab.At pa a w' ∧ Lab.At pb b w' ∧ Lab.At pe es w' ∧ Txt.At pt xs w' ∧ OwnLabels v3.heap.size (.slice (some ⟨gx, 0, none⟩) (na + 3) cx) (a ++ Mark.some 3) w') := fun w' h => ⟨(K3.out w' (hb4.trans (h.mono hb4.size))).1, (K3.out w' (hb4.trans (h.mono hb4.size))).2.1, (K3.out w' (hb4.trans (h.mono hb4.size))).2.2.1, (K3.out w' (hb4.trans (h.mono hb4.size))).2.2.2, HhO4.out.below h (Nat.le_refl _)⟩
  have B4 := below_next B3 hb4
  clear K3 B3 hb4
  clear HhO4 HL1
  go_wp2_with (go_at_call 10; refine (HL2.out _ ((K4.out _ (Below.refl _ v4)).2.1)).mono ?_)
  first | rintro e v5 gy cy rfl hO hb5 | rintro e v5 ⟨⟨gy, cy, rfl, hO⟩, hb5⟩
  have HIN1 := Lib.hid (OwnLabels.isIn hO)
  have hz1 := hb5.size
  have HhO5 := Lib.hid hO
  clear hO
  have K5 : Hid (∀ w', Below v5.heap.size v5 w' → Lab.At pa a w' ∧ Lab.At pb b w' ∧ Lab.At pe es w' ∧ Txt.At pt xs w' ∧ OwnLabels v3.heap.size (.slice (some ⟨gx, 0, none⟩) (na + 3) cx) (a ++ Mark.some 3) w' ∧ OwnLabels v4.heap.size (.slice (some ⟨gy, 0, none⟩) (nb + 3) cy) (b ++ Mark.some 3) w') := fun w' h => ⟨(K4.out w' (hb5.trans (h.mono hb5.size))).1, (K4.out w' (hb5.trans (h.mono hb5.size))).2.1, (K4.out w' (hb5.trans (h.mono hb5.size))).2.2.1, (K4.out w' (hb5.trans (h.mono hb5.size))).2.2.2.1, (K4.out w' (hb5.trans (h.mono hb5.size))).2.2.2.2, HhO5.out.below h (Nat.le_refl _)⟩
  have B5 := below_next B4 hb5
  clear K4 B4 hb5
  clear HhO5 HL2
  go_wp2_with (go_at_call 10; refine (HL3.out _ ((K5.out _ (Below.refl _ v5)).2.2.1)).mono ?_)
  first | rintro e v6 gz cz rfl hO hb6 | rintro e v6 ⟨⟨gz, cz, rfl, hO⟩, hb6⟩
  have HIN2 := Lib.hid (OwnLabels.isIn hO)
  have hz2 := hb6.size
  have HhO6 := Lib.hid hO
  clear hO
  have K6 : Hid (∀ w', Below v6.heap.size v6 w' → Lab.At pa a w' ∧ Lab.At pb b w' ∧ Lab.At pe es w' ∧ Txt.At pt xs w' ∧ OwnLabels v3.heap.size (.slice (some ⟨gx, 0, none⟩) (na + 3) cx) (a ++ Mark.some 3) w' ∧ OwnLabels v4.heap.size (.slice (some ⟨gy, 0, none⟩) (nb + 3) cy) (b ++ Mark.some 3) w' ∧ OwnLabels v5.heap.size (.slice (some ⟨gz, 0, none⟩) (ne + 3) cz) (es ++ Mark.some 3) w') := fun w' h => ⟨(K5.out w' (hb6.trans (h.mono hb6.size))).1, (K5.out w' (hb6.trans (h.mono hb6.size))).2.1, (K5.out w' (hb6.trans (h.mono hb6.size))).2.2.1, (K5.out w' (hb6.trans (h.mono hb6.size))).2.2.2.1, (K5.out w' (hb6.trans (h.mono hb6.size))).2.2.2.2.1, (K5.out w' (hb6.trans (h.mono hb6.size))).2.2.2.2.2, HhO6.out.below h (Nat.le_refl _)⟩
  have B6 := below_next B5 hb6
  clear K5 B5 hb6
  clear HhO6 HL3
  go_wp2_with (go_at_call 32; refine (HL4.out _ ((K6.out _ (Below.refl _ v6)).2.2.2.1)).mono ?_)
  first | rintro e v7 gt ctt rfl hO hb7 | rintro e v7 ⟨⟨gt, ctt, rfl, hO⟩, hb7⟩
  have hz3 := hb7.size
  have HhO7 := Lib.hid hO
  clear hO
  have K7 : Hid (∀ w', Below v7.heap.size v7 w' → Lab.At pa a w' ∧ Lab.At pb b w' ∧ Lab.At pe es w' ∧ Txt.At pt xs w' ∧ OwnLabels v3.heap.size (.slice (some ⟨gx, 0, none⟩) (na + 3) cx) (a ++ Mark.some 3) w' ∧ OwnLabels v4.heap.size (.slice (some ⟨gy, 0, none⟩) (nb + 3) cy) (b ++ Mark.some 3) w' ∧ OwnLabels v5.heap.size (.slice (some ⟨gz, 0, none⟩) (ne + 3) cz) (es ++ Mark.some 3) w' ∧ OwnTexts v6.heap.size (.slice (some ⟨gt, 0, none⟩) (nt + 12) ctt) (xs ++ Mark.ts 12) w') := fun w' h => ⟨(K6.out w' (hb7.trans (h.mono hb7.size))).1, (K6.out w' (hb7.trans (h.mono hb7.size))).2.1, (K6.out w' (hb7.trans (h.mono hb7.size))).2.2.1, (K6.out w' (hb7.trans (h.mono hb7.size))).2.2.2.1, (K6.out w' (hb7.trans (h.mono hb7.size))).2.2.2.2.1, (K6.out w' (hb7.trans (h.mono hb7.size))).2.2.2.2.2.1, (K6.out w' (hb7.trans (h.mono hb7.size))).2.2.2.2.2.2, HhO7.out.below h (Nat.le_refl _)⟩
  have B7 := below_next B6 hb7
  clear K6 B6 hb7
  clear HhO7 HL4
  go_upto_if 47 with fail
  go_cut [13] (fun s13 wx => s13 = .string pf ∧ wx = v7)
  case first =>
    by_cases h0 : nt = 0
    · have n4 : decide ((0 : Int) < (nt : Int)) = false := decide_eq_false (by omega)
      have n5 : ¬ ((0 : Int) < (nt : Int)) := by omega
      have hpf : pf = ⟨#[]⟩ := by
        have h1 := HNT.out
        rw [h0] at h1
        rw [← HPF.out, List.length_eq_zero_iff.1 h1]
        rfl
      subst hpf
      clear h0
      go_wp2_with fail
      go_meet
      exact ⟨rfl, rfl⟩
    · have hx0 : 0 < xs.length := by rw [HNT.out]; omega
      obtain ⟨bt, ot, ept, hct⟩ := ((K7.out _ (Below.refl _ v7)).2.2.2.1).open 0 hx0
      have hc0 := hct 0 hx0
      have hpf : xs[0] = pf := by
        rw [← HPF.out]
        match xs, hx0 with
        | x :: r, _ => rfl
      rw [hpf, Nat.add_zero] at hc0
      subst ept
      have n4 : decide ((0 : Int) < (nt : Int)) = true := decide_eq_true (by omega)
      have n5 : (0 : Int) < (nt : Int) := by omega
      clear hct hpf h0
      go_wp2_with fail
      go_meet
      exact ⟨rfl, rfl⟩
  case rest =>
  obtain ⟨rfl, hwc⟩ := hcut
  obtain rfl : v7 = wc := hwc.symm
  clear HPF HNT
  have hBwO : Hid (w.heap.size ≤ v7.heap.size) := B7.size
  go_wp2_with fail
  obtain ⟨W8, hW⟩ : ∃ W, W = (v7.alloc (.cells #[.slice none 0 0, .slice none 0 0, .slice none 0 0, .slice none 0 0, .slice none 0 0, .slice none 0 0] 68)).alloc (.cells #[.int .i64 0, .int .i64 0, .int .i64 0, .int .i64 0, .int .i64 0, .int .i64 0] 69) := ⟨_, rfl⟩
  have hbW8 : Below v7.heap.size v7 W8 := by rw [hW]; exact ((Below.refl _ _).alloc (Nat.le_refl _) _).alloc (by simp) _
  have hOW8 : W8.heap[v7.heap.size]? = some (.cells #[.slice none 0 0, .slice none 0 0, .slice none 0 0, .slice none 0 0, .slice none 0 0, .slice none 0 0] 68) := by rw [hW]; exact alloc_kept (alloc_new _ _)
  have hEW8 : W8.heap[v7.heap.size + 1]? = some (.cells #[.int .i64 0, .int .i64 0, .int .i64 0, .int .i64 0, .int .i64 0, .int .i64 0] 69) := by
    rw [hW]
    have := alloc_new (v7.alloc (.cells #[.slice none 0 0, .slice none 0 0, .slice none 0 0, .slice none 0 0, .slice none 0 0, .slice none 0 0] 68)) (.cells #[.int .i64 0, .int .i64 0, .int .i64 0, .int .i64 0, .int .i64 0, .int .i64 0] 69)
    rw [World.size_alloc] at this
    exact this
  have hNW8 : ∀ g, g < v7.heap.size → g ∉ [v7.heap.size, v7.heap.size + 1] := fun g hg hm => by
    simp only [List.mem_cons, List.not_mem_nil, or_false] at hm
    omega
  rw [← hW]
  clear hW
  obtain ⟨O, hO⟩ : ∃ O, v7.heap.size = O := ⟨_, rfl⟩
  obtain ⟨E, hE⟩ : ∃ E, O + 1 = E := ⟨_, rfl⟩
  have hNVO : Hid (∀ g, g < v7.heap.size → g ∉ [O, E]) := by
    show ∀ g, g < v7.heap.size → g ∉ [O, E]
    rw [hO] at hNW8
    rw [hE] at hNW8
    rw [hO]
    exact hNW8
  have hVO : Hid (v7.heap.size = O ∧ O + 1 = E) := ⟨hO, hE⟩
  rw [hO] at hOW8 hEW8 hNW8 ⊢
  rw [hE] at hEW8 hNW8 ⊢
  have HO := Lib.hid hOW8
  have HE := Lib.hid hEW8
  have hxW8 : Ext [O, E] v7 W8 := Ext.below hbW8
  clear hOW8 hEW8 hNW8 hO hE
  have K8x : Hid (∀ w', Ext [O, E] W8 w' → Lab.At pa a w' ∧ Lab.At pb b w' ∧ Lab.At pe es w' ∧ Txt.At pt xs w' ∧ OwnLabels v3.heap.size (.slice (some ⟨gx, 0, none⟩) (na + 3) cx) (a ++ Mark.some 3) w' ∧ OwnLabels v4.heap.size (.slice (some ⟨gy, 0, none⟩) (nb + 3) cy) (b ++ Mark.some 3) w' ∧ OwnLabels v5.heap.size (.slice (some ⟨gz, 0, none⟩) (ne + 3) cz) (es ++ Mark.some 3) w' ∧ OwnTexts v6.heap.size (.slice (some ⟨gt, 0, none⟩) (nt + 12) ctt) (xs ++ Mark.ts 12) w') := fun w' h => ⟨((K7.out _ (Below.refl _ v7)).1).ext (hxW8.trans h) (fun b _ _ hb => hNVO.out b hb), ((K7.out _ (Below.refl _ v7)).2.1).ext (hxW8.trans h) (fun b _ _ hb => hNVO.out b hb), ((K7.out _ (Below.refl _ v7)).2.2.1).ext (hxW8.trans h) (fun b _ _ hb => hNVO.out b hb), ((K7.out _ (Below.refl _ v7)).2.2.2.1).ext (hxW8.trans h) (fun b _ _ hb => hNVO.out b hb), ((K7.out _ (Below.refl _ v7)).2.2.2.2.1).ext (hxW8.trans h) (fun g _ hg => hNVO.out g hg), ((K7.out _ (Below.refl _ v7)).2.2.2.2.2.1).ext (hxW8.trans h) (fun g _ hg => hNVO.out g hg), ((K7.out _ (Below.refl _ v7)).2.2.2.2.2.2.1).ext (hxW8.trans h) (fun g _ hg => hNVO.out g hg), ((K7.out _ (Below.refl _ v7)).2.2.2.2.2.2.2).ext (hxW8.trans h) (fun g _ hg => hNVO.out g hg)⟩
  have B8x := below_next B7 hbW8
  clear K7 B7 hbW8
  have hBwO : Hid (w.heap.size ≤ O) := by
    show w.heap.size ≤ O
    have h1 := hBwO.out
    rw [hVO.out.1] at h1
    exact h1
  have HOU : Hid (O < W8.heap.size ∧ E < W8.heap.size) := ⟨lt_of_heap HO.out, lt_of_heap HE.out⟩
  have hz3b : v5.heap.size ≤ W8.heap.size := by have := hxW8.1; omega
  have HZC : Hid (v6.heap.size ≤ W8.heap.size) := by have h1 := hxW8.1; show v6.heap.size ≤ W8.heap.size; omega
  go_wp2_with (go_at_call 33; refine (HP0.out _ cx _ cz _ ((K8x.out _ (Ext.refl _ _)).2.2.2.2.1).at.take ((K8x.out _ (Ext.refl _ _)).2.2.2.2.2.2.1).at.take).mono ?_)
  first | rintro e y8 g0p g0c rfl hv hm hb | rintro e y8 ⟨⟨g0p, g0c, rfl, hv, hm⟩, hb⟩
  have hOv := below_kept hb HO.out (lt_of_heap HO.out)
  have hEv := below_kept hb HE.out (lt_of_heap HE.out)
  have c0 : y8.cell? ⟨O, 0, none⟩ = some (.slice none 0 0) := by rw [Lib.cell_of_heap hOv]; rfl
  have c1 : y8.cell? ⟨E, 0, none⟩ = some (.int .i64 0) := by rw [Lib.cell_of_heap hEv]; rfl
  have f0 : y8.frozen? ⟨O, 0, none⟩ = false := Lib.frozen_of_heap hOv _
  have f1 : y8.frozen? ⟨E, 0, none⟩ = false := Lib.frozen_of_heap hEv _
  have hne : (⟨O, 0, none⟩ : Addr) ≠ ⟨E, 0, none⟩ := fun e => by
    have := hVO.out.2
    simp only [Addr.mk.injEq, and_true] at e
    omega
  have c2 : (y8.setCell ⟨O, 0, none⟩ (.slice g0p m0 g0c)).cell? ⟨E, 0, none⟩ = some (.int .i64 0) := (World.cell?_setCell_other _ _ _ _ hne).trans c1
  have f2 : (y8.setCell ⟨O, 0, none⟩ (.slice g0p m0 g0c)).frozen? ⟨E, 0, none⟩ = false := by rw [World.frozen?_setCell]; exact f1
  clear hne
  have HOV := Lib.hid hOv
  have HEV := Lib.hid hEv
  have HV := Lib.hid hv
  have HM := Lib.hid hm
  have HINg0 := Lib.hid (OwnLabels.isIn hv)
  clear hOv hEv hv hm
  go_wp2_with fail
  obtain ⟨V8, hW⟩ : ∃ W, W = (y8.setCell ⟨O, 0, none⟩ (.slice g0p m0 g0c)).setCell ⟨E, 0, none⟩ (.int .i64 e0) := ⟨_, rfl⟩
  obtain ⟨t1, t2, t3, t4, t5⟩ := two_set [O, E] w y8 O E 0 _ _ _ _ _ _ (by have := hVO.out.2; omega) HOV.out HEV.out (by simp) (by simp) V8 hW (below_next B8x hb) (by have := hBwO.out; omega) (by have := hBwO.out; have := hVO.out.2; omega)
  rw [← hW]
  have t1 : V8.heap[O]? = some (.cells #[.slice g0p m0 g0c, .slice none 0 0, .slice none 0 0, .slice none 0 0, .slice none 0 0, .slice none 0 0] 68) := t1
  have t2 : V8.heap[E]? = some (.cells #[.int .i64 e0, .int .i64 0, .int .i64 0, .int .i64 0, .int .i64 0, .int .i64 0] 69) := t2
  clear HO HE
  have HO := Lib.hid t1
  have HE := Lib.hid t2
  have hzg0 : W8.heap.size ≤ V8.heap.size := by rw [t5]; exact hb.size
  have HINg0 : Hid (Apart.In W8.heap.size V8.heap.size g0p) := by
    rw [t5]
    exact HINg0.out
  have HMg0 := HM
  have hNU : ∀ g, W8.heap.size ≤ g → g ∉ [O, E] := fun g hg hm => by
    have h1 := HOU.out
    simp only [List.mem_cons, List.not_mem_nil, or_false] at hm
    omega
  have K9x : Hid (∀ w', Ext [O, E] V8 w' → Lab.At pa a w' ∧ Lab.At pb b w' ∧ Lab.At pe es w' ∧ Txt.At pt xs w' ∧ OwnLabels v3.heap.size (.slice (some ⟨gx, 0, none⟩) (na + 3) cx) (a ++ Mark.some 3) w' ∧ OwnLabels v4.heap.size (.slice (some ⟨gy, 0, none⟩) (nb + 3) cy) (b ++ Mark.some 3) w' ∧ OwnLabels v5.heap.size (.slice (some ⟨gz, 0, none⟩) (ne + 3) cz) (es ++ Mark.some 3) w' ∧ OwnTexts v6.heap.size (.slice (some ⟨gt, 0, none⟩) (nt + 12) ctt) (xs ++ Mark.ts 12) w' ∧ OwnLabels W8.heap.size (.slice g0p m0 g0c) r0 w') := fun w' h => ⟨(K8x.out w' ((Ext.below hb).trans (t3.trans h))).1, (K8x.out w' ((Ext.below hb).trans (t3.trans h))).2.1, (K8x.out w' ((Ext.below hb).trans (t3.trans h))).2.2.1, (K8x.out w' ((Ext.below hb).trans (t3.trans h))).2.2.2.1, (K8x.out w' ((Ext.below hb).trans (t3.trans h))).2.2.2.2.1, (K8x.out w' ((Ext.below hb).trans (t3.trans h))).2.2.2.2.2.1, (K8x.out w' ((Ext.below hb).trans (t3.trans h))).2.2.2.2.2.2.1, (K8x.out w' ((Ext.below hb).trans (t3.trans h))).2.2.2.2.2.2.2, HV.out.ext (t3.trans h) (fun g hg _ => hNU g hg)⟩
  have B9x := t4
  have HOU2 : Hid (O < V8.heap.size ∧ E < V8.heap.size) := ⟨lt_of_heap t1, lt_of_heap t2⟩
  clear HOU
  have HOU := HOU2
  clear K8x B8x hb hNU HOU2 t1 t2 t3 t4 t5 c0 c1 f0 f1 c2 f2 hW HOV HEV HV HM HP0
  go_wp2_with (go_at_call 34; refine (HP1.out _ cx _ cy _ ((K9x.out _ (Ext.refl _ _)).2.2.2.2.1).at.take ((K9x.out _ (Ext.refl _ _)).2.2.2.2.2.1).at.take).mono ?_)
  first | rintro e y9 g1p g1c rfl hv hm hb | rintro e y9 ⟨⟨g1p, g1c, rfl, hv, hm⟩, hb⟩
  have hOv := below_kept hb HO.out (lt_of_heap HO.out)
  have hEv := below_kept hb HE.out (lt_of_heap HE.out)
  have c0 : y9.cell? ⟨O, 1, none⟩ = some (.slice none 0 0) := by rw [Lib.cell_of_heap hOv]; rfl
  have c1 : y9.cell? ⟨E, 1, none⟩ = some (.int .i64 0) := by rw [Lib.cell_of_heap hEv]; rfl
  have f0 : y9.frozen? ⟨O, 1, none⟩ = false := Lib.frozen_of_heap hOv _
  have f1 : y9.frozen? ⟨E, 1, none⟩ = false := Lib.frozen_of_heap hEv _
  have hne : (⟨O, 1, none⟩ : Addr) ≠ ⟨E, 1, none⟩ := fun e => by
    have := hVO.out.2
    simp only [Addr.mk.injEq, and_true] at e
    omega
  have c2 : (y9.setCell ⟨O, 1, none⟩ (.slice g1p m1 g1c)).cell? ⟨E, 1, none⟩ = some (.int .i64 0) := (World.cell?_setCell_other _ _ _ _ hne).trans c1
  have f2 : (y9.setCell ⟨O, 1, none⟩ (.slice g1p m1 g1c)).frozen? ⟨E, 1, none⟩ = false := by rw [World.frozen?_setCell]; exact f1
  clear hne
  have HOV := Lib.hid hOv
  have HEV := Lib.hid hEv
  have HV := Lib.hid hv
  have HM := Lib.hid hm
  have HINg1 := Lib.hid (OwnLabels.isIn hv)
  clear hOv hEv hv hm
  go_wp2_with fail
  obtain ⟨V9, hW⟩ : ∃ W, W = (y9.setCell ⟨O, 1, none⟩ (.slice g1p m1 g1c)).setCell ⟨E, 1, none⟩ (.int .i64 e1) := ⟨_, rfl⟩
  obtain ⟨t1, t2, t3, t4, t5⟩ := two_set [O, E] w y9 O E 1 _ _ _ _ _ _ (by have := hVO.out.2; omega) HOV.out HEV.out (by simp) (by simp) V9 hW (below_next B9x hb) (by have := hBwO.out; omega) (by have := hBwO.out; have := hVO.out.2; omega)
  rw [← hW]
  have t1 : V9.heap[O]? = some (.cells #[.slice g0p m0 g0c, .slice g1p m1 g1c, .slice none 0 0, .slice none 0 0, .slice none 0 0, .slice none 0 0] 68) := t1
  have t2 : V9.heap[E]? = some (.cells #[.int .i64 e0, .int .i64 e1, .int .i64 0, .int .i64 0, .int .i64 0, .int .i64 0] 69) := t2
  clear HO HE
  have HO := Lib.hid t1
  have HE := Lib.hid t2
  have hzg1 : V8.heap.size ≤ V9.heap.size := by rw [t5]; exact hb.size
  have HINg1 : Hid (Apart.In V8.heap.size V9.heap.size g1p) := by
    rw [t5]
    exact HINg1.out
  have HMg1 := HM
  have hNU : ∀ g, V8.heap.size ≤ g → g ∉ [O, E] := fun g hg hm => by
    have h1 := HOU.out
    simp only [List.mem_cons, List.not_mem_nil, or_false] at hm
    omega
  have K10x : Hid (∀ w', Ext [O, E] V9 w' → Lab.At pa a w' ∧ Lab.At pb b w' ∧ Lab.At pe es w' ∧ Txt.At pt xs w' ∧ OwnLabels v3.heap.size (.slice (some ⟨gx, 0, none⟩) (na + 3) cx) (a ++ Mark.some 3) w' ∧ OwnLabels v4.heap.size (.slice (some ⟨gy, 0, none⟩) (nb + 3) cy) (b ++ Mark.some 3) w' ∧ OwnLabels v5.heap.size (.slice (some ⟨gz, 0, none⟩) (ne + 3) cz) (es ++ Mark.some 3) w' ∧ OwnTexts v6.heap.size (.slice (some ⟨gt, 0, none⟩) (nt + 12) ctt) (xs ++ Mark.ts 12) w' ∧ OwnLabels W8.heap.size (.slice g0p m0 g0c) r0 w' ∧ OwnLabels V8.heap.size (.slice g1p m1 g1c) r1 w') := fun w' h => ⟨(K9x.out w' ((Ext.below hb).trans (t3.trans h))).1, (K9x.out w' ((Ext.below hb).trans (t3.trans h))).2.1, (K9x.out w' ((Ext.below hb).trans (t3.trans h))).2.2.1, (K9x.out w' ((Ext.below hb).trans (t3.trans h))).2.2.2.1, (K9x.out w' ((Ext.below hb).trans (t3.trans h))).2.2.2.2.1, (K9x.out w' ((Ext.below hb).trans (t3.trans h))).2.2.2.2.2.1, (K9x.out w' ((Ext.below hb).trans (t3.trans h))).2.2.2.2.2.2.1, (K9x.out w' ((Ext.below hb).trans (t3.trans h))).2.2.2.2.2.2.2.1, (K9x.out w' ((Ext.below hb).trans (t3.trans h))).2.2.2.2.2.2.2.2, HV.out.ext (t3.trans h) (fun g hg _ => hNU g hg)⟩
  have B10x := t4
  have HOU2 : Hid (O < V9.heap.size ∧ E < V9.heap.size) := ⟨lt_of_heap t1, lt_of_heap t2⟩
  clear HOU
  have HOU := HOU2
  clear K9x B9x hb hNU HOU2 t1 t2 t3 t4 t5 c0 c1 f0 f1 c2 f2 hW HOV HEV HV HM HP1
  go_wp2_with (go_at_call 35; refine (HP2.out _ cx _ cy _ ((K10x.out _ (Ext.refl _ _)).2.2.2.2.1).at.take ((K10x.out _ (Ext.refl _ _)).2.2.2.2.2.1).at.take).mono ?_)
  first | rintro e y10 g2p g2c rfl hv hm hb | rintro e y10 ⟨⟨g2p, g2c, rfl, hv, hm⟩, hb⟩
  have hOv := below_kept hb HO.out (lt_of_heap HO.out)
  have hEv := below_kept hb HE.out (lt_of_heap HE.out)
  have c0 : y10.cell? ⟨O, 2, none⟩ = some (.slice none 0 0) := by rw [Lib.cell_of_heap hOv]; rfl
  have c1 : y10.cell? ⟨E, 2, none⟩ = some (.int .i64 0) := by rw [Lib.cell_of_heap hEv]; rfl
  have f0 : y10.frozen? ⟨O, 2, none⟩ = false := Lib.frozen_of_heap hOv _
  have f1 : y10.frozen? ⟨E, 2, none⟩ = false := Lib.frozen_of_heap hEv _
  have hne : (⟨O, 2, none⟩ : Addr) ≠ ⟨E, 2, none⟩ := fun e => by
    have := hVO.out.2
    simp only [Addr.mk.injEq, and_true] at e
    omega
  have c2 : (y10.setCell ⟨O, 2, none⟩ (.slice g2p m2 g2c)).cell? ⟨E, 2, none⟩ = some (.int .i64 0) := (World.cell?_setCell_other _ _ _ _ hne).trans c1
  have f2 : (y10.setCell ⟨O, 2, none⟩ (.slice g2p m2 g2c)).frozen? ⟨E, 2, none⟩ = false := by rw [World.frozen?_setCell]; exact f1
  clear hne
  have HOV := Lib.hid hOv
  have HEV := Lib.hid hEv
  have HV := Lib.hid hv
  have HM := Lib.hid hm
  have HINg2 := Lib.hid (OwnLabels.isIn hv)
  clear hOv hEv hv hm
  go_wp2_with fail
  obtain ⟨V10, hW⟩ : ∃ W, W = (y10.setCell ⟨O, 2, none⟩ (.slice g2p m2 g2c)).setCell ⟨E, 2, none⟩ (.int .i64 e2) := ⟨_, rfl⟩
  obtain ⟨t1, t2, t3, t4, t5⟩ := two_set [O, E] w y10 O E 2 _ _ _ _ _ _ (by have := hVO.out.2; omega) HOV.out HEV.out (by simp) (by simp) V10 hW (below_next B10x hb) (by have := hBwO.out; omega) (by have := hBwO.out; have := hVO.out.2; omega)
  rw [← hW]
  have t1 : V10.heap[O]? = some (.cells #[.slice g0p m0 g0c, .slice g1p m1 g1c, .slice g2p m2 g2c, .slice none 0 0, .slice none 0 0, .slice none 0 0] 68) := t1
  have t2 : V10.heap[E]? = some (.cells #[.int .i64 e0, .int .i64 e1, .int .i64 e2, .int .i64 0, .int .i64 0, .int .i64 0] 69) := t2
  clear HO HE
  have HO := Lib.hid t1
  have HE := Lib.hid t2
  have hzg2 : V9.heap.size ≤ V10.heap.size := by rw [t5]; exact hb.size
  have HINg2 : Hid (Apart.In V9.heap.size V10.heap.size g2p) := by
    rw [t5]
    exact HINg2.out
  have HMg2 := HM
  have hNU : ∀ g, V9.heap.size ≤ g → g ∉ [O, E] := fun g hg hm => by
    have h1 := HOU.out
    simp only [List.mem_cons, List.not_mem_nil, or_false] at hm
    omega
  have K11x : Hid (∀ w', Ext [O, E] V10 w' → Lab.At pa a w' ∧ Lab.At pb b w' ∧ Lab.At pe es w' ∧ Txt.At pt xs w' ∧ OwnLabels v3.heap.size (.slice (some ⟨gx, 0, none⟩) (na + 3) cx) (a ++ Mark.some 3) w' ∧ OwnLabels v4.heap.size (.slice (some ⟨gy, 0, none⟩) (nb + 3) cy) (b ++ Mark.some 3) w' ∧ OwnLabels v5.heap.size (.slice (some ⟨gz, 0, none⟩) (ne + 3) cz) (es ++ Mark.some 3) w' ∧ OwnTexts v6.heap.size (.slice (some ⟨gt, 0, none⟩) (nt + 12) ctt) (xs ++ Mark.ts 12) w' ∧ OwnLabels W8.heap.size (.slice g0p m0 g0c) r0 w' ∧ OwnLabels V8.heap.size (.slice g1p m1 g1c) r1 w' ∧ OwnLabels V9.heap.size (.slice g2p m2 g2c) r2 w') := fun w' h => ⟨(K10x.out w' ((Ext.below hb).trans (t3.trans h))).1, (K10x.out w' ((Ext.below hb).trans (t3.trans h))).2.1, (K10x.out w' ((Ext.below hb).trans (t3.trans h))).2.2.1, (K10x.out w' ((Ext.below hb).trans (t3.trans h))).2.2.2.1, (K10x.out w' ((Ext.below hb).trans (t3.trans h))).2.2.2.2.1, (K10x.out w' ((Ext.below hb).trans (t3.trans h))).2.2.2.2.2.1, (K10x.out w' ((Ext.below hb).trans (t3.trans h))).2.2.2.2.2.2.1, (K10x.out w' ((Ext.below hb).trans (t3.trans h))).2.2.2.2.2.2.2.1, (K10x.out w' ((Ext.below hb).trans (t3.trans h))).2.2.2.2.2.2.2.2.1, (K10x.out w' ((Ext.below hb).trans (t3.trans h))).2.2.2.2.2.2.2.2.2, HV.out.ext (t3.trans h) (fun g hg _ => hNU g hg)⟩
  have B11x := t4
  have HOU2 : Hid (O < V10.heap.size ∧ E < V10.heap.size) := ⟨lt_of_heap t1, lt_of_heap t2⟩
  clear HOU
  have HOU := HOU2
  clear K10x B10x hb hNU HOU2 t1 t2 t3 t4 t5 c0 c1 f0 f1 c2 f2 hW HOV HEV HV HM HP2
  go_wp2_with (go_at_call 36; refine (HP3.out _ cx _ ctt _ ((K11x.out _ (Ext.refl _ _)).2.2.2.2.1).at.take ((K11x.out _ (Ext.refl _ _)).2.2.2.2.2.2.2.1).take).mono ?_)
  first | rintro e y11 g3p g3c rfl hv hm hb | rintro e y11 ⟨⟨g3p, g3c, rfl, hv, hm⟩, hb⟩
  have hOv := below_kept hb HO.out (lt_of_heap HO.out)
  have hEv := below_kept hb HE.out (lt_of_heap HE.out)
  have c0 : y11.cell? ⟨O, 3, none⟩ = some (.slice none 0 0) := by rw [Lib.cell_of_heap hOv]; rfl
  have c1 : y11.cell? ⟨E, 3, none⟩ = some (.int .i64 0) := by rw [Lib.cell_of_heap hEv]; rfl
  have f0 : y11.frozen? ⟨O, 3, none⟩ = false := Lib.frozen_of_heap hOv _
  have f1 : y11.frozen? ⟨E, 3, none⟩ = false := Lib.frozen_of_heap hEv _
  have hne : (⟨O, 3, none⟩ : Addr) ≠ ⟨E, 3, none⟩ := fun e => by
    have := hVO.out.2
    simp only [Addr.mk.injEq, and_true] at e
    omega
  have c2 : (y11.setCell ⟨O, 3, none⟩ (.slice g3p m3 g3c)).cell? ⟨E, 3, none⟩ = some (.int .i64 0) := (World.cell?_setCell_other _ _ _ _ hne).trans c1
  have f2 : (y11.setCell ⟨O, 3, none⟩ (.slice g3p m3 g3c)).frozen? ⟨E, 3, none⟩ = false := by rw [World.frozen?_setCell]; exact f1
  clear hne
  have HOV := Lib.hid hOv
  have HEV := Lib.hid hEv
  have HV := Lib.hid hv
  have HM := Lib.hid hm
  have HINg3 := Lib.hid (OwnLabels.isIn hv)
  clear hOv hEv hv hm
  go_wp2_with fail
  obtain ⟨V11, hW⟩ : ∃ W, W = (y11.setCell ⟨O, 3, none⟩ (.slice g3p m3 g3c)).setCell ⟨E, 3, none⟩ (.int .i64 e3) := ⟨_, rfl⟩
  obtain ⟨t1, t2, t3, t4, t5⟩ := two_set [O, E] w y11 O E 3 _ _ _ _ _ _ (by have := hVO.out.2; omega) HOV.out HEV.out (by simp) (by simp) V11 hW (below_next B11x hb) (by have := hBwO.out; omega) (by have := hBwO.out; have := hVO.out.2; omega)
  rw [← hW]
  have t1 : V11.heap[O]? = some (.cells #[.slice g0p m0 g0c, .slice g1p m1 g1c, .slice g2p m2 g2c, .slice g3p m3 g3c, .slice none 0 0, .slice none 0 0] 68) := t1
  have t2 : V11.heap[E]? = some (.cells #[.int .i64 e0, .int .i64 e1, .int .i64 e2, .int .i64 e3, .int .i64 0, .int .i64 0] 69) := t2
  clear HO HE
  have HO := Lib.hid t1
  have HE := Lib.hid t2
  have hzg3 : V10.heap.size ≤ V11.heap.size := by rw [t5]; exact hb.size
  have HINg3 : Hid (Apart.In V10.heap.size V11.heap.size g3p) := by
    rw [t5]
    exact HINg3.out
  have HMg3 := HM
  have hNU : ∀ g, V10.heap.size ≤ g → g ∉ [O, E] := fun g hg hm => by
    have h1 := HOU.out
    simp only [List.mem_cons, List.not_mem_nil, or_false] at hm
    omega
  have K12x : Hid (∀ w', Ext [O, E] V11 w' → Lab.At pa a w' ∧ Lab.At pb b w' ∧ Lab.At pe es w' ∧ Txt.At pt xs w' ∧ OwnLabels v3.heap.size (.slice (some ⟨gx, 0, none⟩) (na + 3) cx) (a ++ Mark.some 3) w' ∧ OwnLabels v4.heap.size (.slice (some ⟨gy, 0, none⟩) (nb + 3) cy) (b ++ Mark.some 3) w' ∧ OwnLabels v5.heap.size (.slice (some ⟨gz, 0, none⟩) (ne + 3) cz) (es ++ Mark.some 3) w' ∧ OwnTexts v6.heap.size (.slice (some ⟨gt, 0, none⟩) (nt + 12) ctt) (xs ++ Mark.ts 12) w' ∧ OwnLabels W8.heap.size (.slice g0p m0 g0c) r0 w' ∧ OwnLabels V8.heap.size (.slice g1p m1 g1c) r1 w' ∧ OwnLabels V9.heap.size (.slice g2p m2 g2c) r2 w' ∧ OwnLabels V10.heap.size (.slice g3p m3 g3c) r3 w') := fun w' h => ⟨(K11x.out w' ((Ext.below hb).trans (t3.trans h))).1, (K11x.out w' ((Ext.below hb).trans (t3.trans h))).2.1, (K11x.out w' ((Ext.below hb).trans (t3.trans h))).2.2.1, (K11x.out w' ((Ext.below hb).trans (t3.trans h))).2.2.2.1, (K11x.out w' ((Ext.below hb).trans (t3.trans h))).2.2.2.2.1, (K11x.out w' ((Ext.below hb).trans (t3.trans h))).2.2.2.2.2.1, (K11x.out w' ((Ext.below hb).trans (t3.trans h))).2.2.2.2.2.2.1, (K11x.out w' ((Ext.below hb).trans (t3.trans h))).2.2.2.2.2.2.2.1, (K11x.out w' ((Ext.below hb).trans (t3.trans h))).2.2.2.2.2.2.2.2.1, (K11x.out w' ((Ext.below hb).trans (t3.trans h))).2.2.2.2.2.2.2.2.2.1, (K11x.out w' ((Ext.below hb).trans (t3.trans h))).2.2.2.2.2.2.2.2.2.2, HV.out.ext (t3.trans h) (fun g hg _ => hNU g hg)⟩
  have B12x := t4
  have HOU2 : Hid (O < V11.heap.size ∧ E < V11.heap.size) := ⟨lt_of_heap t1, lt_of_heap t2⟩
  clear HOU
  have HOU := HOU2
  clear K11x B11x hb hNU HOU2 t1 t2 t3 t4 t5 c0 c1 f0 f1 c2 f2 hW HOV HEV HV HM HP3
  go_wp2_with (go_at_call 37; refine (HP4.out _ cx _ ctt _ ((K12x.out _ (Ext.refl _ _)).2.2.2.2.1).at.take ((K12x.out _ (Ext.refl _ _)).2.2.2.2.2.2.2.1).take).mono ?_)
  first | rintro e y12 g4p g4c rfl hv hm hb | rintro e y12 ⟨⟨g4p, g4c, rfl, hv, hm⟩, hb⟩
  have hOv := below_kept hb HO.out (lt_of_heap HO.out)
  have hEv := below_kept hb HE.out (lt_of_heap HE.out)
  have c0 : y12.cell? ⟨O, 4, none⟩ = some (.slice none 0 0) := by rw [Lib.cell_of_heap hOv]; rfl
  have c1 : y12.cell? ⟨E, 4, none⟩ = some (.int .i64 0) := by rw [Lib.cell_of_heap hEv]; rfl
  have f0 : y12.frozen? ⟨O, 4, none⟩ = false := Lib.frozen_of_heap hOv _
  have f1 : y12.frozen? ⟨E, 4, none⟩ = false := Lib.frozen_of_heap hEv _
  have hne : (⟨O, 4, none⟩ : Addr) ≠ ⟨E, 4, none⟩ := fun e => by
    have := hVO.out.2
    simp only [Addr.mk.injEq, and_true] at e
    omega
  have c2 : (y12.setCell ⟨O, 4, none⟩ (.slice g4p m4 g4c)).cell? ⟨E, 4, none⟩ = some (.int .i64 0) := (World.cell?_setCell_other _ _ _ _ hne).trans c1
  have f2 : (y12.setCell ⟨O, 4, none⟩ (.slice g4p m4 g4c)).frozen? ⟨E, 4, none⟩ = false := by rw [World.frozen?_setCell]; exact f1
  clear hne
  have HOV := Lib.hid hOv
  have HEV := Lib.hid hEv
  have HV := Lib.hid hv
  have HM := Lib.hid hm
  have HINg4 := Lib.hid (OwnLabels.isIn hv)
  clear hOv hEv hv hm
  go_wp2_with fail
  obtain ⟨V12, hW⟩ : ∃ W, W = (y12.setCell ⟨O, 4, none⟩ (.slice g4p m4 g4c)).setCell ⟨E, 4, none⟩ (.int .i64 e4) := ⟨_, rfl⟩
  obtain ⟨t1, t2, t3, t4, t5⟩ := two_set [O, E] w y12 O E 4 _ _ _ _ _ _ (by have := hVO.out.2; omega) HOV.out HEV.out (by simp) (by simp) V12 hW (below_next B12x hb) (by have := hBwO.out; omega) (by have := hBwO.out; have := hVO.out.2; omega)
  rw [← hW]
  have t1 : V12.heap[O]? = some (.cells #[.slice g0p m0 g0c, .slice g1p m1 g1c, .slice g2p m2 g2c, .slice g3p m3 g3c, .slice g4p m4 g4c, .slice none 0 0] 68) := t1
  have t2 : V12.heap[E]? = some (.cells #[.int .i64 e0, .int .i64 e1, .int .i64 e2, .int .i64 e3, .int .i64 e4, .int .i64 0] 69) := t2
  clear HO HE
  have HO := Lib.hid t1
  have HE := Lib.hid t2
  have hzg4 : V11.heap.size ≤ V12.heap.size := by rw [t5]; exact hb.size
  have HINg4 : Hid (Apart.In V11.heap.size V12.heap.size g4p) := by
    rw [t5]
    exact HINg4.out
  have HMg4 := HM
  have hNU : ∀ g, V11.heap.size ≤ g → g ∉ [O, E] := fun g hg hm => by
    have h1 := HOU.out
    simp only [List.mem_cons, List.not_mem_nil, or_false] at hm
    omega
  have K13x : Hid (∀ w', Ext [O, E] V12 w' → Lab.At pa a w' ∧ Lab.At pb b w' ∧ Lab.At pe es w' ∧ Txt.At pt xs w' ∧ OwnLabels v3.heap.size (.slice (some ⟨gx, 0, none⟩) (na + 3) cx) (a ++ Mark.some 3) w' ∧ OwnLabels v4.heap.size (.slice (some ⟨gy, 0, none⟩) (nb + 3) cy) (b ++ Mark.some 3) w' ∧ OwnLabels v5.heap.size (.slice (some ⟨gz, 0, none⟩) (ne + 3) cz) (es ++ Mark.some 3) w' ∧ OwnTexts v6.heap.size (.slice (some ⟨gt, 0, none⟩) (nt + 12) ctt) (xs ++ Mark.ts 12) w' ∧ OwnLabels W8.heap.size (.slice g0p m0 g0c) r0 w' ∧ OwnLabels V8.heap.size (.slice g1p m1 g1c) r1 w' ∧ OwnLabels V9.heap.size (.slice g2p m2 g2c) r2 w' ∧ OwnLabels V10.heap.size (.slice g3p m3 g3c) r3 w' ∧ OwnLabels V11.heap.size (.slice g4p m4 g4c) r4 w') := fun w' h => ⟨(K12x.out w' ((Ext.below hb).trans (t3.trans h))).1, (K12x.out w' ((Ext.below hb).trans (t3.trans h))).2.1, (K12x.out w' ((Ext.below hb).trans (t3.trans h))).2.2.1, (K12x.out w' ((Ext.below hb).trans (t3.trans h))).2.2.2.1, (K12x.out w' ((Ext.below hb).trans (t3.trans h))).2.2.2.2.1, (K12x.out w' ((Ext.below hb).trans (t3.trans h))).2.2.2.2.2.1, (K12x.out w' ((Ext.below hb).trans (t3.trans h))).2.2.2.2.2.2.1, (K12x.out w' ((Ext.below hb).trans (t3.trans h))).2.2.2.2.2.2.2.1, (K12x.out w' ((Ext.below hb).trans (t3.trans h))).2.2.2.2.2.2.2.2.1, (K12x.out w' ((Ext.below hb).trans (t3.trans h))).2.2.2.2.2.2.2.2.2.1, (K12x.out w' ((Ext.below hb).trans (t3.trans h))).2.2.2.2.2.2.2.2.2.2.1, (K12x.out w' ((Ext.below hb).trans (t3.trans h))).2.2.2.2.2.2.2.2.2.2.2, HV.out.ext (t3.trans h) (fun g hg _ => hNU g hg)⟩
  have B13x := t4
  have HOU2 : Hid (O < V12.heap.size ∧ E < V12.heap.size) := ⟨lt_of_heap t1, lt_of_heap t2⟩
  clear HOU
  have HOU := HOU2
  clear K12x B12x hb hNU HOU2 t1 t2 t3 t4 t5 c0 c1 f0 f1 c2 f2 hW HOV HEV HV HM HP4
  go_wp2_with (go_at_call 38; refine (HP5.out _ cx _ ((K13x.out _ (Ext.refl _ _)).2.2.2.2.1).at.take).mono ?_)
  first | rintro e y13 g5p g5c rfl hv hm hb | rintro e y13 ⟨⟨g5p, g5c, rfl, hv, hm⟩, hb⟩
  have hOv := below_kept hb HO.out (lt_of_heap HO.out)
  have hEv := below_kept hb HE.out (lt_of_heap HE.out)
  have c0 : y13.cell? ⟨O, 5, none⟩ = some (.slice none 0 0) := by rw [Lib.cell_of_heap hOv]; rfl
  have c1 : y13.cell? ⟨E, 5, none⟩ = some (.int .i64 0) := by rw [Lib.cell_of_heap hEv]; rfl
  have f0 : y13.frozen? ⟨O, 5, none⟩ = false := Lib.frozen_of_heap hOv _
  have f1 : y13.frozen? ⟨E, 5, none⟩ = false := Lib.frozen_of_heap hEv _
  have hne : (⟨O, 5, none⟩ : Addr) ≠ ⟨E, 5, none⟩ := fun e => by
    have := hVO.out.2
    simp only [Addr.mk.injEq, and_true] at e
    omega
  have c2 : (y13.setCell ⟨O, 5, none⟩ (.slice g5p m5 g5c)).cell? ⟨E, 5, none⟩ = some (.int .i64 0) := (World.cell?_setCell_other _ _ _ _ hne).trans c1
  have f2 : (y13.setCell ⟨O, 5, none⟩ (.slice g5p m5 g5c)).frozen? ⟨E, 5, none⟩ = false := by rw [World.frozen?_setCell]; exact f1
  clear hne
  have HOV := Lib.hid hOv
  have HEV := Lib.hid hEv
  have HV := Lib.hid hv
  have HM := Lib.hid hm
  have HINg5 := Lib.hid (OwnLabels.isIn hv)
  clear hOv hEv hv hm
  go_wp2_with fail
  obtain ⟨V13, hW⟩ : ∃ W, W = (y13.setCell ⟨O, 5, none⟩ (.slice g5p m5 g5c)).setCell ⟨E, 5, none⟩ (.int .i64 e5) := ⟨_, rfl⟩
  obtain ⟨t1, t2, t3, t4, t5⟩ := two_set [O, E] w y13 O E 5 _ _ _ _ _ _ (by have := hVO.out.2; omega) HOV.out HEV.out (by simp) (by simp) V13 hW (below_next B13x hb) (by have := hBwO.out; omega) (by have := hBwO.out; have := hVO.out.2; omega)
  rw [← hW]
  have t1 : V13.heap[O]? = some (.cells #[.slice g0p m0 g0c, .slice g1p m1 g1c, .slice g2p m2 g2c, .slice g3p m3 g3c, .slice g4p m4 g4c, .slice g5p m5 g5c] 68) := t1
  have t2 : V13.heap[E]? = some (.cells #[.int .i64 e0, .int .i64 e1, .int .i64 e2, .int .i64 e3, .int .i64 e4, .int .i64 e5] 69) := t2
  clear HO HE
  have HO := Lib.hid t1
  have HE := Lib.hid t2
  have hzg5 : V12.heap.size ≤ V13.heap.size := by rw [t5]; exact hb.size
  have HINg5 : Hid (Apart.In V12.heap.size V13.heap.size g5p) := by
    rw [t5]
    exact HINg5.out
  have HMg5 := HM
  have hNU : ∀ g, V12.heap.size ≤ g → g ∉ [O, E] := fun g hg hm => by
    have h1 := HOU.out
    simp only [List.mem_cons, List.not_mem_nil, or_false] at hm
    omega
  have K14x : Hid (∀ w', Ext [O, E] V13 w' → Lab.At pa a w' ∧ Lab.At pb b w' ∧ Lab.At pe es w' ∧ Txt.At pt xs w' ∧ OwnLabels v3.heap.size (.slice (some ⟨gx, 0, none⟩) (na + 3) cx) (a ++ Mark.some 3) w' ∧ OwnLabels v4.heap.size (.slice (some ⟨gy, 0, none⟩) (nb + 3) cy) (b ++ Mark.some 3) w' ∧ OwnLabels v5.heap.size (.slice (some ⟨gz, 0, none⟩) (ne + 3) cz) (es ++ Mark.some 3) w' ∧ OwnTexts v6.heap.size (.slice (some ⟨gt, 0, none⟩) (nt + 12) ctt) (xs ++ Mark.ts 12) w' ∧ OwnLabels W8.heap.size (.slice g0p m0 g0c) r0 w' ∧ OwnLabels V8.heap.size (.slice g1p m1 g1c) r1 w' ∧ OwnLabels V9.heap.size (.slice g2p m2 g2c) r2 w' ∧ OwnLabels V10.heap.size (.slice g3p m3 g3c) r3 w' ∧ OwnLabels V11.heap.size (.slice g4p m4 g4c) r4 w' ∧ OwnLabels V12.heap.size (.slice g5p m5 g5c) r5 w') := fun w' h => ⟨(K13x.out w' ((Ext.below hb).trans (t3.trans h))).1, (K13x.out w' ((Ext.below hb).trans (t3.trans h))).2.1, (K13x.out w' ((Ext.below hb).trans (t3.trans h))).2.2.1, (K13x.out w' ((Ext.below hb).trans (t3.trans h))).2.2.2.1, (K13x.out w' ((Ext.below hb).trans (t3.trans h))).2.2.2.2.1, (K13x.out w' ((Ext.below hb).trans (t3.trans h))).2.2.2.2.2.1, (K13x.out w' ((Ext.below hb).trans (t3.trans h))).2.2.2.2.2.2.1, (K13x.out w' ((Ext.below hb).trans (t3.trans h))).2.2.2.2.2.2.2.1, (K13x.out w' ((Ext.below hb).trans (t3.trans h))).2.2.2.2.2.2.2.2.1, (K13x.out w' ((Ext.below hb).trans (t3.trans h))).2.2.2.2.2.2.2.2.2.1, (K13x.out w' ((Ext.below hb).trans (t3.trans h))).2.2.2.2.2.2.2.2.2.2.1, (K13x.out w' ((Ext.below hb).trans (t3.trans h))).2.2.2.2.2.2.2.2.2.2.2.1, (K13x.out w' ((Ext.below hb).trans (t3.trans h))).2.2.2.2.2.2.2.2.2.2.2.2, HV.out.ext (t3.trans h) (fun g hg _ => hNU g hg)⟩
  have B14x := t4
  have HOU2 : Hid (O < V13.heap.size ∧ E < V13.heap.size) := ⟨lt_of_heap t1, lt_of_heap t2⟩
  clear HOU
  have HOU := HOU2
  have HT5 := Lib.hid t5
  clear K13x B13x hb hNU HOU2 t1 t2 t3 t4 t5 c0 c1 f0 f1 c2 f2 hW HOV HEV HV HM HP5
  have HO1 := HO
  have HE1 := HE
  clear HO HE HOU
  have hBwO2 : Hid (w.heap.size ≤ V13.heap.size) := B14x.size
  go_wp2_with fail
  obtain ⟨W15, hW⟩ : ∃ W, W = (V13.alloc (.cells #[.slice none 0 0, .slice none 0 0, .slice none 0 0, .slice none 0 0, .slice none 0 0, .slice none 0 0] 74)).alloc (.cells #[.int .i64 0, .int .i64 0, .int .i64 0, .int .i64 0, .int .i64 0, .int .i64 0] 75) := ⟨_, rfl⟩
  have hbW15 : Below V13.heap.size V13 W15 := by rw [hW]; exact ((Below.refl _ _).alloc (Nat.le_refl _) _).alloc (by simp) _
  have hOW15 : W15.heap[V13.heap.size]? = some (.cells #[.slice none 0 0, .slice none 0 0, .slice none 0 0, .slice none 0 0, .slice none 0 0, .slice none 0 0] 74) := by rw [hW]; exact alloc_kept (alloc_new _ _)
  have hEW15 : W15.heap[V13.heap.size + 1]? = some (.cells #[.int .i64 0, .int .i64 0, .int .i64 0, .int .i64 0, .int .i64 0, .int .i64 0] 75) := by
    rw [hW]
    have := alloc_new (V13.alloc (.cells #[.slice none 0 0, .slice none 0 0, .slice none 0 0, .slice none 0 0, .slice none 0 0, .slice none 0 0] 74)) (.cells #[.int .i64 0, .int .i64 0, .int .i64 0, .int .i64 0, .int .i64 0, .int .i64 0] 75)
    rw [World.size_alloc] at this
    exact this
  have hNW15 : ∀ g, g < V13.heap.size → g ∉ [V13.heap.size, V13.heap.size + 1] := fun g hg hm => by
    simp only [List.mem_cons, List.not_mem_nil, or_false] at hm
    omega
  rw [← hW]
  clear hW
  rw [← HT5.out]
  clear HT5
  obtain ⟨O2, hO⟩ : ∃ O, V13.heap.size = O := ⟨_, rfl⟩
  obtain ⟨E2, hE⟩ : ∃ E, O2 + 1 = E := ⟨_, rfl⟩
  have hNVO2 : Hid (∀ g, g < V13.heap.size → g ∉ [O2, E2]) := by
    show ∀ g, g < V13.heap.size → g ∉ [O2, E2]
    rw [hO] at hNW15
    rw [hE] at hNW15
    rw [hO]
    exact hNW15
  have hVO2 : Hid (V13.heap.size = O2 ∧ O2 + 1 = E2) := ⟨hO, hE⟩
  rw [hO] at hOW15 hEW15 hNW15 ⊢
  rw [hE] at hEW15 hNW15 ⊢
  have HO := Lib.hid hOW15
  have HE := Lib.hid hEW15
  have hxW15 : Ext [O2, E2] V13 W15 := Ext.below hbW15
  clear hOW15 hEW15 hNW15 hO hE
  have K15x : Hid (∀ w', Ext [O2, E2] W15 w' → Lab.At pa a w' ∧ Lab.At pb b w' ∧ Lab.At pe es w' ∧ Txt.At pt xs w' ∧ OwnLabels v3.heap.size (.slice (some ⟨gx, 0, none⟩) (na + 3) cx) (a ++ Mark.some 3) w' ∧ OwnLabels v4.heap.size (.slice (some ⟨gy, 0, none⟩) (nb + 3) cy) (b ++ Mark.some 3) w' ∧ OwnLabels v5.heap.size (.slice (some ⟨gz, 0, none⟩) (ne + 3) cz) (es ++ Mark.some 3) w' ∧ OwnTexts v6.heap.size (.slice (some ⟨gt, 0, none⟩) (nt + 12) ctt) (xs ++ Mark.ts 12) w' ∧ OwnLabels W8.heap.size (.slice g0p m0 g0c) r0 w' ∧ OwnLabels V8.heap.size (.slice g1p m1 g1c) r1 w' ∧ OwnLabels V9.heap.size (.slice g2p m2 g2c) r2 w' ∧ OwnLabels V10.heap.size (.slice g3p m3 g3c) r3 w' ∧ OwnLabels V11.heap.size (.slice g4p m4 g4c) r4 w' ∧ OwnLabels V12.heap.size (.slice g5p m5 g5c) r5 w' ∧ w'.heap[O]? = some (.cells #[.slice g0p m0 g0c, .slice g1p m1 g1c, .slice g2p m2 g2c, .slice g3p m3 g3c, .slice g4p m4 g4c, .slice g5p m5 g5c] 68) ∧ w'.heap[E]? = some (.cells #[.int .i64 e0, .int .i64 e1, .int .i64 e2, .int .i64 e3, .int .i64 e4, .int .i64 e5] 69)) := fun w' h => ⟨((K14x.out _ (Ext.refl _ _)).1).ext (hxW15.trans h) (fun b _ _ hb => hNVO2.out b hb), ((K14x.out _ (Ext.refl _ _)).2.1).ext (hxW15.trans h) (fun b _ _ hb => hNVO2.out b hb), ((K14x.out _ (Ext.refl _ _)).2.2.1).ext (hxW15.trans h) (fun b _ _ hb => hNVO2.out b hb), ((K14x.out _ (Ext.refl _ _)).2.2.2.1).ext (hxW15.trans h) (fun b _ _ hb => hNVO2.out b hb), ((K14x.out _ (Ext.refl _ _)).2.2.2.2.1).ext (hxW15.trans h) (fun g _ hg => hNVO2.out g hg), ((K14x.out _ (Ext.refl _ _)).2.2.2.2.2.1).ext (hxW15.trans h) (fun g _ hg => hNVO2.out g hg), ((K14x.out _ (Ext.refl _ _)).2.2.2.2.2.2.1).ext (hxW15.trans h) (fun g _ hg => hNVO2.out g hg), ((K14x.out _ (Ext.refl _ _)).2.2.2.2.2.2.2.1).ext (hxW15.trans h) (fun g _ hg => hNVO2.out g hg), ((K14x.out _ (Ext.refl _ _)).2.2.2.2.2.2.2.2.1).ext (hxW15.trans h) (fun g _ hg => hNVO2.out g hg), ((K14x.out _ (Ext.refl _ _)).2.2.2.2.2.2.2.2.2.1).ext (hxW15.trans h) (fun g _ hg => hNVO2.out g hg), ((K14x.out _ (Ext.refl _ _)).2.2.2.2.2.2.2.2.2.2.1).ext (hxW15.trans h) (fun g _ hg => hNVO2.out g hg), ((K14x.out _ (Ext.refl _ _)).2.2.2.2.2.2.2.2.2.2.2.1).ext (hxW15.trans h) (fun g _ hg => hNVO2.out g hg), ((K14x.out _ (Ext.refl _ _)).2.2.2.2.2.2.2.2.2.2.2.2.1).ext (hxW15.trans h) (fun g _ hg => hNVO2.out g hg), ((K14x.out _ (Ext.refl _ _)).2.2.2.2.2.2.2.2.2.2.2.2.2).ext (hxW15.trans h) (fun g _ hg => hNVO2.out g hg), (hxW15.trans h).block (HO1.out) (hNVO2.out _ (lt_of_heap (HO1.out))), (hxW15.trans h).block (HE1.out) (hNVO2.out _ (lt_of_heap (HE1.out)))⟩
  have B15x := below_next B14x hbW15
  clear K14x B14x hbW15
  clear HO1 HE1
  have hBwO2 : Hid (w.heap.size ≤ O2) := by
    show w.heap.size ≤ O2
    have h1 := hBwO2.out
    rw [hVO2.out.1] at h1
    exact h1
  have HOU : Hid (O2 < W15.heap.size ∧ E2 < W15.heap.size) := ⟨lt_of_heap HO.out, lt_of_heap HE.out⟩
  go_wp2_with (go_at_call 39; refine (HR0.out _ ((K15x.out _ (Ext.refl _ _)).1) ((K15x.out _ (Ext.refl _ _)).2.2.1)).mono ?_)
  first | rintro e y15 k0p k0c rfl hv hm hb | rintro e y15 ⟨⟨k0p, k0c, rfl, hv, hm⟩, hb⟩
  have hOv := below_kept hb HO.out (lt_of_heap HO.out)
  have hEv := below_kept hb HE.out (lt_of_heap HE.out)
  have c0 : y15.cell? ⟨O2, 0, none⟩ = some (.slice none 0 0) := by rw [Lib.cell_of_heap hOv]; rfl
  have c1 : y15.cell? ⟨E2, 0, none⟩ = some (.int .i64 0) := by rw [Lib.cell_of_heap hEv]; rfl
  have f0 : y15.frozen? ⟨O2, 0, none⟩ = false := Lib.frozen_of_heap hOv _
  have f1 : y15.frozen? ⟨E2, 0, none⟩ = false := Lib.frozen_of_heap hEv _
  have hne : (⟨O2, 0, none⟩ : Addr) ≠ ⟨E2, 0, none⟩ := fun e => by
    have := hVO2.out.2
    simp only [Addr.mk.injEq, and_true] at e
    omega
  have c2 : (y15.setCell ⟨O2, 0, none⟩ (.slice k0p m0 k0c)).cell? ⟨E2, 0, none⟩ = some (.int .i64 0) := (World.cell?_setCell_other _ _ _ _ hne).trans c1
  have f2 : (y15.setCell ⟨O2, 0, none⟩ (.slice k0p m0 k0c)).frozen? ⟨E2, 0, none⟩ = false := by rw [World.frozen?_setCell]; exact f1
  clear hne
  have HOV := Lib.hid hOv
  have HEV := Lib.hid hEv
  have HV := Lib.hid hv
  have HM := Lib.hid hm
  have HINk0 := Lib.hid (OwnLabels.isIn hv)
  clear hOv hEv hv hm
  go_wp2_with fail
  obtain ⟨V15, hW⟩ : ∃ W, W = (y15.setCell ⟨O2, 0, none⟩ (.slice k0p m0 k0c)).setCell ⟨E2, 0, none⟩ (.int .i64 e0) := ⟨_, rfl⟩
  obtain ⟨t1, t2, t3, t4, t5⟩ := two_set [O2, E2] w y15 O2 E2 0 _ _ _ _ _ _ (by have := hVO2.out.2; omega) HOV.out HEV.out (by simp) (by simp) V15 hW (below_next B15x hb) (by have := hBwO2.out; omega) (by have := hBwO2.out; have := hVO2.out.2; omega)
  rw [← hW]
  have t1 : V15.heap[O2]? = some (.cells #[.slice k0p m0 k0c, .slice none 0 0, .slice none 0 0, .slice none 0 0, .slice none 0 0, .slice none 0 0] 74) := t1
  have t2 : V15.heap[E2]? = some (.cells #[.int .i64 e0, .int .i64 0, .int .i64 0, .int .i64 0, .int .i64 0, .int .i64 0] 75) := t2
  clear HO HE
  have HO := Lib.hid t1
  have HE := Lib.hid t2
  have hzk0 : W15.heap.size ≤ V15.heap.size := by rw [t5]; exact hb.size
  have HINk0 : Hid (Apart.In W15.heap.size V15.heap.size k0p) := by
    rw [t5]
    exact HINk0.out
  have HMk0 := HM
  have hNU : ∀ g, W15.heap.size ≤ g → g ∉ [O2, E2] := fun g hg hm => by
    have h1 := HOU.out
    simp only [List.mem_cons, List.not_mem_nil, or_false] at hm
    omega
  have K16x : Hid (∀ w', Ext [O2, E2] V15 w' → Lab.At pa a w' ∧ Lab.At pb b w' ∧ Lab.At pe es w' ∧ Txt.At pt xs w' ∧ OwnLabels v3.heap.size (.slice (some ⟨gx, 0, none⟩) (na + 3) cx) (a ++ Mark.some 3) w' ∧ OwnLabels v4.heap.size (.slice (some ⟨gy, 0, none⟩) (nb + 3) cy) (b ++ Mark.some 3) w' ∧ OwnLabels v5.heap.size (.slice (some ⟨gz, 0, none⟩) (ne + 3) cz) (es ++ Mark.some 3) w' ∧ OwnTexts v6.heap.size (.slice (some ⟨gt, 0, none⟩) (nt + 12) ctt) (xs ++ Mark.ts 12) w' ∧ OwnLabels W8.heap.size (.slice g0p m0 g0c) r0 w' ∧ OwnLabels V8.heap.size (.slice g1p m1 g1c) r1 w' ∧ OwnLabels V9.heap.size (.slice g2p m2 g2c) r2 w' ∧ OwnLabels V10.heap.size (.slice g3p m3 g3c) r3 w' ∧ OwnLabels V11.heap.size (.slice g4p m4 g4c) r4 w' ∧ OwnLabels V12.heap.size (.slice g5p m5 g5c) r5 w' ∧ w'.heap[O]? = some (.cells #[.slice g0p m0 g0c, .slice g1p m1 g1c, .slice g2p m2 g2c, .slice g3p m3 g3c, .slice g4p m4 g4c, .slice g5p m5 g5c] 68) ∧ w'.heap[E]? = some (.cells #[.int .i64 e0, .int .i64 e1, .int .i64 e2, .int .i64 e3, .int .i64 e4, .int .i64 e5] 69) ∧ OwnLabels W15.heap.size (.slice k0p m0 k0c) r0 w') := fun w' h => ⟨(K15x.out w' ((Ext.below hb).trans (t3.trans h))).1, (K15x.out w' ((Ext.below hb).trans (t3.trans h))).2.1, (K15x.out w' ((Ext.below hb).trans (t3.trans h))).2.2.1, (K15x.out w' ((Ext.below hb).trans (t3.trans h))).2.2.2.1, (K15x.out w' ((Ext.below hb).trans (t3.trans h))).2.2.2.2.1, (K15x.out w' ((Ext.below hb).trans (t3.trans h))).2.2.2.2.2.1, (K15x.out w' ((Ext.below hb).trans (t3.trans h))).2.2.2.2.2.2.1, (K15x.out w' ((Ext.below hb).trans (t3.trans h))).2.2.2.2.2.2.2.1, (K15x.out w' ((Ext.below hb).trans (t3.trans h))).2.2.2.2.2.2.2.2.1, (K15x.out w' ((Ext.below hb).trans (t3.trans h))).2.2.2.2.2.2.2.2.2.1, (K15x.out w' ((Ext.below hb).trans (t3.trans h))).2.2.2.2.2.2.2.2.2.2.1, (K15x.out w' ((Ext.below hb).trans (t3.trans h))).2.2.2.2.2.2.2.2.2.2.2.1, (K15x.out w' ((Ext.below hb).trans (t3.trans h))).2.2.2.2.2.2.2.2.2.2.2.2.1, (K15x.out w' ((Ext.below hb).trans (t3.trans h))).2.2.2.2.2.2.2.2.2.2.2.2.2.1, (K15x.out w' ((Ext.below hb).trans (t3.trans h))).2.2.2.2.2.2.2.2.2.2.2.2.2.2.1, (K15x.out w' ((Ext.below hb).trans (t3.trans h))).2.2.2.2.2.2.2.2.2.2.2.2.2.2.2, HV.out.ext (t3.trans h) (fun g hg _ => hNU g hg)⟩
  have B16x := t4
  have HOU2 : Hid (O2 < V15.heap.size ∧ E2 < V15.heap.size) := ⟨lt_of_heap t1, lt_of_heap t2⟩
  clear HOU
  have HOU := HOU2
  clear K15x B15x hb hNU HOU2 t1 t2 t3 t4 t5 c0 c1 f0 f1 c2 f2 hW HOV HEV HV HM HR0
  go_wp2_with (go_at_call 40; refine (HR1.out _ ((K16x.out _ (Ext.refl _ _)).1) ((K16x.out _ (Ext.refl _ _)).2.1)).mono ?_)
  first | rintro e y16 k1p k1c rfl hv hm hb | rintro e y16 ⟨⟨k1p, k1c, rfl, hv, hm⟩, hb⟩
  have hOv := below_kept hb HO.out (lt_of_heap HO.out)
  have hEv := below_kept hb HE.out (lt_of_heap HE.out)
  have c0 : y16.cell? ⟨O2, 1, none⟩ = some (.slice none 0 0) := by rw [Lib.cell_of_heap hOv]; rfl
  have c1 : y16.cell? ⟨E2, 1, none⟩ = some (.int .i64 0) := by rw [Lib.cell_of_heap hEv]; rfl
  have f0 : y16.frozen? ⟨O2, 1, none⟩ = false := Lib.frozen_of_heap hOv _
  have f1 : y16.frozen? ⟨E2, 1, none⟩ = false := Lib.frozen_of_heap hEv _
  have hne : (⟨O2, 1, none⟩ : Addr) ≠ ⟨E2, 1, none⟩ := fun e => by
    have := hVO2.out.2
    simp only [Addr.mk.injEq, and_true] at e
    omega
  have c2 : (y16.setCell ⟨O2, 1, none⟩ (.slice k1p m1 k1c)).cell? ⟨E2, 1, none⟩ = some (.int .i64 0) := (World.cell?_setCell_other _ _ _ _ hne).trans c1
  have f2 : (y16.setCell ⟨O2, 1, none⟩ (.slice k1p m1 k1c)).frozen? ⟨E2, 1, none⟩ = false := by rw [World.frozen?_setCell]; exact f1
  clear hne
  have HOV := Lib.hid hOv
  have HEV := Lib.hid hEv
  have HV := Lib.hid hv
  have HM := Lib.hid hm
  have HINk1 := Lib.hid (OwnLabels.isIn hv)
  clear hOv hEv hv hm
  go_wp2_with fail
  obtain ⟨V16, hW⟩ : ∃ W, W = (y16.setCell ⟨O2, 1, none⟩ (.slice k1p m1 k1c)).setCell ⟨E2, 1, none⟩ (.int .i64 e1) := ⟨_, rfl⟩
  obtain ⟨t1, t2, t3, t4, t5⟩ := two_set [O2, E2] w y16 O2 E2 1 _ _ _ _ _ _ (by have := hVO2.out.2; omega) HOV.out HEV.out (by simp) (by simp) V16 hW (below_next B16x hb) (by have := hBwO2.out; omega) (by have := hBwO2.out; have := hVO2.out.2; omega)
  rw [← hW]
  have t1 : V16.heap[O2]? = some (.cells #[.slice k0p m0 k0c, .slice k1p m1 k1c, .slice none 0 0, .slice none 0 0, .slice none 0 0, .slice none 0 0] 74) := t1
  have t2 : V16.heap[E2]? = some (.cells #[.int .i64 e0, .int .i64 e1, .int .i64 0, .int .i64 0, .int .i64 0, .int .i64 0] 75) := t2
  clear HO HE
  have HO := Lib.hid t1
  have HE := Lib.hid t2
  have hzk1 : V15.heap.size ≤ V16.heap.size := by rw [t5]; exact hb.size
  have HINk1 : Hid (Apart.In V15.heap.size V16.heap.size k1p) := by
    rw [t5]
    exact HINk1.out
  have HMk1 := HM
  have hNU : ∀ g, V15.heap.size ≤ g → g ∉ [O2, E2] := fun g hg hm => by
    have h1 := HOU.out
    simp only [List.mem_cons, List.not_mem_nil, or_false] at hm
    omega
  have K17x : Hid (∀ w', Ext [O2, E2] V16 w' → Lab.At pa a w' ∧ Lab.At pb b w' ∧ Lab.At pe es w' ∧ Txt.At pt xs w' ∧ OwnLabels v3.heap.size (.slice (some ⟨gx, 0, none⟩) (na + 3) cx) (a ++ Mark.some 3) w' ∧ OwnLabels v4.heap.size (.slice (some ⟨gy, 0, none⟩) (nb + 3) cy) (b ++ Mark.some 3) w' ∧ OwnLabels v5.heap.size (.slice (some ⟨gz, 0, none⟩) (ne + 3) cz) (es ++ Mark.some 3) w' ∧ OwnTexts v6.heap.size (.slice (some ⟨gt, 0, none⟩) (nt + 12) ctt) (xs ++ Mark.ts 12) w' ∧ OwnLabels W8.heap.size (.slice g0p m0 g0c) r0 w' ∧ OwnLabels V8.heap.size (.slice g1p m1 g1c) r1 w' ∧ OwnLabels V9.heap.size (.slice g2p m2 g2c) r2 w' ∧ OwnLabels V10.heap.size (.slice g3p m3 g3c) r3 w' ∧ OwnLabels V11.heap.size (.slice g4p m4 g4c) r4 w' ∧ OwnLabels V12.heap.size (.slice g5p m5 g5c) r5 w' ∧ w'.heap[O]? = some (.cells #[.slice g0p m0 g0c, .slice g1p m1 g1c, .slice g2p m2 g2c, .slice g3p m3 g3c, .slice g4p m4 g4c, .slice g5p m5 g5c] 68) ∧ w'.heap[E]? = some (.cells #[.int .i64 e0, .int .i64 e1, .int .i64 e2, .int .i64 e3, .int .i64 e4, .int .i64 e5] 69) ∧ OwnLabels W15.heap.size (.slice k0p m0 k0c) r0 w' ∧ OwnLabels V15.heap.size (.slice k1p m1 k1c) r1 w') := fun w' h => ⟨(K16x.out w' ((Ext.below hb).trans (t3.trans h))).1, (K16x.out w' ((Ext.below hb).trans (t3.trans h))).2.1, (K16x.out w' ((Ext.below hb).trans (t3.trans h))).2.2.1, (K16x.out w' ((Ext.below hb).trans (t3.trans h))).2.2.2.1, (K16x.out w' ((Ext.below hb).trans (t3.trans h))).2.2.2.2.1, (K16x.out w' ((Ext.below hb).trans (t3.trans h))).2.2.2.2.2.1, (K16x.out w' ((Ext.below hb).trans (t3.trans h))).2.2.2.2.2.2.1, (K16x.out w' ((Ext.below hb).trans (t3.trans h))).2.2.2.2.2.2.2.1, (K16x.out w' ((Ext.below hb).trans (t3.trans h))).2.2.2.2.2.2.2.2.1, (K16x.out w' ((Ext.below hb).trans (t3.trans h))).2.2.2.2.2.2.2.2.2.1, (K16x.out w' ((Ext.below hb).trans (t3.trans h))).2.2.2.2.2.2.2.2.2.2.1, (K16x.out w' ((Ext.below hb).trans (t3.trans h))).2.2.2.2.2.2.2.2.2.2.2.1, (K16x.out w' ((Ext.below hb).trans (t3.trans h))).2.2.2.2.2.2.2.2.2.2.2.2.1, (K16x.out w' ((Ext.below hb).trans (t3.trans h))).2.2.2.2.2.2.2.2.2.2.2.2.2.1, (K16x.out w' ((Ext.below hb).trans (t3.trans h))).2.2.2.2.2.2.2.2.2.2.2.2.2.2.1, (K16x.out w' ((Ext.below hb).trans (t3.trans h))).2.2.2.2.2.2.2.2.2.2.2.2.2.2.2.1, (K16x.out w' ((Ext.below hb).trans (t3.trans h))).2.2.2.2.2.2.2.2.2.2.2.2.2.2.2.2, HV.out.ext (t3.trans h) (fun g hg _ => hNU g hg)⟩
  have B17x := t4
  have HOU2 : Hid (O2 < V16.heap.size ∧ E2 < V16.heap.size) := ⟨lt_of_heap t1, lt_of_heap t2⟩
  clear HOU
  have HOU := HOU2
  clear K16x B16x hb hNU HOU2 t1 t2 t3 t4 t5 c0 c1 f0 f1 c2 f2 hW HOV HEV HV HM HR1
  go_wp2_with (go_at_call 41; refine (HR2.out _ ((K17x.out _ (Ext.refl _ _)).1) ((K17x.out _ (Ext.refl _ _)).2.1)).mono ?_)
  first | rintro e y17 k2p k2c rfl hv hm hb | rintro e y17 ⟨⟨k2p, k2c, rfl, hv, hm⟩, hb⟩
  have hOv := below_kept hb HO.out (lt_of_heap HO.out)
  have hEv := below_kept hb HE.out (lt_of_heap HE.out)
  have c0 : y17.cell? ⟨O2, 2, none⟩ = some (.slice none 0 0) := by rw [Lib.cell_of_heap hOv]; rfl
  have c1 : y17.cell? ⟨E2, 2, none⟩ = some (.int .i64 0) := by rw [Lib.cell_of_heap hEv]; rfl
  have f0 : y17.frozen? ⟨O2, 2, none⟩ = false := Lib.frozen_of_heap hOv _
  have f1 : y17.frozen? ⟨E2, 2, none⟩ = false := Lib.frozen_of_heap hEv _
  have hne : (⟨O2, 2, none⟩ : Addr) ≠ ⟨E2, 2, none⟩ := fun e => by
    have := hVO2.out.2
    simp only [Addr.mk.injEq, and_true] at e
    omega
  have c2 : (y17.setCell ⟨O2, 2, none⟩ (.slice k2p m2 k2c)).cell? ⟨E2, 2, none⟩ = some (.int .i64 0) := (World.cell?_setCell_other _ _ _ _ hne).trans c1
  have f2 : (y17.setCell ⟨O2, 2, none⟩ (.slice k2p m2 k2c)).frozen? ⟨E2, 2, none⟩ = false := by rw [World.frozen?_setCell]; exact f1
  clear hne
  have HOV := Lib.hid hOv
  have HEV := Lib.hid hEv
  have HV := Lib.hid hv
  have HM := Lib.hid hm
  have HINk2 := Lib.hid (OwnLabels.isIn hv)
  clear hOv hEv hv hm
  go_wp2_with fail
  obtain ⟨V17, hW⟩ : ∃ W, W = (y17.setCell ⟨O2, 2, none⟩ (.slice k2p m2 k2c)).setCell ⟨E2, 2, none⟩ (.int .i64 e2) := ⟨_, rfl⟩
  obtain ⟨t1, t2, t3, t4, t5⟩ := two_set [O2, E2] w y17 O2 E2 2 _ _ _ _ _ _ (by have := hVO2.out.2; omega) HOV.out HEV.out (by simp) (by simp) V17 hW (below_next B17x hb) (by have := hBwO2.out; omega) (by have := hBwO2.out; have := hVO2.out.2; omega)
  rw [← hW]
  have t1 : V17.heap[O2]? = some (.cells #[.slice k0p m0 k0c, .slice k1p m1 k1c, .slice k2p m2 k2c, .slice none 0 0, .slice none 0 0, .slice none 0 0] 74) := t1
  have t2 : V17.heap[E2]? = some (.cells #[.int .i64 e0, .int .i64 e1, .int .i64 e2, .int .i64 0, .int .i64 0, .int .i64 0] 75) := t2
  clear HO HE
  have HO := Lib.hid t1
  have HE := Lib.hid t2
  have hzk2 : V16.heap.size ≤ V17.heap.size := by rw [t5]; exact hb.size
  have HINk2 : Hid (Apart.In V16.heap.size V17.heap.size k2p) := by
    rw [t5]
    exact HINk2.out
  have HMk2 := HM
  have hNU : ∀ g, V16.heap.size ≤ g → g ∉ [O2, E2] := fun g hg hm => by
    have h1 := HOU.out
    simp only [List.mem_cons, List.not_mem_nil, or_false] at hm
    omega
  have K18x : Hid (∀ w', Ext [O2, E2] V17 w' → Lab.At pa a w' ∧ Lab.At pb b w' ∧ Lab.At pe es w' ∧ Txt.At pt xs w' ∧ OwnLabels v3.heap.size (.slice (some ⟨gx, 0, none⟩) (na + 3) cx) (a ++ Mark.some 3) w' ∧ OwnLabels v4.heap.size (.slice (some ⟨gy, 0, none⟩) (nb + 3) cy) (b ++ Mark.some 3) w' ∧ OwnLabels v5.heap.size (.slice (some ⟨gz, 0, none⟩) (ne + 3) cz) (es ++ Mark.some 3) w' ∧ OwnTexts v6.heap.size (.slice (some ⟨gt, 0, none⟩) (nt + 12) ctt) (xs ++ Mark.ts 12) w' ∧ OwnLabels W8.heap.size (.slice g0p m0 g0c) r0 w' ∧ OwnLabels V8.heap.size (.slice g1p m1 g1c) r1 w' ∧ OwnLabels V9.heap.size (.slice g2p m2 g2c) r2 w' ∧ OwnLabels V10.heap.size (.slice g3p m3 g3c) r3 w' ∧ OwnLabels V11.heap.size (.slice g4p m4 g4c) r4 w' ∧ OwnLabels V12.heap.size (.slice g5p m5 g5c) r5 w' ∧ w'.heap[O]? = some (.cells #[.slice g0p m0 g0c, .slice g1p m1 g1c, .slice g2p m2 g2c, .slice g3p m3 g3c, .slice g4p m4 g4c, .slice g5p m5 g5c] 68) ∧ w'.heap[E]? = some (.cells #[.int .i64 e0, .int .i64 e1, .int .i64 e2, .int .i64 e3, .int .i64 e4, .int .i64 e5] 69) ∧ OwnLabels W15.heap.size (.slice k0p m0 k0c) r0 w' ∧ OwnLabels V15.heap.size (.slice k1p m1 k1c) r1 w' ∧ OwnLabels V16.heap.size (.slice k2p m2 k2c) r2 w') := fun w' h => ⟨(K17x.out w' ((Ext.below hb).trans (t3.trans h))).1, (K17x.out w' ((Ext.below hb).trans (t3.trans h))).2.1, (K17x.out w' ((Ext.below hb).trans (t3.trans h))).2.2.1, (K17x.out w' ((Ext.below hb).trans (t3.trans h))).2.2.2.1, (K17x.out w' ((Ext.below hb).trans (t3.trans h))).2.2.2.2.1, (K17x.out w' ((Ext.below hb).trans (t3.trans h))).2.2.2.2.2.1, (K17x.out w' ((Ext.below hb).trans (t3.trans h))).2.2.2.2.2.2.1, (K17x.out w' ((Ext.below hb).trans (t3.trans h))).2.2.2.2.2.2.2.1, (K17x.out w' ((Ext.below hb).trans (t3.trans h))).2.2.2.2.2.2.2.2.1, (K17x.out w' ((Ext.below hb).trans (t3.trans h))).2.2.2.2.2.2.2.2.2.1, (K17x.out w' ((Ext.below hb).trans (t3.trans h))).2.2.2.2.2.2.2.2.2.2.1, (K17x.out w' ((Ext.below hb).trans (t3.trans h))).2.2.2.2.2.2.2.2.2.2.2.1, (K17x.out w' ((Ext.below hb).trans (t3.trans h))).2.2.2.2.2.2.2.2.2.2.2.2.1, (K17x.out w' ((Ext.below hb).trans (t3.trans h))).2.2.2.2.2.2.2.2.2.2.2.2.2.1, (K17x.out w' ((Ext.below hb).trans (t3.trans h))).2.2.2.2.2.2.2.2.2.2.2.2.2.2.1, (K17x.out w' ((Ext.below hb).trans (t3.trans h))).2.2.2.2.2.2.2.2.2.2.2.2.2.2.2.1, (K17x.out w' ((Ext.below hb).trans (t3.trans h))).2.2.2.2.2.2.2.2.2.2.2.2.2.2.2.2.1, (K17x.out w' ((Ext.below hb).trans (t3.trans h))).2.2.2.2.2.2.2.2.2.2.2.2.2.2.2.2.2, HV.out.ext (t3.trans h) (fun g hg _ => hNU g hg)⟩
  have B18x := t4
  have HOU2 : Hid (O2 < V17.heap.size ∧ E2 < V17.heap.size) := ⟨lt_of_heap t1, lt_of_heap t2⟩
  clear HOU
  have HOU := HOU2
  clear K17x B17x hb hNU HOU2 t1 t2 t3 t4 t5 c0 c1 f0 f1 c2 f2 hW HOV HEV HV HM HR2
  go_wp2_with (go_at_call 42; refine (HR3.out _ ((K18x.out _ (Ext.refl _ _)).1) ((K18x.out _ (Ext.refl _ _)).2.2.2.1)).mono ?_)
  first | rintro e y18 k3p k3c rfl hv hm hb | rintro e y18 ⟨⟨k3p, k3c, rfl, hv, hm⟩, hb⟩
  have hOv := below_kept hb HO.out (lt_of_heap HO.out)
  have hEv := below_kept hb HE.out (lt_of_heap HE.out)
  have c0 : y18.cell? ⟨O2, 3, none⟩ = some (.slice none 0 0) := by rw [Lib.cell_of_heap hOv]; rfl
  have c1 : y18.cell? ⟨E2, 3, none⟩ = some (.int .i64 0) := by rw [Lib.cell_of_heap hEv]; rfl
  have f0 : y18.frozen? ⟨O2, 3, none⟩ = false := Lib.frozen_of_heap hOv _
  have f1 : y18.frozen? ⟨E2, 3, none⟩ = false := Lib.frozen_of_heap hEv _
  have hne : (⟨O2, 3, none⟩ : Addr) ≠ ⟨E2, 3, none⟩ := fun e => by
    have := hVO2.out.2
    simp only [Addr.mk.injEq, and_true] at e
    omega
  have c2 : (y18.setCell ⟨O2, 3, none⟩ (.slice k3p m3 k3c)).cell? ⟨E2, 3, none⟩ = some (.int .i64 0) := (World.cell?_setCell_other _ _ _ _ hne).trans c1
  have f2 : (y18.setCell ⟨O2, 3, none⟩ (.slice k3p m3 k3c)).frozen? ⟨E2, 3, none⟩ = false := by rw [World.frozen?_setCell]; exact f1
  clear hne
  have HOV := Lib.hid hOv
  have HEV := Lib.hid hEv
  have HV := Lib.hid hv
  have HM := Lib.hid hm
  have HINk3 := Lib.hid (OwnLabels.isIn hv)
  clear hOv hEv hv hm
  go_wp2_with fail
  obtain ⟨V18, hW⟩ : ∃ W, W = (y18.setCell ⟨O2, 3, none⟩ (.slice k3p m3 k3c)).setCell ⟨E2, 3, none⟩ (.int .i64 e3) := ⟨_, rfl⟩
  obtain ⟨t1, t2, t3, t4, t5⟩ := two_set [O2, E2] w y18 O2 E2 3 _ _ _ _ _ _ (by have := hVO2.out.2; omega) HOV.out HEV.out (by simp) (by simp) V18 hW (below_next B18x hb) (by have := hBwO2.out; omega) (by have := hBwO2.out; have := hVO2.out.2; omega)
  rw [← hW]
  have t1 : V18.heap[O2]? = some (.cells #[.slice k0p m0 k0c, .slice k1p m1 k1c, .slice k2p m2 k2c, .slice k3p m3 k3c, .slice none 0 0, .slice none 0 0] 74) := t1
  have t2 : V18.heap[E2]? = some (.cells #[.int .i64 e0, .int .i64 e1, .int .i64 e2, .int .i64 e3, .int .i64 0, .int .i64 0] 75) := t2
  clear HO HE
  have HO := Lib.hid t1
  have HE := Lib.hid t2
  have hzk3 : V17.heap.size ≤ V18.heap.size := by rw [t5]; exact hb.size
  have HINk3 : Hid (Apart.In V17.heap.size V18.heap.size k3p) := by
    rw [t5]
    exact HINk3.out
  have HMk3 := HM
  have hNU : ∀ g, V17.heap.size ≤ g → g ∉ [O2, E2] := fun g hg hm => by
    have h1 := HOU.out
    simp only [List.mem_cons, List.not_mem_nil, or_false] at hm
    omega
  have K19x : Hid (∀ w', Ext [O2, E2] V18 w' → Lab.At pa a w' ∧ Lab.At pb b w' ∧ Lab.At pe es w' ∧ Txt.At pt xs w' ∧ OwnLabels v3.heap.size (.slice (some ⟨gx, 0, none⟩) (na + 3) cx) (a ++ Mark.some 3) w' ∧ OwnLabels v4.heap.size (.slice (some ⟨gy, 0, none⟩) (nb + 3) cy) (b ++ Mark.some 3) w' ∧ OwnLabels v5.heap.size (.slice (some ⟨gz, 0, none⟩) (ne + 3) cz) (es ++ Mark.some 3) w' ∧ OwnTexts v6.heap.size (.slice (some ⟨gt, 0, none⟩) (nt + 12) ctt) (xs ++ Mark.ts 12) w' ∧ OwnLabels W8.heap.size (.slice g0p m0 g0c) r0 w' ∧ OwnLabels V8.heap.size (.slice g1p m1 g1c) r1 w' ∧ OwnLabels V9.heap.size (.slice g2p m2 g2c) r2 w' ∧ OwnLabels V10.heap.size (.slice g3p m3 g3c) r3 w' ∧ OwnLabels V11.heap.size (.slice g4p m4 g4c) r4 w' ∧ OwnLabels V12.heap.size (.slice g5p m5 g5c) r5 w' ∧ w'.heap[O]? = some (.cells #[.slice g0p m0 g0c, .slice g1p m1 g1c, .slice g2p m2 g2c, .slice g3p m3 g3c, .slice g4p m4 g4c, .slice g5p m5 g5c] 68) ∧ w'.heap[E]? = some (.cells #[.int .i64 e0, .int .i64 e1, .int .i64 e2, .int .i64 e3, .int .i64 e4, .int .i64 e5] 69) ∧ OwnLabels W15.heap.size (.slice k0p m0 k0c) r0 w' ∧ OwnLabels V15.heap.size (.slice k1p m1 k1c) r1 w' ∧ OwnLabels V16.heap.size (.slice k2p m2 k2c) r2 w' ∧ OwnLabels V17.heap.size (.slice k3p m3 k3c) r3 w') := fun w' h => ⟨(K18x.out w' ((Ext.below hb).trans (t3.trans h))).1, (K18x.out w' ((Ext.below hb).trans (t3.trans h))).2.1, (K18x.out w' ((Ext.below hb).trans (t3.trans h))).2.2.1, (K18x.out w' ((Ext.below hb).trans (t3.trans h))).2.2.2.1, (K18x.out w' ((Ext.below hb).trans (t3.trans h))).2.2.2.2.1, (K18x.out w' ((Ext.below hb).trans (t3.trans h))).2.2.2.2.2.1, (K18x.out w' ((Ext.below hb).trans (t3.trans h))).2.2.2.2.2.2.1, (K18x.out w' ((Ext.below hb).trans (t3.trans h))).2.2.2.2.2.2.2.1, (K18x.out w' ((Ext.below hb).trans (t3.trans h))).2.2.2.2.2.2.2.2.1, (K18x.out w' ((Ext.below hb).trans (t3.trans h))).2.2.2.2.2.2.2.2.2.1, (K18x.out w' ((Ext.below hb).trans (t3.trans h))).2.2.2.2.2.2.2.2.2.2.1, (K18x.out w' ((Ext.below hb).trans (t3.trans h))).2.2.2.2.2.2.2.2.2.2.2.1, (K18x.out w' ((Ext.below hb).trans (t3.trans h))).2.2.2.2.2.2.2.2.2.2.2.2.1, (K18x.out w' ((Ext.below hb).trans (t3.trans h))).2.2.2.2.2.2.2.2.2.2.2.2.2.1, (K18x.out w' ((Ext.below hb).trans (t3.trans h))).2.2.2.2.2.2.2.2.2.2.2.2.2.2.1, (K18x.out w' ((Ext.below hb).trans (t3.trans h))).2.2.2.2.2.2.2.2.2.2.2.2.2.2.2.1, (K18x.out w' ((Ext.below hb).trans (t3.trans h))).2.2.2.2.2.2.2.2.2.2.2.2.2.2.2.2.1, (K18x.out w' ((Ext.below hb).trans (t3.trans h))).2.2.2.2.2.2.2.2.2.2.2.2.2.2.2.2.2.1, (K18x.out w' ((Ext.below hb).trans (t3.trans h))).2.2.2.2.2.2.2.2.2.2.2.2.2.2.2.2.2.2, HV.out.ext (t3.trans h) (fun g hg _ => hNU g hg)⟩
  have B19x := t4
  have HOU2 : Hid (O2 < V18.heap.size ∧ E2 < V18.heap.size) := ⟨lt_of_heap t1, lt_of_heap t2⟩
  clear HOU
  have HOU := HOU2
  clear K18x B18x hb hNU HOU2 t1 t2 t3 t4 t5 c0 c1 f0 f1 c2 f2 hW HOV HEV HV HM HR3
  go_wp2_with (go_at_call 42; refine (HR4.out _ ((K19x.out _ (Ext.refl _ _)).1) ((K19x.out _ (Ext.refl _ _)).2.2.2.1)).mono ?_)
  first | rintro e y19 k4p k4c rfl hv hm hb | rintro e y19 ⟨⟨k4p, k4c, rfl, hv, hm⟩, hb⟩
  have hOv := below_kept hb HO.out (lt_of_heap HO.out)
  have hEv := below_kept hb HE.out (lt_of_heap HE.out)
  have c0 : y19.cell? ⟨O2, 4, none⟩ = some (.slice none 0 0) := by rw [Lib.cell_of_heap hOv]; rfl
  have c1 : y19.cell? ⟨E2, 4, none⟩ = some (.int .i64 0) := by rw [Lib.cell_of_heap hEv]; rfl
  have f0 : y19.frozen? ⟨O2, 4, none⟩ = false := Lib.frozen_of_heap hOv _
  have f1 : y19.frozen? ⟨E2, 4, none⟩ = false := Lib.frozen_of_heap hEv _
  have hne : (⟨O2, 4, none⟩ : Addr) ≠ ⟨E2, 4, none⟩ := fun e => by
    have := hVO2.out.2
    simp only [Addr.mk.injEq, and_true] at e
    omega
  have c2 : (y19.setCell ⟨O2, 4, none⟩ (.slice k4p m4 k4c)).cell? ⟨E2, 4, none⟩ = some (.int .i64 0) := (World.cell?_setCell_other _ _ _ _ hne).trans c1
  have f2 : (y19.setCell ⟨O2, 4, none⟩ (.slice k4p m4 k4c)).frozen? ⟨E2, 4, none⟩ = false := by rw [World.frozen?_setCell]; exact f1
  clear hne
  have HOV := Lib.hid hOv
  have HEV := Lib.hid hEv
  have HV := Lib.hid hv
  have HM := Lib.hid hm
  have HINk4 := Lib.hid (OwnLabels.isIn hv)
  clear hOv hEv hv hm
  go_wp2_with fail
  obtain ⟨V19, hW⟩ : ∃ W, W = (y19.setCell ⟨O2, 4, none⟩ (.slice k4p m4 k4c)).setCell ⟨E2, 4, none⟩ (.int .i64 e4) := ⟨_, rfl⟩
  obtain ⟨t1, t2, t3, t4, t5⟩ := two_set [O2, E2] w y19 O2 E2 4 _ _ _ _ _ _ (by have := hVO2.out.2; omega) HOV.out HEV.out (by simp) (by simp) V19 hW (below_next B19x hb) (by have := hBwO2.out; omega) (by have := hBwO2.out; have := hVO2.out.2; omega)
  rw [← hW]
  have t1 : V19.heap[O2]? = some (.cells #[.slice k0p m0 k0c, .slice k1p m1 k1c, .slice k2p m2 k2c, .slice k3p m3 k3c, .slice k4p m4 k4c, .slice none 0 0] 74) := t1
  have t2 : V19.heap[E2]? = some (.cells #[.int .i64 e0, .int .i64 e1, .int .i64 e2, .int .i64 e3, .int .i64 e4, .int .i64 0] 75) := t2
  clear HO HE
  have HO := Lib.hid t1
  have HE := Lib.hid t2
  have hzk4 : V18.heap.size ≤ V19.heap.size := by rw [t5]; exact hb.size
  have HINk4 : Hid (Apart.In V18.heap.size V19.heap.size k4p) := by
    rw [t5]
    exact HINk4.out
  have HMk4 := HM
  have hNU : ∀ g, V18.heap.size ≤ g → g ∉ [O2, E2] := fun g hg hm => by
    have h1 := HOU.out
    simp only [List.mem_cons, List.not_mem_nil, or_false] at hm
    omega
  have K20x : Hid (∀ w', Ext [O2, E2] V19 w' → Lab.At pa a w' ∧ Lab.At pb b w' ∧ Lab.At pe es w' ∧ Txt.At pt xs w' ∧ OwnLabels v3.heap.size (.slice (some ⟨gx, 0, none⟩) (na + 3) cx) (a ++ Mark.some 3) w' ∧ OwnLabels v4.heap.size (.slice (some ⟨gy, 0, none⟩) (nb + 3) cy) (b ++ Mark.some 3) w' ∧ OwnLabels v5.heap.size (.slice (some ⟨gz, 0, none⟩) (ne + 3) cz) (es ++ Mark.some 3) w' ∧ OwnTexts v6.heap.size (.slice (some ⟨gt, 0, none⟩) (nt + 12) ctt) (xs ++ Mark.ts 12) w' ∧ OwnLabels W8.heap.size (.slice g0p m0 g0c) r0 w' ∧ OwnLabels V8.heap.size (.slice g1p m1 g1c) r1 w' ∧ OwnLabels V9.heap.size (.slice g2p m2 g2c) r2 w' ∧ OwnLabels V10.heap.size (.slice g3p m3 g3c) r3 w' ∧ OwnLabels V11.heap.size (.slice g4p m4 g4c) r4 w' ∧ OwnLabels V12.heap.size (.slice g5p m5 g5c) r5 w' ∧ w'.heap[O]? = some (.cells #[.slice g0p m0 g0c, .slice g1p m1 g1c, .slice g2p m2 g2c, .slice g3p m3 g3c, .slice g4p m4 g4c, .slice g5p m5 g5c] 68) ∧ w'.heap[E]? = some (.cells #[.int .i64 e0, .int .i64 e1, .int .i64 e2, .int .i64 e3, .int .i64 e4, .int .i64 e5] 69) ∧ OwnLabels W15.heap.size (.slice k0p m0 k0c) r0 w' ∧ OwnLabels V15.heap.size (.slice k1p m1 k1c) r1 w' ∧ OwnLabels V16.heap.size (.slice k2p m2 k2c) r2 w' ∧ OwnLabels V17.heap.size (.slice k3p m3 k3c) r3 w' ∧ OwnLabels V18.heap.size (.slice k4p m4 k4c) r4 w') := fun w' h => ⟨(K19x.out w' ((Ext.below hb).trans (t3.trans h))).1, (K19x.out w' ((Ext.below hb).trans (t3.trans h))).2.1, (K19x.out w' ((Ext.below hb).trans (t3.trans h))).2.2.1, (K19x.out w' ((Ext.below hb).trans (t3.trans h))).2.2.2.1, (K19x.out w' ((Ext.below hb).trans (t3.trans h))).2.2.2.2.1, (K19x.out w' ((Ext.below hb).trans (t3.trans h))).2.2.2.2.2.1, (K19x.out w' ((Ext.below hb).trans (t3.trans h))).2.2.2.2.2.2.1, (K19x.out w' ((Ext.below hb).trans (t3.trans h))).2.2.2.2.2.2.2.1, (K19x.out w' ((Ext.below hb).trans (t3.trans h))).2.2.2.2.2.2.2.2.1, (K19x.out w' ((Ext.below hb).trans (t3.trans h))).2.2.2.2.2.2.2.2.2.1, (K19x.out w' ((Ext.below hb).trans (t3.trans h))).2.2.2.2.2.2.2.2.2.2.1, (K19x.out w' ((Ext.below hb).trans (t3.trans h))).2.2.2.2.2.2.2.2.2.2.2.1, (K19x.out w' ((Ext.below hb).trans (t3.trans h))).2.2.2.2.2.2.2.2.2.2.2.2.1, (K19x.out w' ((Ext.below hb).trans (t3.trans h))).2.2.2.2.2.2.2.2.2.2.2.2.2.1, (K19x.out w' ((Ext.below hb).trans (t3.trans h))).2.2.2.2.2.2.2.2.2.2.2.2.2.2.1, (K19x.out w' ((Ext.below hb).trans (t3.trans h))).2.2.2.2.2.2.2.2.2.2.2.2.2.2.2.1, (K19x.out w' ((Ext.below hb).trans (t3.trans h))).2.2.2.2.2.2.2.2.2.2.2.2.2.2.2.2.1, (K19x.out w' ((Ext.below hb).trans (t3.trans h))).2.2.2.2.2.2.2.2.2.2.2.2.2.2.2.2.2.1, (K19x.out w' ((Ext.below hb).trans (t3.trans h))).2.2.2.2.2.2.2.2.2.2.2.2.2.2.2.2.2.2.1, (K19x.out w' ((Ext.below hb).trans (t3.trans h))).2.2.2.2.2.2.2.2.2.2.2.2.2.2.2.2.2.2.2, HV.out.ext (t3.trans h) (fun g hg _ => hNU g hg)⟩
  have B20x := t4
  have HOU2 : Hid (O2 < V19.heap.size ∧ E2 < V19.heap.size) := ⟨lt_of_heap t1, lt_of_heap t2⟩
  clear HOU
  have HOU := HOU2
  clear K19x B19x hb hNU HOU2 t1 t2 t3 t4 t5 c0 c1 f0 f1 c2 f2 hW HOV HEV HV HM HR4
  go_wp2_with (go_at_call 43; refine (HR5.out _ ((K20x.out _ (Ext.refl _ _)).1)).mono ?_)
  first | rintro e y20 k5p k5c rfl hv hm hb | rintro e y20 ⟨⟨k5p, k5c, rfl, hv, hm⟩, hb⟩
  have hOv := below_kept hb HO.out (lt_of_heap HO.out)
  have hEv := below_kept hb HE.out (lt_of_heap HE.out)
  have c0 : y20.cell? ⟨O2, 5, none⟩ = some (.slice none 0 0) := by rw [Lib.cell_of_heap hOv]; rfl
  have c1 : y20.cell? ⟨E2, 5, none⟩ = some (.int .i64 0) := by rw [Lib.cell_of_heap hEv]; rfl
  have f0 : y20.frozen? ⟨O2, 5, none⟩ = false := Lib.frozen_of_heap hOv _
  have f1 : y20.frozen? ⟨E2, 5, none⟩ = false := Lib.frozen_of_heap hEv _
  have hne : (⟨O2, 5, none⟩ : Addr) ≠ ⟨E2, 5, none⟩ := fun e => by
    have := hVO2.out.2
    simp only [Addr.mk.injEq, and_true] at e
    omega
  have c2 : (y20.setCell ⟨O2, 5, none⟩ (.slice k5p m5 k5c)).cell? ⟨E2, 5, none⟩ = some (.int .i64 0) := (World.cell?_setCell_other _ _ _ _ hne).trans c1
  have f2 : (y20.setCell ⟨O2, 5, none⟩ (.slice k5p m5 k5c)).frozen? ⟨E2, 5, none⟩ = false := by rw [World.frozen?_setCell]; exact f1
  clear hne
  have HOV := Lib.hid hOv
  have HEV := Lib.hid hEv
  have HV := Lib.hid hv
  have HM := Lib.hid hm
  have HINk5 := Lib.hid (OwnLabels.isIn hv)
  clear hOv hEv hv hm
  go_wp2_with fail
  obtain ⟨V20, hW⟩ : ∃ W, W = (y20.setCell ⟨O2, 5, none⟩ (.slice k5p m5 k5c)).setCell ⟨E2, 5, none⟩ (.int .i64 e5) := ⟨_, rfl⟩
  obtain ⟨t1, t2, t3, t4, t5⟩ := two_set [O2, E2] w y20 O2 E2 5 _ _ _ _ _ _ (by have := hVO2.out.2; omega) HOV.out HEV.out (by simp) (by simp) V20 hW (below_next B20x hb) (by have := hBwO2.out; omega) (by have := hBwO2.out; have := hVO2.out.2; omega)
  rw [← hW]
  have t1 : V20.heap[O2]? = some (.cells #[.slice k0p m0 k0c, .slice k1p m1 k1c, .slice k2p m2 k2c, .slice k3p m3 k3c, .slice k4p m4 k4c, .slice k5p m5 k5c] 74) := t1
  have t2 : V20.heap[E2]? = some (.cells #[.int .i64 e0, .int .i64 e1, .int .i64 e2, .int .i64 e3, .int .i64 e4, .int .i64 e5] 75) := t2
  clear HO HE
  have HO := Lib.hid t1
  have HE := Lib.hid t2
  have hzk5 : V19.heap.size ≤ V20.heap.size := by rw [t5]; exact hb.size
  have HINk5 : Hid (Apart.In V19.heap.size V20.heap.size k5p) := by
    rw [t5]
    exact HINk5.out
  have HMk5 := HM
  have hNU : ∀ g, V19.heap.size ≤ g → g ∉ [O2, E2] := fun g hg hm => by
    have h1 := HOU.out
    simp only [List.mem_cons, List.not_mem_nil, or_false] at hm
    omega
  have K21x : Hid (∀ w', Ext [O2, E2] V20 w' → Lab.At pa a w' ∧ Lab.At pb b w' ∧ Lab.At pe es w' ∧ Txt.At pt xs w' ∧ OwnLabels v3.heap.size (.slice (some ⟨gx, 0, none⟩) (na + 3) cx) (a ++ Mark.some 3) w' ∧ OwnLabels v4.heap.size (.slice (some ⟨gy, 0, none⟩) (nb + 3) cy) (b ++ Mark.some 3) w' ∧ OwnLabels v5.heap.size (.slice (some ⟨gz, 0, none⟩) (ne + 3) cz) (es ++ Mark.some 3) w' ∧ OwnTexts v6.heap.size (.slice (some ⟨gt, 0, none⟩) (nt + 12) ctt) (xs ++ Mark.ts 12) w' ∧ OwnLabels W8.heap.size (.slice g0p m0 g0c) r0 w' ∧ OwnLabels V8.heap.size (.slice g1p m1 g1c) r1 w' ∧ OwnLabels V9.heap.size (.slice g2p m2 g2c) r2 w' ∧ OwnLabels V10.heap.size (.slice g3p m3 g3c) r3 w' ∧ OwnLabels V11.heap.size (.slice g4p m4 g4c) r4 w' ∧ OwnLabels V12.heap.size (.slice g5p m5 g5c) r5 w' ∧ w'.heap[O]? = some (.cells #[.slice g0p m0 g0c, .slice g1p m1 g1c, .slice g2p m2 g2c, .slice g3p m3 g3c, .slice g4p m4 g4c, .slice g5p m5 g5c] 68) ∧ w'.heap[E]? = some (.cells #[.int .i64 e0, .int .i64 e1, .int .i64 e2, .int .i64 e3, .int .i64 e4, .int .i64 e5] 69) ∧ OwnLabels W15.heap.size (.slice k0p m0 k0c) r0 w' ∧ OwnLabels V15.heap.size (.slice k1p m1 k1c) r1 w' ∧ OwnLabels V16.heap.size (.slice k2p m2 k2c) r2 w' ∧ OwnLabels V17.heap.size (.slice k3p m3 k3c) r3 w' ∧ OwnLabels V18.heap.size (.slice k4p m4 k4c) r4 w' ∧ OwnLabels V19.heap.size (.slice k5p m5 k5c) r5 w') := fun w' h => ⟨(K20x.out w' ((Ext.below hb).trans (t3.trans h))).1, (K20x.out w' ((Ext.below hb).trans (t3.trans h))).2.1, (K20x.out w' ((Ext.below hb).trans (t3.trans h))).2.2.1, (K20x.out w' ((Ext.below hb).trans (t3.trans h))).2.2.2.1, (K20x.out w' ((Ext.below hb).trans (t3.trans h))).2.2.2.2.1, (K20x.out w' ((Ext.below hb).trans (t3.trans h))).2.2.2.2.2.1, (K20x.out w' ((Ext.below hb).trans (t3.trans h))).2.2.2.2.2.2.1, (K20x.out w' ((Ext.below hb).trans (t3.trans h))).2.2.2.2.2.2.2.1, (K20x.out w' ((Ext.below hb).trans (t3.trans h))).2.2.2.2.2.2.2.2.1, (K20x.out w' ((Ext.below hb).trans (t3.trans h))).2.2.2.2.2.2.2.2.2.1, (K20x.out w' ((Ext.below hb).trans (t3.trans h))).2.2.2.2.2.2.2.2.2.2.1, (K20x.out w' ((Ext.below hb).trans (t3.trans h))).2.2.2.2.2.2.2.2.2.2.2.1, (K20x.out w' ((Ext.below hb).trans (t3.trans h))).2.2.2.2.2.2.2.2.2.2.2.2.1, (K20x.out w' ((Ext.below hb).trans (t3.trans h))).2.2.2.2.2.2.2.2.2.2.2.2.2.1, (K20x.out w' ((Ext.below hb).trans (t3.trans h))).2.2.2.2.2.2.2.2.2.2.2.2.2.2.1, (K20x.out w' ((Ext.below hb).trans (t3.trans h))).2.2.2.2.2.2.2.2.2.2.2.2.2.2.2.1, (K20x.out w' ((Ext.below hb).trans (t3.trans h))).2.2.2.2.2.2.2.2.2.2.2.2.2.2.2.2.1, (K20x.out w' ((Ext.below hb).trans (t3.trans h))).2.2.2.2.2.2.2.2.2.2.2.2.2.2.2.2.2.1, (K20x.out w' ((Ext.below hb).trans (t3.trans h))).2.2.2.2.2.2.2.2.2.2.2.2.2.2.2.2.2.2.1, (K20x.out w' ((Ext.below hb).trans (t3.trans h))).2.2.2.2.2.2.2.2.2.2.2.2.2.2.2.2.2.2.2.1, (K20x.out w' ((Ext.below hb).trans (t3.trans h))).2.2.2.2.2.2.2.2.2.2.2.2.2.2.2.2.2.2.2.2, HV.out.ext (t3.trans h) (fun g hg _ => hNU g hg)⟩
  have B21x := t4
  have HOU2 : Hid (O2 < V20.heap.size ∧ E2 < V20.heap.size) := ⟨lt_of_heap t1, lt_of_heap t2⟩
  clear HOU
  have HOU := HOU2
  clear K20x B20x hb hNU HOU2 t1 t2 t3 t4 t5 c0 c1 f0 f1 c2 f2 hW HOV HEV HV HM HR5
  have HLO : Hid (w.heap.size ≤ v3.heap.size ∧ v3.heap.size ≤ v4.heap.size ∧ v4.heap.size ≤ v5.heap.size ∧ v5.heap.size ≤ W8.heap.size ∧ W8.heap.size ≤ V8.heap.size ∧ V8.heap.size ≤ V9.heap.size ∧ V9.heap.size ≤ V10.heap.size ∧ V10.heap.size ≤ V11.heap.size ∧ V11.heap.size ≤ V12.heap.size ∧ V12.heap.size ≤ V13.heap.size) := ⟨hzw0, hz0, hz1, hz3b, hzg0, hzg1, hzg2, hzg3, hzg4, hzg5⟩
  have K9 : Hid (∀ w', Below V20.heap.size V20 w' → Lab.At pa a w' ∧ Lab.At pb b w' ∧ Lab.At pe es w' ∧ Txt.At pt xs w' ∧ OwnLabels v3.heap.size (.slice (some ⟨gx, 0, none⟩) (na + 3) cx) (a ++ Mark.some 3) w' ∧ OwnLabels v4.heap.size (.slice (some ⟨gy, 0, none⟩) (nb + 3) cy) (b ++ Mark.some 3) w' ∧ OwnLabels v5.heap.size (.slice (some ⟨gz, 0, none⟩) (ne + 3) cz) (es ++ Mark.some 3) w' ∧ OwnTexts v6.heap.size (.slice (some ⟨gt, 0, none⟩) (nt + 12) ctt) (xs ++ Mark.ts 12) w' ∧ OwnLabels W8.heap.size (.slice g0p m0 g0c) r0 w' ∧ OwnLabels V8.heap.size (.slice g1p m1 g1c) r1 w' ∧ OwnLabels V9.heap.size (.slice g2p m2 g2c) r2 w' ∧ OwnLabels V10.heap.size (.slice g3p m3 g3c) r3 w' ∧ OwnLabels V11.heap.size (.slice g4p m4 g4c) r4 w' ∧ OwnLabels V12.heap.size (.slice g5p m5 g5c) r5 w' ∧ w'.heap[O]? = some (.cells #[.slice g0p m0 g0c, .slice g1p m1 g1c, .slice g2p m2 g2c, .slice g3p m3 g3c, .slice g4p m4 g4c, .slice g5p m5 g5c] 68) ∧ w'.heap[E]? = some (.cells #[.int .i64 e0, .int .i64 e1, .int .i64 e2, .int .i64 e3, .int .i64 e4, .int .i64 e5] 69) ∧ OwnLabels W15.heap.size (.slice k0p m0 k0c) r0 w' ∧ OwnLabels V15.heap.size (.slice k1p m1 k1c) r1 w' ∧ OwnLabels V16.heap.size (.slice k2p m2 k2c) r2 w' ∧ OwnLabels V17.heap.size (.slice k3p m3 k3c) r3 w' ∧ OwnLabels V18.heap.size (.slice k4p m4 k4c) r4 w' ∧ OwnLabels V19.heap.size (.slice k5p m5 k5c) r5 w') := fun w' h => K21x.out w' (Ext.below h)
  have HRS : Hid (∀ k, k < 6 → ∃ (p : Option Addr) (n c : Nat) (q : Option Addr) (d : Nat) (er : Int) (r : List Lab.L), V20.cell? ⟨O, k, none⟩ = some (.slice p n c) ∧ V20.cell? ⟨E, k, none⟩ = some (.int .i64 er) ∧ V20.cell? ⟨O2, k, none⟩ = some (.slice q n d) ∧ V20.cell? ⟨E2, k, none⟩ = some (.int .i64 er) ∧ r.length = n ∧ n ≤ maxLen ∧ Lab.At p r V20 ∧ Lab.At q r V20) := by
    show ∀ k, _
    intro k hk
    obtain rfl | rfl | rfl | rfl | rfl | rfl : k = 0 ∨ k = 1 ∨ k = 2 ∨ k = 3 ∨ k = 4 ∨ k = 5 := by omega
    · exact ⟨_, _, _, _, _, _, r0, (by rw [Lib.cell_of_heap ((K9.out _ (Below.refl _ _)).2.2.2.2.2.2.2.2.2.2.2.2.2.2.1)]; rfl), (by rw [Lib.cell_of_heap ((K9.out _ (Below.refl _ _)).2.2.2.2.2.2.2.2.2.2.2.2.2.2.2.1)]; rfl), (by rw [Lib.cell_of_heap (HO.out)]; rfl), (by rw [Lib.cell_of_heap (HE.out)]; rfl), HM0.out, HMg0.out, ((K9.out _ (Below.refl _ _)).2.2.2.2.2.2.2.2.1).at, ((K9.out _ (Below.refl _ _)).2.2.2.2.2.2.2.2.2.2.2.2.2.2.2.2.1).at⟩
    · exact ⟨_, _, _, _, _, _, r1, (by rw [Lib.cell_of_heap ((K9.out _ (Below.refl _ _)).2.2.2.2.2.2.2.2.2.2.2.2.2.2.1)]; rfl), (by rw [Lib.cell_of_heap ((K9.out _ (Below.refl _ _)).2.2.2.2.2.2.2.2.2.2.2.2.2.2.2.1)]; rfl), (by rw [Lib.cell_of_heap (HO.out)]; rfl), (by rw [Lib.cell_of_heap (HE.out)]; rfl), HM1.out, HMg1.out, ((K9.out _ (Below.refl _ _)).2.2.2.2.2.2.2.2.2.1).at, ((K9.out _ (Below.refl _ _)).2.2.2.2.2.2.2.2.2.2.2.2.2.2.2.2.2.1).at⟩
    · exact ⟨_, _, _, _, _, _, r2, (by rw [Lib.cell_of_heap ((K9.out _ (Below.refl _ _)).2.2.2.2.2.2.2.2.2.2.2.2.2.2.1)]; rfl), (by rw [Lib.cell_of_heap ((K9.out _ (Below.refl _ _)).2.2.2.2.2.2.2.2.2.2.2.2.2.2.2.1)]; rfl), (by rw [Lib.cell_of_heap (HO.out)]; rfl), (by rw [Lib.cell_of_heap (HE.out)]; rfl), HM2.out, HMg2.out, ((K9.out _ (Below.refl _ _)).2.2.2.2.2.2.2.2.2.2.1).at, ((K9.out _ (Below.refl _ _)).2.2.2.2.2.2.2.2.2.2.2.2.2.2.2.2.2.2.1).at⟩
    · exact ⟨_, _, _, _, _, _, r3, (by rw [Lib.cell_of_heap ((K9.out _ (Below.refl _ _)).2.2.2.2.2.2.2.2.2.2.2.2.2.2.1)]; rfl), (by rw [Lib.cell_of_heap ((K9.out _ (Below.refl _ _)).2.2.2.2.2.2.2.2.2.2.2.2.2.2.2.1)]; rfl), (by rw [Lib.cell_of_heap (HO.out)]; rfl), (by rw [Lib.cell_of_heap (HE.out)]; rfl), HM3.out, HMg3.out, ((K9.out _ (Below.refl _ _)).2.2.2.2.2.2.2.2.2.2.2.1).at, ((K9.out _ (Below.refl _ _)).2.2.2.2.2.2.2.2.2.2.2.2.2.2.2.2.2.2.2.1).at⟩
    · exact ⟨_, _, _, _, _, _, r4, (by rw [Lib.cell_of_heap ((K9.out _ (Below.refl _ _)).2.2.2.2.2.2.2.2.2.2.2.2.2.2.1)]; rfl), (by rw [Lib.cell_of_heap ((K9.out _ (Below.refl _ _)).2.2.2.2.2.2.2.2.2.2.2.2.2.2.2.1)]; rfl), (by rw [Lib.cell_of_heap (HO.out)]; rfl), (by rw [Lib.cell_of_heap (HE.out)]; rfl), HM4.out, HMg4.out, ((K9.out _ (Below.refl _ _)).2.2.2.2.2.2.2.2.2.2.2.2.1).at, ((K9.out _ (Below.refl _ _)).2.2.2.2.2.2.2.2.2.2.2.2.2.2.2.2.2.2.2.2.1).at⟩
    · exact ⟨_, _, _, _, _, _, r5, (by rw [Lib.cell_of_heap ((K9.out _ (Below.refl _ _)).2.2.2.2.2.2.2.2.2.2.2.2.2.2.1)]; rfl), (by rw [Lib.cell_of_heap ((K9.out _ (Below.refl _ _)).2.2.2.2.2.2.2.2.2.2.2.2.2.2.2.1)]; rfl), (by rw [Lib.cell_of_heap (HO.out)]; rfl), (by rw [Lib.cell_of_heap (HE.out)]; rfl), HM5.out, HMg5.out, ((K9.out _ (Below.refl _ _)).2.2.2.2.2.2.2.2.2.2.2.2.2.1).at, ((K9.out _ (Below.refl _ _)).2.2.2.2.2.2.2.2.2.2.2.2.2.2.2.2.2.2.2.2.2).at⟩
  clear HO HE HOU HMg0 HMk0 HINk0 hzk0 HMg1 HMk1 HINk1 hzk1 HMg2 HMk2 HINk2 hzk2 HMg3 HMk3 HINk3 hzk3 HMg4 HMk4 HINk4 hzk4 HMg5 HMk5 HINk5 hzk5
  go_wp2_with fail
  go_loopw [147] (fun i wr => ∃ k : Nat, k ≤ 6 ∧ i = .int .i64 (k : Int) ∧ Below V20.heap.size V20 wr) (fun i _ => 6 - (intOf i).toNat)
  case atStart => exact ⟨0, by omega, rfl, Below.refl _ _⟩
  case round =>
    obtain ⟨k, hk, rfl, hb⟩ := hrel
    by_cases hlt : k < 6
    · have m1 : (0 : Int) ≤ (k : Int) := by omega
      have m2 : (k : Int) < 6 := by omega
      obtain ⟨p, n, c, q, d, er, r, x1, x2, x3, x4, x5, x6, x7, x8⟩ := HRS.out k hlt
      have HIS : Hid (∀ w', Below wr.heap.size wr w' → Calls Tryz.prog 21 #[.slice p n c, .int .i64 er, .slice q n d, .int .i64 er] w' fun e w'' => e = .returned (.bool true) ∧ Below w'.heap.size w' w'') := fun w' h => is_true p q r n c d er w' x5 (x7.below (hb.trans (h.mono hb.size)) (Nat.le_refl _)) (x8.below (hb.trans (h.mono hb.size)) (Nat.le_refl _)) x6
      have y1 := cell_later hb x1 (Nat.le_refl _)
      have y2 := cell_later hb x2 (Nat.le_refl _)
      have y3 := cell_later hb x3 (Nat.le_refl _)
      have y4 := cell_later hb x4 (Nat.le_refl _)
      clear x1 x2 x3 x4 x5 x6 x7 x8
      go_wp2_with fail
      go_region_held3 (fun w' => w'.cell? ⟨O, k, none⟩ = some (.slice p n c) ∧ w'.cell? ⟨E, k, none⟩ = some (.int .i64 er) ∧ w'.cell? ⟨O2, k, none⟩ = some (.slice q n d) ∧ w'.cell? ⟨E2, k, none⟩ = some (.int .i64 er))
        (first
          | (go_split_ands
             refine ⟨?_, ?_, ?_, ?_⟩ <;> (refine cell_later hb8 ?_ (Nat.le_refl _); assumption))
          | go_keep)
        ((go_at_call 21; refine (HIS.out _ (below_drewN (Below.refl _ wr) 1)).mono ?_; rintro e w8 ⟨rfl, hb8⟩))
      have hb9 := hb.trans (((below_drewN (Below.refl _ wr) 1).trans (hb8.mono (Nat.le_refl _))).mono hb.size)
      go_wp2_with fail
      go_roundw
      case rel => exact ⟨k + 1, by omega, by go_num, hb9⟩
      case measure => simp [intOf]; omega
    · obtain rfl : k = 6 := by omega
      have K40 : Hid (∀ w', Below wr.heap.size wr w' → Lab.At pa a w' ∧ Lab.At pb b w' ∧ Lab.At pe es w' ∧ Txt.At pt xs w' ∧ OwnLabels v3.heap.size (.slice (some ⟨gx, 0, none⟩) (na + 3) cx) (a ++ Mark.some 3) w' ∧ OwnLabels v4.heap.size (.slice (some ⟨gy, 0, none⟩) (nb + 3) cy) (b ++ Mark.some 3) w' ∧ OwnLabels v5.heap.size (.slice (some ⟨gz, 0, none⟩) (ne + 3) cz) (es ++ Mark.some 3) w' ∧ OwnTexts v6.heap.size (.slice (some ⟨gt, 0, none⟩) (nt + 12) ctt) (xs ++ Mark.ts 12) w' ∧ OwnLabels W8.heap.size (.slice g0p m0 g0c) r0 w' ∧ OwnLabels V8.heap.size (.slice g1p m1 g1c) r1 w' ∧ OwnLabels V9.heap.size (.slice g2p m2 g2c) r2 w' ∧ OwnLabels V10.heap.size (.slice g3p m3 g3c) r3 w' ∧ OwnLabels V11.heap.size (.slice g4p m4 g4c) r4 w' ∧ OwnLabels V12.heap.size (.slice g5p m5 g5c) r5 w' ∧ w'.heap[O]? = some (.cells #[.slice g0p m0 g0c, .slice g1p m1 g1c, .slice g2p m2 g2c, .slice g3p m3 g3c, .slice g4p m4 g4c, .slice g5p m5 g5c] 68) ∧ w'.heap[E]? = some (.cells #[.int .i64 e0, .int .i64 e1, .int .i64 e2, .int .i64 e3, .int .i64 e4, .int .i64 e5] 69) ∧ OwnLabels W15.heap.size (.slice k0p m0 k0c) r0 w' ∧ OwnLabels V15.heap.size (.slice k1p m1 k1c) r1 w' ∧ OwnLabels V16.heap.size (.slice k2p m2 k2c) r2 w' ∧ OwnLabels V17.heap.size (.slice k3p m3 k3c) r3 w' ∧ OwnLabels V18.heap.size (.slice k4p m4 k4c) r4 w' ∧ OwnLabels V19.heap.size (.slice k5p m5 k5c) r5 w') := fun w' h => K9.out w' (hb.trans (h.mono hb.size))
      have B40 := below_next B21x hb
      clear HRS hb
      go_wp2_with (go_at_call 44; refine (HC1.out _ cx _ cy _ ((K40.out _ (Below.refl _ wr)).2.2.2.2.1).at.take ((K40.out _ (Below.refl _ wr)).2.2.2.2.2.1).at.take).mono ?_)
      first | rintro e v41 rfl hb41 | rintro e v41 ⟨rfl, hb41⟩
      have K41 : Hid (∀ w', Below v41.heap.size v41 w' → Lab.At pa a w' ∧ Lab.At pb b w' ∧ Lab.At pe es w' ∧ Txt.At pt xs w' ∧ OwnLabels v3.heap.size (.slice (some ⟨gx, 0, none⟩) (na + 3) cx) (a ++ Mark.some 3) w' ∧ OwnLabels v4.heap.size (.slice (some ⟨gy, 0, none⟩) (nb + 3) cy) (b ++ Mark.some 3) w' ∧ OwnLabels v5.heap.size (.slice (some ⟨gz, 0, none⟩) (ne + 3) cz) (es ++ Mark.some 3) w' ∧ OwnTexts v6.heap.size (.slice (some ⟨gt, 0, none⟩) (nt + 12) ctt) (xs ++ Mark.ts 12) w' ∧ OwnLabels W8.heap.size (.slice g0p m0 g0c) r0 w' ∧ OwnLabels V8.heap.size (.slice g1p m1 g1c) r1 w' ∧ OwnLabels V9.heap.size (.slice g2p m2 g2c) r2 w' ∧ OwnLabels V10.heap.size (.slice g3p m3 g3c) r3 w' ∧ OwnLabels V11.heap.size (.slice g4p m4 g4c) r4 w' ∧ OwnLabels V12.heap.size (.slice g5p m5 g5c) r5 w' ∧ w'.heap[O]? = some (.cells #[.slice g0p m0 g0c, .slice g1p m1 g1c, .slice g2p m2 g2c, .slice g3p m3 g3c, .slice g4p m4 g4c, .slice g5p m5 g5c] 68) ∧ w'.heap[E]? = some (.cells #[.int .i64 e0, .int .i64 e1, .int .i64 e2, .int .i64 e3, .int .i64 e4, .int .i64 e5] 69) ∧ OwnLabels W15.heap.size (.slice k0p m0 k0c) r0 w' ∧ OwnLabels V15.heap.size (.slice k1p m1 k1c) r1 w' ∧ OwnLabels V16.heap.size (.slice k2p m2 k2c) r2 w' ∧ OwnLabels V17.heap.size (.slice k3p m3 k3c) r3 w' ∧ OwnLabels V18.heap.size (.slice k4p m4 k4c) r4 w' ∧ OwnLabels V19.heap.size (.slice k5p m5 k5c) r5 w') := fun w' h => ⟨(K40.out w' (hb41.trans (h.mono hb41.size))).1, (K40.out w' (hb41.trans (h.mono hb41.size))).2.1, (K40.out w' (hb41.trans (h.mono hb41.size))).2.2.1, (K40.out w' (hb41.trans (h.mono hb41.size))).2.2.2.1, (K40.out w' (hb41.trans (h.mono hb41.size))).2.2.2.2.1, (K40.out w' (hb41.trans (h.mono hb41.size))).2.2.2.2.2.1, (K40.out w' (hb41.trans (h.mono hb41.size))).2.2.2.2.2.2.1, (K40.out w' (hb41.trans (h.mono hb41.size))).2.2.2.2.2.2.2.1, (K40.out w' (hb41.trans (h.mono hb41.size))).2.2.2.2.2.2.2.2.1, (K40.out w' (hb41.trans (h.mono hb41.size))).2.2.2.2.2.2.2.2.2.1, (K40.out w' (hb41.trans (h.mono hb41.size))).2.2.2.2.2.2.2.2.2.2.1, (K40.out w' (hb41.trans (h.mono hb41.size))).2.2.2.2.2.2.2.2.2.2.2.1, (K40.out w' (hb41.trans (h.mono hb41.size))).2.2.2.2.2.2.2.2.2.2.2.2.1, (K40.out w' (hb41.trans (h.mono hb41.size))).2.2.2.2.2.2.2.2.2.2.2.2.2.1, (K40.out w' (hb41.trans (h.mono hb41.size))).2.2.2.2.2.2.2.2.2.2.2.2.2.2.1, (K40.out w' (hb41.trans (h.mono hb41.size))).2.2.2.2.2.2.2.2.2.2.2.2.2.2.2.1, (K40.out w' (hb41.trans (h.mono hb41.size))).2.2.2.2.2.2.2.2.2.2.2.2.2.2.2.2.1, (K40.out w' (hb41.trans (h.mono hb41.size))).2.2.2.2.2.2.2.2.2.2.2.2.2.2.2.2.2.1, (K40.out w' (hb41.trans (h.mono hb41.size))).2.2.2.2.2.2.2.2.2.2.2.2.2.2.2.2.2.2.1, (K40.out w' (hb41.trans (h.mono hb41.size))).2.2.2.2.2.2.2.2.2.2.2.2.2.2.2.2.2.2.2.1, (K40.out w' (hb41.trans (h.mono hb41.size))).2.2.2.2.2.2.2.2.2.2.2.2.2.2.2.2.2.2.2.2.1, (K40.out w' (hb41.trans (h.mono hb41.size))).2.2.2.2.2.2.2.2.2.2.2.2.2.2.2.2.2.2.2.2.2⟩
      have B41 := below_next B40 hb41
      clear K40 B40 hb41
      clear HC1
      go_wp2_with (go_at_call 45; refine (HC2.out _ ((K41.out _ (Below.refl _ v41)).1) ((K41.out _ (Below.refl _ v41)).2.1)).mono ?_)
      first | rintro e v42 rfl hb42 | rintro e v42 ⟨rfl, hb42⟩
      have K42 : Hid (∀ w', Below v42.heap.size v42 w' → Lab.At pa a w' ∧ Lab.At pb b w' ∧ Lab.At pe es w' ∧ Txt.At pt xs w' ∧ OwnLabels v3.heap.size (.slice (some ⟨gx, 0, none⟩) (na + 3) cx) (a ++ Mark.some 3) w' ∧ OwnLabels v4.heap.size (.slice (some ⟨gy, 0, none⟩) (nb + 3) cy) (b ++ Mark.some 3) w' ∧ OwnLabels v5.heap.size (.slice (some ⟨gz, 0, none⟩) (ne + 3) cz) (es ++ Mark.some 3) w' ∧ OwnTexts v6.heap.size (.slice (some ⟨gt, 0, none⟩) (nt + 12) ctt) (xs ++ Mark.ts 12) w' ∧ OwnLabels W8.heap.size (.slice g0p m0 g0c) r0 w' ∧ OwnLabels V8.heap.size (.slice g1p m1 g1c) r1 w' ∧ OwnLabels V9.heap.size (.slice g2p m2 g2c) r2 w' ∧ OwnLabels V10.heap.size (.slice g3p m3 g3c) r3 w' ∧ OwnLabels V11.heap.size (.slice g4p m4 g4c) r4 w' ∧ OwnLabels V12.heap.size (.slice g5p m5 g5c) r5 w' ∧ w'.heap[O]? = some (.cells #[.slice g0p m0 g0c, .slice g1p m1 g1c, .slice g2p m2 g2c, .slice g3p m3 g3c, .slice g4p m4 g4c, .slice g5p m5 g5c] 68) ∧ w'.heap[E]? = some (.cells #[.int .i64 e0, .int .i64 e1, .int .i64 e2, .int .i64 e3, .int .i64 e4, .int .i64 e5] 69) ∧ OwnLabels W15.heap.size (.slice k0p m0 k0c) r0 w' ∧ OwnLabels V15.heap.size (.slice k1p m1 k1c) r1 w' ∧ OwnLabels V16.heap.size (.slice k2p m2 k2c) r2 w' ∧ OwnLabels V17.heap.size (.slice k3p m3 k3c) r3 w' ∧ OwnLabels V18.heap.size (.slice k4p m4 k4c) r4 w' ∧ OwnLabels V19.heap.size (.slice k5p m5 k5c) r5 w') := fun w' h => ⟨(K41.out w' (hb42.trans (h.mono hb42.size))).1, (K41.out w' (hb42.trans (h.mono hb42.size))).2.1, (K41.out w' (hb42.trans (h.mono hb42.size))).2.2.1, (K41.out w' (hb42.trans (h.mono hb42.size))).2.2.2.1, (K41.out w' (hb42.trans (h.mono hb42.size))).2.2.2.2.1, (K41.out w' (hb42.trans (h.mono hb42.size))).2.2.2.2.2.1, (K41.out w' (hb42.trans (h.mono hb42.size))).2.2.2.2.2.2.1, (K41.out w' (hb42.trans (h.mono hb42.size))).2.2.2.2.2.2.2.1, (K41.out w' (hb42.trans (h.mono hb42.size))).2.2.2.2.2.2.2.2.1, (K41.out w' (hb42.trans (h.mono hb42.size))).2.2.2.2.2.2.2.2.2.1, (K41.out w' (hb42.trans (h.mono hb42.size))).2.2.2.2.2.2.2.2.2.2.1, (K41.out w' (hb42.trans (h.mono hb42.size))).2.2.2.2.2.2.2.2.2.2.2.1, (K41.out w' (hb42.trans (h.mono hb42.size))).2.2.2.2.2.2.2.2.2.2.2.2.1, (K41.out w' (hb42.trans (h.mono hb42.size))).2.2.2.2.2.2.2.2.2.2.2.2.2.1, (K41.out w' (hb42.trans (h.mono hb42.size))).2.2.2.2.2.2.2.2.2.2.2.2.2.2.1, (K41.out w' (hb42.trans (h.mono hb42.size))).2.2.2.2.2.2.2.2.2.2.2.2.2.2.2.1, (K41.out w' (hb42.trans (h.mono hb42.size))).2.2.2.2.2.2.2.2.2.2.2.2.2.2.2.2.1, (K41.out w' (hb42.trans (h.mono hb42.size))).2.2.2.2.2.2.2.2.2.2.2.2.2.2.2.2.2.1, (K41.out w' (hb42.trans (h.mono hb42.size))).2.2.2.2.2.2.2.2.2.2.2.2.2.2.2.2.2.2.1, (K41.out w' (hb42.trans (h.mono hb42.size))).2.2.2.2.2.2.2.2.2.2.2.2.2.2.2.2.2.2.2.1, (K41.out w' (hb42.trans (h.mono hb42.size))).2.2.2.2.2.2.2.2.2.2.2.2.2.2.2.2.2.2.2.2.1, (K41.out w' (hb42.trans (h.mono hb42.size))).2.2.2.2.2.2.2.2.2.2.2.2.2.2.2.2.2.2.2.2.2⟩
      have B42 := below_next B41 hb42
      clear K41 B41 hb42
      clear HC2
      go_wp2_with (go_at_call 25; refine (HK1.out gx cx _ _ ((K42.out _ (Below.refl _ v42)).1) ((K42.out _ (Below.refl _ v42)).2.2.2.2.1)).mono ?_)
      first | rintro e v43 rfl hb43 | rintro e v43 ⟨rfl, hb43⟩
      have K43 : Hid (∀ w', Below v43.heap.size v43 w' → Lab.At pa a w' ∧ Lab.At pb b w' ∧ Lab.At pe es w' ∧ Txt.At pt xs w' ∧ OwnLabels v3.heap.size (.slice (some ⟨gx, 0, none⟩) (na + 3) cx) (a ++ Mark.some 3) w' ∧ OwnLabels v4.heap.size (.slice (some ⟨gy, 0, none⟩) (nb + 3) cy) (b ++ Mark.some 3) w' ∧ OwnLabels v5.heap.size (.slice (some ⟨gz, 0, none⟩) (ne + 3) cz) (es ++ Mark.some 3) w' ∧ OwnTexts v6.heap.size (.slice (some ⟨gt, 0, none⟩) (nt + 12) ctt) (xs ++ Mark.ts 12) w' ∧ OwnLabels W8.heap.size (.slice g0p m0 g0c) r0 w' ∧ OwnLabels V8.heap.size (.slice g1p m1 g1c) r1 w' ∧ OwnLabels V9.heap.size (.slice g2p m2 g2c) r2 w' ∧ OwnLabels V10.heap.size (.slice g3p m3 g3c) r3 w' ∧ OwnLabels V11.heap.size (.slice g4p m4 g4c) r4 w' ∧ OwnLabels V12.heap.size (.slice g5p m5 g5c) r5 w' ∧ w'.heap[O]? = some (.cells #[.slice g0p m0 g0c, .slice g1p m1 g1c, .slice g2p m2 g2c, .slice g3p m3 g3c, .slice g4p m4 g4c, .slice g5p m5 g5c] 68) ∧ w'.heap[E]? = some (.cells #[.int .i64 e0, .int .i64 e1, .int .i64 e2, .int .i64 e3, .int .i64 e4, .int .i64 e5] 69) ∧ OwnLabels W15.heap.size (.slice k0p m0 k0c) r0 w' ∧ OwnLabels V15.heap.size (.slice k1p m1 k1c) r1 w' ∧ OwnLabels V16.heap.size (.slice k2p m2 k2c) r2 w' ∧ OwnLabels V17.heap.size (.slice k3p m3 k3c) r3 w' ∧ OwnLabels V18.heap.size (.slice k4p m4 k4c) r4 w' ∧ OwnLabels V19.heap.size (.slice k5p m5 k5c) r5 w') := fun w' h => ⟨(K42.out w' (hb43.trans (h.mono hb43.size))).1, (K42.out w' (hb43.trans (h.mono hb43.size))).2.1, (K42.out w' (hb43.trans (h.mono hb43.size))).2.2.1, (K42.out w' (hb43.trans (h.mono hb43.size))).2.2.2.1, (K42.out w' (hb43.trans (h.mono hb43.size))).2.2.2.2.1, (K42.out w' (hb43.trans (h.mono hb43.size))).2.2.2.2.2.1, (K42.out w' (hb43.trans (h.mono hb43.size))).2.2.2.2.2.2.1, (K42.out w' (hb43.trans (h.mono hb43.size))).2.2.2.2.2.2.2.1, (K42.out w' (hb43.trans (h.mono hb43.size))).2.2.2.2.2.2.2.2.1, (K42.out w' (hb43.trans (h.mono hb43.size))).2.2.2.2.2.2.2.2.2.1, (K42.out w' (hb43.trans (h.mono hb43.size))).2.2.2.2.2.2.2.2.2.2.1, (K42.out w' (hb43.trans (h.mono hb43.size))).2.2.2.2.2.2.2.2.2.2.2.1, (K42.out w' (hb43.trans (h.mono hb43.size))).2.2.2.2.2.2.2.2.2.2.2.2.1, (K42.out w' (hb43.trans (h.mono hb43.size))).2.2.2.2.2.2.2.2.2.2.2.2.2.1, (K42.out w' (hb43.trans (h.mono hb43.size))).2.2.2.2.2.2.2.2.2.2.2.2.2.2.1, (K42.out w' (hb43.trans (h.mono hb43.size))).2.2.2.2.2.2.2.2.2.2.2.2.2.2.2.1, (K42.out w' (hb43.trans (h.mono hb43.size))).2.2.2.2.2.2.2.2.2.2.2.2.2.2.2.2.1, (K42.out w' (hb43.trans (h.mono hb43.size))).2.2.2.2.2.2.2.2.2.2.2.2.2.2.2.2.2.1, (K42.out w' (hb43.trans (h.mono hb43.size))).2.2.2.2.2.2.2.2.2.2.2.2.2.2.2.2.2.2.1, (K42.out w' (hb43.trans (h.mono hb43.size))).2.2.2.2.2.2.2.2.2.2.2.2.2.2.2.2.2.2.2.1, (K42.out w' (hb43.trans (h.mono hb43.size))).2.2.2.2.2.2.2.2.2.2.2.2.2.2.2.2.2.2.2.2.1, (K42.out w' (hb43.trans (h.mono hb43.size))).2.2.2.2.2.2.2.2.2.2.2.2.2.2.2.2.2.2.2.2.2⟩
      have B43 := below_next B42 hb43
      clear K42 B42 hb43
      clear HK1
      go_wp2_with (go_at_call 25; refine (HK2.out gy cy _ _ ((K43.out _ (Below.refl _ v43)).2.1) ((K43.out _ (Below.refl _ v43)).2.2.2.2.2.1)).mono ?_)
      first | rintro e v44 rfl hb44 | rintro e v44 ⟨rfl, hb44⟩
      have K44 : Hid (∀ w', Below v44.heap.size v44 w' → Lab.At pa a w' ∧ Lab.At pb b w' ∧ Lab.At pe es w' ∧ Txt.At pt xs w' ∧ OwnLabels v3.heap.size (.slice (some ⟨gx, 0, none⟩) (na + 3) cx) (a ++ Mark.some 3) w' ∧ OwnLabels v4.heap.size (.slice (some ⟨gy, 0, none⟩) (nb + 3) cy) (b ++ Mark.some 3) w' ∧ OwnLabels v5.heap.size (.slice (some ⟨gz, 0, none⟩) (ne + 3) cz) (es ++ Mark.some 3) w' ∧ OwnTexts v6.heap.size (.slice (some ⟨gt, 0, none⟩) (nt + 12) ctt) (xs ++ Mark.ts 12) w' ∧ OwnLabels W8.heap.size (.slice g0p m0 g0c) r0 w' ∧ OwnLabels V8.heap.size (.slice g1p m1 g1c) r1 w' ∧ OwnLabels V9.heap.size (.slice g2p m2 g2c) r2 w' ∧ OwnLabels V10.heap.size (.slice g3p m3 g3c) r3 w' ∧ OwnLabels V11.heap.size (.slice g4p m4 g4c) r4 w' ∧ OwnLabels V12.heap.size (.slice g5p m5 g5c) r5 w' ∧ w'.heap[O]? = some (.cells #[.slice g0p m0 g0c, .slice g1p m1 g1c, .slice g2p m2 g2c, .slice g3p m3 g3c, .slice g4p m4 g4c, .slice g5p m5 g5c] 68) ∧ w'.heap[E]? = some (.cells #[.int .i64 e0, .int .i64 e1, .int .i64 e2, .int .i64 e3, .int .i64 e4, .int .i64 e5] 69) ∧ OwnLabels W15.heap.size (.slice k0p m0 k0c) r0 w' ∧ OwnLabels V15.heap.size (.slice k1p m1 k1c) r1 w' ∧ OwnLabels V16.heap.size (.slice k2p m2 k2c) r2 w' ∧ OwnLabels V17.heap.size (.slice k3p m3 k3c) r3 w' ∧ OwnLabels V18.heap.size (.slice k4p m4 k4c) r4 w' ∧ OwnLabels V19.heap.size (.slice k5p m5 k5c) r5 w') := fun w' h => ⟨(K43.out w' (hb44.trans (h.mono hb44.size))).1, (K43.out w' (hb44.trans (h.mono hb44.size))).2.1, (K43.out w' (hb44.trans (h.mono hb44.size))).2.2.1, (K43.out w' (hb44.trans (h.mono hb44.size))).2.2.2.1, (K43.out w' (hb44.trans (h.mono hb44.size))).2.2.2.2.1, (K43.out w' (hb44.trans (h.mono hb44.size))).2.2.2.2.2.1, (K43.out w' (hb44.trans (h.mono hb44.size))).2.2.2.2.2.2.1, (K43.out w' (hb44.trans (h.mono hb44.size))).2.2.2.2.2.2.2.1, (K43.out w' (hb44.trans (h.mono hb44.size))).2.2.2.2.2.2.2.2.1, (K43.out w' (hb44.trans (h.mono hb44.size))).2.2.2.2.2.2.2.2.2.1, (K43.out w' (hb44.trans (h.mono hb44.size))).2.2.2.2.2.2.2.2.2.2.1, (K43.out w' (hb44.trans (h.mono hb44.size))).2.2.2.2.2.2.2.2.2.2.2.1, (K43.out w' (hb44.trans (h.mono hb44.size))).2.2.2.2.2.2.2.2.2.2.2.2.1, (K43.out w' (hb44.trans (h.mono hb44.size))).2.2.2.2.2.2.2.2.2.2.2.2.2.1, (K43.out w' (hb44.trans (h.mono hb44.size))).2.2.2.2.2.2.2.2.2.2.2.2.2.2.1, (K43.out w' (hb44.trans (h.mono hb44.size))).2.2.2.2.2.2.2.2.2.2.2.2.2.2.2.1, (K43.out w' (hb44.trans (h.mono hb44.size))).2.2.2.2.2.2.2.2.2.2.2.2.2.2.2.2.1, (K43.out w' (hb44.trans (h.mono hb44.size))).2.2.2.2.2.2.2.2.2.2.2.2.2.2.2.2.2.1, (K43.out w' (hb44.trans (h.mono hb44.size))).2.2.2.2.2.2.2.2.2.2.2.2.2.2.2.2.2.2.1, (K43.out w' (hb44.trans (h.mono hb44.size))).2.2.2.2.2.2.2.2.2.2.2.2.2.2.2.2.2.2.2.1, (K43.out w' (hb44.trans (h.mono hb44.size))).2.2.2.2.2.2.2.2.2.2.2.2.2.2.2.2.2.2.2.2.1, (K43.out w' (hb44.trans (h.mono hb44.size))).2.2.2.2.2.2.2.2.2.2.2.2.2.2.2.2.2.2.2.2.2⟩
      have B44 := below_next B43 hb44
      clear K43 B43 hb44
      clear HK2
      go_wp2_with (go_at_call 25; refine (HK3.out gz cz _ _ ((K44.out _ (Below.refl _ v44)).2.2.1) ((K44.out _ (Below.refl _ v44)).2.2.2.2.2.2.1)).mono ?_)
      first | rintro e v45 rfl hb45 | rintro e v45 ⟨rfl, hb45⟩
      have K45 : Hid (∀ w', Below v45.heap.size v45 w' → Lab.At pa a w' ∧ Lab.At pb b w' ∧ Lab.At pe es w' ∧ Txt.At pt xs w' ∧ OwnLabels v3.heap.size (.slice (some ⟨gx, 0, none⟩) (na + 3) cx) (a ++ Mark.some 3) w' ∧ OwnLabels v4.heap.size (.slice (some ⟨gy, 0, none⟩) (nb + 3) cy) (b ++ Mark.some 3) w' ∧ OwnLabels v5.heap.size (.slice (some ⟨gz, 0, none⟩) (ne + 3) cz) (es ++ Mark.some 3) w' ∧ OwnTexts v6.heap.size (.slice (some ⟨gt, 0, none⟩) (nt + 12) ctt) (xs ++ Mark.ts 12) w' ∧ OwnLabels W8.heap.size (.slice g0p m0 g0c) r0 w' ∧ OwnLabels V8.heap.size (.slice g1p m1 g1c) r1 w' ∧ OwnLabels V9.heap.size (.slice g2p m2 g2c) r2 w' ∧ OwnLabels V10.heap.size (.slice g3p m3 g3c) r3 w' ∧ OwnLabels V11.heap.size (.slice g4p m4 g4c) r4 w' ∧ OwnLabels V12.heap.size (.slice g5p m5 g5c) r5 w' ∧ w'.heap[O]? = some (.cells #[.slice g0p m0 g0c, .slice g1p m1 g1c, .slice g2p m2 g2c, .slice g3p m3 g3c, .slice g4p m4 g4c, .slice g5p m5 g5c] 68) ∧ w'.heap[E]? = some (.cells #[.int .i64 e0, .int .i64 e1, .int .i64 e2, .int .i64 e3, .int .i64 e4, .int .i64 e5] 69) ∧ OwnLabels W15.heap.size (.slice k0p m0 k0c) r0 w' ∧ OwnLabels V15.heap.size (.slice k1p m1 k1c) r1 w' ∧ OwnLabels V16.heap.size (.slice k2p m2 k2c) r2 w' ∧ OwnLabels V17.heap.size (.slice k3p m3 k3c) r3 w' ∧ OwnLabels V18.heap.size (.slice k4p m4 k4c) r4 w' ∧ OwnLabels V19.heap.size (.slice k5p m5 k5c) r5 w') := fun w' h => ⟨(K44.out w' (hb45.trans (h.mono hb45.size))).1, (K44.out w' (hb45.trans (h.mono hb45.size))).2.1, (K44.out w' (hb45.trans (h.mono hb45.size))).2.2.1, (K44.out w' (hb45.trans (h.mono hb45.size))).2.2.2.1, (K44.out w' (hb45.trans (h.mono hb45.size))).2.2.2.2.1, (K44.out w' (hb45.trans (h.mono hb45.size))).2.2.2.2.2.1, (K44.out w' (hb45.trans (h.mono hb45.size))).2.2.2.2.2.2.1, (K44.out w' (hb45.trans (h.mono hb45.size))).2.2.2.2.2.2.2.1, (K44.out w' (hb45.trans (h.mono hb45.size))).2.2.2.2.2.2.2.2.1, (K44.out w' (hb45.trans (h.mono hb45.size))).2.2.2.2.2.2.2.2.2.1, (K44.out w' (hb45.trans (h.mono hb45.size))).2.2.2.2.2.2.2.2.2.2.1, (K44.out w' (hb45.trans (h.mono hb45.size))).2.2.2.2.2.2.2.2.2.2.2.1, (K44.out w' (hb45.trans (h.mono hb45.size))).2.2.2.2.2.2.2.2.2.2.2.2.1, (K44.out w' (hb45.trans (h.mono hb45.size))).2.2.2.2.2.2.2.2.2.2.2.2.2.1, (K44.out w' (hb45.trans (h.mono hb45.size))).2.2.2.2.2.2.2.2.2.2.2.2.2.2.1, (K44.out w' (hb45.trans (h.mono hb45.size))).2.2.2.2.2.2.2.2.2.2.2.2.2.2.2.1, (K44.out w' (hb45.trans (h.mono hb45.size))).2.2.2.2.2.2.2.2.2.2.2.2.2.2.2.2.1, (K44.out w' (hb45.trans (h.mono hb45.size))).2.2.2.2.2.2.2.2.2.2.2.2.2.2.2.2.2.1, (K44.out w' (hb45.trans (h.mono hb45.size))).2.2.2.2.2.2.2.2.2.2.2.2.2.2.2.2.2.2.1, (K44.out w' (hb45.trans (h.mono hb45.size))).2.2.2.2.2.2.2.2.2.2.2.2.2.2.2.2.2.2.2.1, (K44.out w' (hb45.trans (h.mono hb45.size))).2.2.2.2.2.2.2.2.2.2.2.2.2.2.2.2.2.2.2.2.1, (K44.out w' (hb45.trans (h.mono hb45.size))).2.2.2.2.2.2.2.2.2.2.2.2.2.2.2.2.2.2.2.2.2⟩
      have B45 := below_next B44 hb45
      clear K44 B44 hb45
      clear HK3
      go_wp2_with (go_at_call 46; refine (HK4.out gt ctt _ _ ((K45.out _ (Below.refl _ v45)).2.2.2.1) ((K45.out _ (Below.refl _ v45)).2.2.2.2.2.2.2.1)).mono ?_)
      first | rintro e v46 rfl hb46 | rintro e v46 ⟨rfl, hb46⟩
      have K46 : Hid (∀ w', Below v46.heap.size v46 w' → Lab.At pa a w' ∧ Lab.At pb b w' ∧ Lab.At pe es w' ∧ Txt.At pt xs w' ∧ OwnLabels v3.heap.size (.slice (some ⟨gx, 0, none⟩) (na + 3) cx) (a ++ Mark.some 3) w' ∧ OwnLabels v4.heap.size (.slice (some ⟨gy, 0, none⟩) (nb + 3) cy) (b ++ Mark.some 3) w' ∧ OwnLabels v5.heap.size (.slice (some ⟨gz, 0, none⟩) (ne + 3) cz) (es ++ Mark.some 3) w' ∧ OwnTexts v6.heap.size (.slice (some ⟨gt, 0, none⟩) (nt + 12) ctt) (xs ++ Mark.ts 12) w' ∧ OwnLabels W8.heap.size (.slice g0p m0 g0c) r0 w' ∧ OwnLabels V8.heap.size (.slice g1p m1 g1c) r1 w' ∧ OwnLabels V9.heap.size (.slice g2p m2 g2c) r2 w' ∧ OwnLabels V10.heap.size (.slice g3p m3 g3c) r3 w' ∧ OwnLabels V11.heap.size (.slice g4p m4 g4c) r4 w' ∧ OwnLabels V12.heap.size (.slice g5p m5 g5c) r5 w' ∧ w'.heap[O]? = some (.cells #[.slice g0p m0 g0c, .slice g1p m1 g1c, .slice g2p m2 g2c, .slice g3p m3 g3c, .slice g4p m4 g4c, .slice g5p m5 g5c] 68) ∧ w'.heap[E]? = some (.cells #[.int .i64 e0, .int .i64 e1, .int .i64 e2, .int .i64 e3, .int .i64 e4, .int .i64 e5] 69) ∧ OwnLabels W15.heap.size (.slice k0p m0 k0c) r0 w' ∧ OwnLabels V15.heap.size (.slice k1p m1 k1c) r1 w' ∧ OwnLabels V16.heap.size (.slice k2p m2 k2c) r2 w' ∧ OwnLabels V17.heap.size (.slice k3p m3 k3c) r3 w' ∧ OwnLabels V18.heap.size (.slice k4p m4 k4c) r4 w' ∧ OwnLabels V19.heap.size (.slice k5p m5 k5c) r5 w') := fun w' h => ⟨(K45.out w' (hb46.trans (h.mono hb46.size))).1, (K45.out w' (hb46.trans (h.mono hb46.size))).2.1, (K45.out w' (hb46.trans (h.mono hb46.size))).2.2.1, (K45.out w' (hb46.trans (h.mono hb46.size))).2.2.2.1, (K45.out w' (hb46.trans (h.mono hb46.size))).2.2.2.2.1, (K45.out w' (hb46.trans (h.mono hb46.size))).2.2.2.2.2.1, (K45.out w' (hb46.trans (h.mono hb46.size))).2.2.2.2.2.2.1, (K45.out w' (hb46.trans (h.mono hb46.size))).2.2.2.2.2.2.2.1, (K45.out w' (hb46.trans (h.mono hb46.size))).2.2.2.2.2.2.2.2.1, (K45.out w' (hb46.trans (h.mono hb46.size))).2.2.2.2.2.2.2.2.2.1, (K45.out w' (hb46.trans (h.mono hb46.size))).2.2.2.2.2.2.2.2.2.2.1, (K45.out w' (hb46.trans (h.mono hb46.size))).2.2.2.2.2.2.2.2.2.2.2.1, (K45.out w' (hb46.trans (h.mono hb46.size))).2.2.2.2.2.2.2.2.2.2.2.2.1, (K45.out w' (hb46.trans (h.mono hb46.size))).2.2.2.2.2.2.2.2.2.2.2.2.2.1, (K45.out w' (hb46.trans (h.mono hb46.size))).2.2.2.2.2.2.2.2.2.2.2.2.2.2.1, (K45.out w' (hb46.trans (h.mono hb46.size))).2.2.2.2.2.2.2.2.2.2.2.2.2.2.2.1, (K45.out w' (hb46.trans (h.mono hb46.size))).2.2.2.2.2.2.2.2.2.2.2.2.2.2.2.2.1, (K45.out w' (hb46.trans (h.mono hb46.size))).2.2.2.2.2.2.2.2.2.2.2.2.2.2.2.2.2.1, (K45.out w' (hb46.trans (h.mono hb46.size))).2.2.2.2.2.2.2.2.2.2.2.2.2.2.2.2.2.2.1, (K45.out w' (hb46.trans (h.mono hb46.size))).2.2.2.2.2.2.2.2.2.2.2.2.2.2.2.2.2.2.2.1, (K45.out w' (hb46.trans (h.mono hb46.size))).2.2.2.2.2.2.2.2.2.2.2.2.2.2.2.2.2.2.2.2.1, (K45.out w' (hb46.trans (h.mono hb46.size))).2.2.2.2.2.2.2.2.2.2.2.2.2.2.2.2.2.2.2.2.2⟩
      have B46 := below_next B45 hb46
      clear K45 B45 hb46
      clear HK4
      have z0 : v46.cell? ⟨O, 0, none⟩ = some (.slice g0p m0 g0c) := by rw [Lib.cell_of_heap ((K46.out v46 (Below.refl _ _)).2.2.2.2.2.2.2.2.2.2.2.2.2.2.1)]; rfl
      have z1 : v46.cell? ⟨O, 1, none⟩ = some (.slice g1p m1 g1c) := by rw [Lib.cell_of_heap ((K46.out v46 (Below.refl _ _)).2.2.2.2.2.2.2.2.2.2.2.2.2.2.1)]; rfl
      have z2 : v46.cell? ⟨O, 2, none⟩ = some (.slice g2p m2 g2c) := by rw [Lib.cell_of_heap ((K46.out v46 (Below.refl _ _)).2.2.2.2.2.2.2.2.2.2.2.2.2.2.1)]; rfl
      have z3 : v46.cell? ⟨O, 3, none⟩ = some (.slice g3p m3 g3c) := by rw [Lib.cell_of_heap ((K46.out v46 (Below.refl _ _)).2.2.2.2.2.2.2.2.2.2.2.2.2.2.1)]; rfl
      have z4 : v46.cell? ⟨O, 4, none⟩ = some (.slice g4p m4 g4c) := by rw [Lib.cell_of_heap ((K46.out v46 (Below.refl _ _)).2.2.2.2.2.2.2.2.2.2.2.2.2.2.1)]; rfl
      have z5 : v46.cell? ⟨O, 5, none⟩ = some (.slice g5p m5 g5c) := by rw [Lib.cell_of_heap ((K46.out v46 (Below.refl _ _)).2.2.2.2.2.2.2.2.2.2.2.2.2.2.1)]; rfl
      have HAP : Hid (Calls Tryz.prog 47 #[.slice (some ⟨v46.heap.size, 0, none⟩) 9 9] (v46.alloc (.cells #[.slice (some ⟨gx, 0, none⟩) na cx, .slice (some ⟨gy, 0, none⟩) nb cy, .slice (some ⟨gz, 0, none⟩) ne cz, .slice g0p m0 g0c, .slice g1p m1 g1c, .slice g2p m2 g2c, .slice g3p m3 g3c, .slice g4p m4 g4c, .slice g5p m5 g5c] 25)) fun e w' => e = .returned (.bool true) ∧ Below w.heap.size (v46.alloc (.cells #[.slice (some ⟨gx, 0, none⟩) na cx, .slice (some ⟨gy, 0, none⟩) nb cy, .slice (some ⟨gz, 0, none⟩) ne cz, .slice g0p m0 g0c, .slice g1p m1 g1c, .slice g2p m2 g2c, .slice g3p m3 g3c, .slice g4p m4 g4c, .slice g5p m5 g5c] 25)) w') := by
        refine apart_is w.heap.size v46.heap.size 9 9 [⟨some ⟨gx, 0, none⟩, na, cx⟩, ⟨some ⟨gy, 0, none⟩, nb, cy⟩, ⟨some ⟨gz, 0, none⟩, ne, cz⟩, ⟨g0p, m0, g0c⟩, ⟨g1p, m1, g1c⟩, ⟨g2p, m2, g2c⟩, ⟨g3p, m3, g3c⟩, ⟨g4p, m4, g4c⟩, ⟨g5p, m5, g5c⟩] _ _ rfl (by omega) (alloc_new _ _) ?_ ?_ ?_ (by have := B46.size; simp; omega)
        · intro i hi
          have hi9 : i < 9 := hi
          obtain rfl | rfl | rfl | rfl | rfl | rfl | rfl | rfl | rfl : i = 0 ∨ i = 1 ∨ i = 2 ∨ i = 3 ∨ i = 4 ∨ i = 5 ∨ i = 6 ∨ i = 7 ∨ i = 8 := by omega
          all_goals rfl
        · intro i hi
          have hi9 : i < 9 := hi
          obtain rfl | rfl | rfl | rfl | rfl | rfl | rfl | rfl | rfl : i = 0 ∨ i = 1 ∨ i = 2 ∨ i = 3 ∨ i = 4 ∨ i = 5 ∨ i = 6 ∨ i = 7 ∨ i = 8 := by omega
          · exact (show Lab.Room w.heap.size (some ⟨gx, 0, none⟩) na cx _ from ((OwnLabels.room ((K46.out _ ((Below.refl v46.heap.size v46).alloc (Nat.le_refl _) _)).2.2.2.2.1)).less (by omega)).lift (by have := HLO.out; omega))
          · exact (show Lab.Room w.heap.size (some ⟨gy, 0, none⟩) nb cy _ from ((OwnLabels.room ((K46.out _ ((Below.refl v46.heap.size v46).alloc (Nat.le_refl _) _)).2.2.2.2.2.1)).less (by omega)).lift (by have := HLO.out; omega))
          · exact (show Lab.Room w.heap.size (some ⟨gz, 0, none⟩) ne cz _ from ((OwnLabels.room ((K46.out _ ((Below.refl v46.heap.size v46).alloc (Nat.le_refl _) _)).2.2.2.2.2.2.1)).less (by omega)).lift (by have := HLO.out; omega))
          · exact (show Lab.Room w.heap.size (g0p) m0 g0c _ from ((OwnLabels.room ((K46.out _ ((Below.refl v46.heap.size v46).alloc (Nat.le_refl _) _)).2.2.2.2.2.2.2.2.1)).less (Nat.le_refl _)).lift (by have := HLO.out; omega))
          · exact (show Lab.Room w.heap.size (g1p) m1 g1c _ from ((OwnLabels.room ((K46.out _ ((Below.refl v46.heap.size v46).alloc (Nat.le_refl _) _)).2.2.2.2.2.2.2.2.2.1)).less (Nat.le_refl _)).lift (by have := HLO.out; omega))
          · exact (show Lab.Room w.heap.size (g2p) m2 g2c _ from ((OwnLabels.room ((K46.out _ ((Below.refl v46.heap.size v46).alloc (Nat.le_refl _) _)).2.2.2.2.2.2.2.2.2.2.1)).less (Nat.le_refl _)).lift (by have := HLO.out; omega))
          · exact (show Lab.Room w.heap.size (g3p) m3 g3c _ from ((OwnLabels.room ((K46.out _ ((Below.refl v46.heap.size v46).alloc (Nat.le_refl _) _)).2.2.2.2.2.2.2.2.2.2.2.1)).less (Nat.le_refl _)).lift (by have := HLO.out; omega))
          · exact (show Lab.Room w.heap.size (g4p) m4 g4c _ from ((OwnLabels.room ((K46.out _ ((Below.refl v46.heap.size v46).alloc (Nat.le_refl _) _)).2.2.2.2.2.2.2.2.2.2.2.2.1)).less (Nat.le_refl _)).lift (by have := HLO.out; omega))
          · exact (show Lab.Room w.heap.size (g5p) m5 g5c _ from ((OwnLabels.room ((K46.out _ ((Below.refl v46.heap.size v46).alloc (Nat.le_refl _) _)).2.2.2.2.2.2.2.2.2.2.2.2.2.1)).less (Nat.le_refl _)).lift (by have := HLO.out; omega))
        · refine Apart.apart (lo := fun i => [v3.heap.size, v4.heap.size, v5.heap.size, W8.heap.size, V8.heap.size, V9.heap.size, V10.heap.size, V11.heap.size, V12.heap.size, V13.heap.size].getD i 0) (N := 9) ?_ rfl ?_
          · intro i hi9
            obtain rfl | rfl | rfl | rfl | rfl | rfl | rfl | rfl | rfl : i = 0 ∨ i = 1 ∨ i = 2 ∨ i = 3 ∨ i = 4 ∨ i = 5 ∨ i = 6 ∨ i = 7 ∨ i = 8 := by omega
            all_goals (have := HLO.out; simp only [List.getD_cons_zero, List.getD_cons_succ]; omega)
          · intro i hi
            have hi9 : i < 9 := hi
            obtain rfl | rfl | rfl | rfl | rfl | rfl | rfl | rfl | rfl : i = 0 ∨ i = 1 ∨ i = 2 ∨ i = 3 ∨ i = 4 ∨ i = 5 ∨ i = 6 ∨ i = 7 ∨ i = 8 := by omega
            · exact fun g hg => ⟨(HIN0.out g hg).1, Nat.lt_of_lt_of_le (HIN0.out g hg).2 (by have := HLO.out; have := HZC.out; show _ ≤ v4.heap.size; omega)⟩
            · exact fun g hg => ⟨(HIN1.out g hg).1, Nat.lt_of_lt_of_le (HIN1.out g hg).2 (by have := HLO.out; have := HZC.out; show _ ≤ v5.heap.size; omega)⟩
            · exact fun g hg => ⟨(HIN2.out g hg).1, Nat.lt_of_lt_of_le (HIN2.out g hg).2 (by have := HLO.out; have := HZC.out; show _ ≤ W8.heap.size; omega)⟩
            · exact fun g hg => ⟨(HINg0.out g hg).1, Nat.lt_of_lt_of_le (HINg0.out g hg).2 (by have := HLO.out; have := HZC.out; show _ ≤ V8.heap.size; omega)⟩
            · exact fun g hg => ⟨(HINg1.out g hg).1, Nat.lt_of_lt_of_le (HINg1.out g hg).2 (by have := HLO.out; have := HZC.out; show _ ≤ V9.heap.size; omega)⟩
            · exact fun g hg => ⟨(HINg2.out g hg).1, Nat.lt_of_lt_of_le (HINg2.out g hg).2 (by have := HLO.out; have := HZC.out; show _ ≤ V10.heap.size; omega)⟩
            · exact fun g hg => ⟨(HINg3.out g hg).1, Nat.lt_of_lt_of_le (HINg3.out g hg).2 (by have := HLO.out; have := HZC.out; show _ ≤ V11.heap.size; omega)⟩
            · exact fun g hg => ⟨(HINg4.out g hg).1, Nat.lt_of_lt_of_le (HINg4.out g hg).2 (by have := HLO.out; have := HZC.out; show _ ≤ V12.heap.size; omega)⟩
            · exact fun g hg => ⟨(HINg5.out g hg).1, Nat.lt_of_lt_of_le (HINg5.out g hg).2 (by have := HLO.out; have := HZC.out; show _ ≤ V13.heap.size; omega)⟩
      go_wp2_with (go_at_call 47; refine HAP.out.mono ?_)
      first | rintro e w9 rfl hb9 | rintro e w9 ⟨rfl, hb9⟩
      go_wp2_with fail
      go_ret
      exact ⟨rfl, (B46.alloc B46.size _).trans hb9⟩

end Go.Proofs.YtbilaghljlobpaaGreat
