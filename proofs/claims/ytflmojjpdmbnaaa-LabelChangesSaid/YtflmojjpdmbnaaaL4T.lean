/- Contracts of label: table.put, table.labels, Get. -/
import Derived.Test.YtflmojjpdmbnaaaL4P
import Derived.Test.YtflmojjpdmbnaaaL4S
import Derived.Maps.RangeWalk
import Derived.Maps.OwnOps
import Derived.Maps.OwnSet
import Derived.Maps.StringElems
namespace Go.Proofs.Ytflmojjpdmbnaaa
open Go.RowKit Go.Maps

theorem strLaw : Maps.Keyed Try.prog 9 := Maps.string_keyed Try.underlying9
theorem Lab.key_of (s : ByteArray) (hs : s.size ≤ 1000000) : keyOf Try.prog 9 (.string s) = some (.string (Lab.bs s)) := WideMaps.keyOf_string_mk (s := s) Try.underlying9 (by unfold maxLen; omega)
/-- what reads as a key of a string's type is that string -/
theorem keyOf_string_inv {P : Program} {k : TypeId} (hk : P.underlying k = some .string) {key : Value} {kl : Lit} (h : keyOf P k key = some kl) : ∃ s : ByteArray, key = .string s ∧ kl = .string s.data.toList ∧ s.size ≤ maxLen := by
  obtain ⟨s, h1, h2, h3⟩ := WideMaps.string_of_keyOf hk h
  first
    | exact ⟨s, h1, h2, h3⟩
    | exact ⟨s, h1, h3, h2⟩
/-- the table's map in block b has just the labels m -/
def Lab.Tab (b n : Nat) (m : List Lab.L) (w : World) : Prop := ∃ D : DataW Unit, w.ownsMap Try.prog 9 Lab.elem b n D ∧ Lab.MapIs D m

set_option maxHeartbeats 3200000 in
set_option maxRecDepth 100000 in
theorem put_is (w0 : World) (b nn : Nat) (m : List Lab.L) (p : Option Addr) (ls : List Lab.L) (n c : Nat) (w : World) (hn : ls.length = n) (hA : Lab.At p ls w0) (hF : Lab.Fit 1000000 ls) (hl : n ≤ 100000) (hnn : nn ≤ 1000000) (h0 : Below w0.heap.size w0 w) (hb : w0.heap.size ≤ b) (hbw : b < w.heap.size) (hT : Lab.Tab b nn m w) :
    Calls Try.prog 61 #[.map (some b), .slice p n c] w fun e w' => e = .returned (.tuple #[]) ∧ (∃ nn', nn' ≤ nn + n ∧ Lab.Tab b nn' (Lab.puts m ls) w') ∧ w.heap.size ≤ w'.heap.size ∧ Below w0.heap.size w0 w' := by
  have HN := Lib.hid hn
  have HA := Lib.hid hA
  have HF := Lib.hid hF
  have HD := Lib.hid (fun m k h => Lab.puts_drop m ls k h)
  clear hn hA hF
  go_enter Try.func61, Try.ntmps61
  go_wp2_with fail
  go_loopw [8] (fun i wr => ∃ (k : Nat) (m' : List Lab.L) (q : Nat), k ≤ n ∧ i = .int .i64 (k : Int) ∧ q ≤ nn + k ∧ Lab.Tab b q m' wr ∧ Hid (Lab.puts m' (ls.drop k) = Lab.puts m ls) ∧ w.heap.size ≤ wr.heap.size ∧ Below w0.heap.size w0 wr) (fun i _ => n - (intOf i).toNat)
  case atStart => exact ⟨0, m, nn, Nat.zero_le _, rfl, by omega, hT, rfl, Nat.le_refl _, h0⟩
  case round =>
    obtain ⟨k, m', q, hk, rfl, hq, hTr, HP, hsz, hbr⟩ := hrel
    by_cases hlt : k < n
    · have hk2 : k < ls.length := by rw [HN.out]; exact hlt
      obtain ⟨b0, o0, rfl, hc⟩ := HA.out.open k hk2
      have hpd := HP.out
      rw [HD.out m' k hk2] at hpd
      have c0 := cell_later hbr (hc k hk2).1 (Nat.le_refl _)
      have c1 := cell_later hbr (hc k hk2).2 (Nat.le_refl _)
      have hfx := HF.out ls[k] (List.getElem_mem _)
      obtain ⟨x, hx⟩ : ∃ x, ls[k] = x := ⟨_, rfl⟩
      rw [hx] at c0 c1 hpd hfx
      have HP2 := Lib.hid hpd
      obtain ⟨bv, hbv⟩ : ∃ bv, (Lab.bs x.v).isEmpty = bv := ⟨_, rfl⟩
      have hv1 : x.v.toList.isEmpty = bv := by rw [← hbv, ByteArray.toList_eq]; rfl
      have hv0 : decide (x.v.toList = []) = bv := by rw [← hv1]; cases x.v.toList <;> rfl
      have hkey := Lab.key_of x.n hfx.1
      obtain ⟨D, hown, hM⟩ := hTr
      have hMS := hM.step x bv hbv
      have HMS := Lib.hid hMS
      have hbne : b < wr.heap.size := by omega
      have hown2 := hown.alloc (.cells #[.string x.n, .string x.v] 36)
      have hb2 := hbr.alloc hbr.size (.cells #[.string x.n, .string x.v] 36)
      have n1 : (0 : Int) ≤ (k : Int) := by omega
      have n2 : (k : Int) < (n : Int) := by omega
      clear hx hc hpd hMS hM hbv hown
      cases bv
      · go_wp2_with (at_mapUpdate; refine wpList_mapUpdate_own _ rfl _ _ _ 82 rfl 9 36 strLaw Try.underlying82 _ _ _ D rfl hown2 ?m1 _ _ _ rfl rfl hkey (Lab.dat x) [] (Lab.elem_mk x) ?_)
        case m1 => unfold maxLen; omega
        intro w3 hmap3 hg3
        have hb3 := hb2.grown hg3 hb2.size (fun j hj => by cases hj; exact hb)
        have hs3 := hg3.size
        simp only [World.size_alloc] at hs3
        go_wp2_with fail
        go_roundw
        case rel => exact ⟨k + 1, _, q + 1, by omega, by go_num, by omega, ⟨_, hmap3, HMS.out⟩, HP2, by omega, hb3⟩
        case measure => simp [intOf]; omega
      · go_wp2_with (at_delete; refine wpList_delete_own _ rfl _ _ 82 9 rfl 36 strLaw Try.underlying82 _ _ _ D rfl hown2 _ _ rfl hkey ?_)
        intro w3 hmap3 hg3
        have hg4 := hg3.grown
        have hb3 := hb2.grown hg4 hb2.size (fun j hj => by cases hj; exact hb)
        have hs3 := hg4.size
        simp only [World.size_alloc] at hs3
        clear hg4 hg3
        try go_frame
        go_wp2_with fail
        go_roundw
        case rel => exact ⟨k + 1, _, q, by omega, by go_num, by omega, ⟨_, hmap3, HMS.out⟩, HP2, by omega, hb3⟩
        case measure => simp [intOf]; omega
    · have hp := HP.out
      rw [List.drop_eq_nil_iff.2 (by rw [HN.out]; omega)] at hp
      have n2 : (n : Int) ≤ (k : Int) := by omega
      have HPe := Lib.hid hp
      clear hp
      go_wp2_with fail
      go_end0
      exact ⟨rfl, ⟨q, by omega, by rw [← HPe.out]; exact hTr⟩, hsz, hbr⟩

theorem Lab.len_le : ∀ (l m : List (List UInt8)), l.Nodup → (∀ y ∈ l, y ∈ m) → l.length ≤ m.length
  | [], _, _, _ => Nat.zero_le _
  | a :: l, m, hn, hs => by
    rw [List.nodup_cons] at hn
    have ha := hs a List.mem_cons_self
    have h := Lab.len_le l (m.erase a) hn.2 (fun y hy => (List.mem_erase_of_ne (by intro e; subst e; exact hn.1 hy)).2 (hs y (List.mem_cons_of_mem _ hy)))
    have h2 := List.length_erase_of_mem ha
    have h3 := List.length_pos_of_mem ha
    rw [List.length_cons]
    omega
theorem Lab.Met.len {D : DataW Unit} {m : List Lab.L} {left : Lit → Bool} {out : List Lab.L} (h : Lab.Met D m left out) : out.length ≤ m.length := by
  have := Lab.len_le (Lab.names out) (Lab.names m) h.nodup (fun y hy => by
    unfold Lab.names at hy ⊢
    rw [List.mem_map] at hy ⊢
    obtain ⟨z, hz, e⟩ := hy
    exact ⟨z, h.sub z hz, e⟩)
  simpa [Lab.names] using this

set_option maxHeartbeats 3200000 in
set_option maxRecDepth 100000 in
theorem labels_is (b nn : Nat) (m : List Lab.L) (r : List Lab.L) (hr : Lab.srt m = r) (w : World) (hmn : m.length ≤ 100000) (hbw : b < w.heap.size) (hT : Lab.Tab b nn m w) :
    Calls Try.prog 62 #[.map (some b)] w fun e w' => (∃ u, e = .returned u ∧ OwnLabels w.heap.size u r w') ∧ Below w.heap.size w w' := by
  obtain ⟨D, hown, hM⟩ := hT
  have HM := Lib.hid hM
  have HR := Lib.hid hr
  have HMN := Lib.hid hmn
  clear hM hr hmn
  go_enter Try.func62, Try.ntmps62
  go_wp2_with (at_range; refine wpList_range_own _ rfl _ 82 rfl 9 36 strLaw Try.underlying82 _ _ _ D rfl hown ?_)
  intro w1 hrg1 hg1 hs1
  have hb1 : Below w.heap.size w w1 := (Below.refl _ _).grown hg1 (Nat.le_refl _) (fun j hj => by cases hj)
  have hz1 : w.heap.size + 1 ≤ w1.heap.size := by omega
  clear hg1 hs1
  go_wp2_with fail
  go_loopw [3] (fun v wr => ∃ (left : Lit → Bool) (cnt : Nat) (out : List Lab.L), wr.ranges Try.prog 9 Lab.elem b w.heap.size nn D left cnt ∧ Lab.Met D m left out ∧ OwnLabels (w.heap.size + 1) v out wr ∧ w.heap.size + 1 ≤ wr.heap.size ∧ Below w.heap.size w wr) (fun _ wr => wr.rangeLeft b w.heap.size)
  case atStart => exact ⟨_, _, [], hrg1, Lab.Met.start HM.out, OwnLabels.nil _ _, hz1, hb1⟩
  case round =>
    obtain ⟨left, cnt, out, hrg, hmet, hol, hsz, hb⟩ := hrel
    have hlen : out.length ≤ 100000 := Nat.le_trans hmet.len HMN.out
    have HMET := Lib.hid hmet
    clear hmet
    go_wp2_with (at_next; refine wpList_next_ranges _ rfl _ rfl 9 strLaw Lab.elem Value.string (fun c : Lab.L => Value.agg #[.string c.n, .string c.v]) (fun key kl hkey => by obtain ⟨x, rfl, _⟩ := keyOf_string_inv Try.underlying9 hkey; exact ⟨x, rfl⟩) Lab.elem_inv b w.heap.size nn D left cnt rfl hrg ?_ ?_)
    · intro _ hl0
      have HP := Lib.hid (HMET.out.perm HM.out hl0)
      have HS := Lib.hid (sortA_is (w.heap.size + 1) _ out out.length wr rfl hol hsz hlen)
      clear hl0
      go_wp2_with (go_at_call 99; refine HS.out.mono ?_)
      first | rintro e w3 rfl d hpd has hod hb3 | rintro e w3 ⟨rfl, d, ⟨hpd, has⟩, hod, hb3⟩
      have hdr : d = r := by
        rw [← HR.out]
        exact Lab.srt_uniq (hpd.trans HP.out) (Lab.strict_of_asc has (((Lab.names_perm (hpd.trans HP.out)).nodup_iff).2 HM.out.nodup))
      rw [hdr] at hod
      clear hdr hpd has
      go_wp2_with fail
      go_ret
      exact ⟨⟨_, rfl, row_lift hod (by omega)⟩, hb.trans (hb3.mono (by omega))⟩
    · intro x c kl yd yp w2 cnt2 hkey hlk hv hat hrg2 hlt hg2 hs2 hen
      obtain ⟨x', ex, rfl, _⟩ := keyOf_string_inv Try.underlying9 hkey
      cases ex
      obtain ⟨rfl, rfl⟩ : yd = Lab.dat c ∧ yp = [] := by
        have e := Option.some.inj ((Lab.elem_mk c).symm.trans hv)
        simp only [Prod.mk.injEq] at e
        exact ⟨e.1.symm, e.2.symm⟩
      have HMET2 := Lib.hid (HMET.out.step HM.out (Lab.bs x) c hlk hat)
      have hol2 : OwnLabels (w.heap.size + 1) _ out w2 := World.ownsRow.kept hol hg2 (by
        rcases ho : u3.ownBlock with _ | j
        · exact .inl rfl
        · right
          have := (World.ownsRow.lt hol j ho).1
          intro e
          cases e
          omega)
      have hb2 : Below w.heap.size w w2 := hb.grown hg2 hb.size (fun j hj => by cases hj; exact Nat.le_refl _)
      have hz2 : w.heap.size + 1 ≤ w2.heap.size := by omega
      have hcnt : cnt2 < wr.rangeLeft b w.heap.size := by rw [hrg.left_eq]; exact hlt
      have HC := Lib.hid hcnt
      clear hs2 hkey hlk hat hrg hol hb hg2 hcnt hlt hv
      go_wp2_with (at_builtin; refine wpList_pushL 27 Try.underlying27 rfl _ _ rfl _ _ _ _ rfl (hol2.alloc _) c _ _ rfl _ rfl (by simp) ?c1 ?c2 ?_)
      case c1 => omega
      case c2 => simp; omega
      intro v6 w6 hown6 hg6
      have hz6 := hg6.size
      simp only [World.size_alloc] at hz6
      have hrg6 := ((hrg2.alloc (.cells #[.string c.n, .string c.v] 36)).alloc (.cells #[.string c.n, .string c.v] 36)).kept hg6 (by
        intro e
        have := (World.ownsRow.lt hol2 _ e.symm).1
        omega) (by
        intro e
        have := (World.ownsRow.lt hol2 _ e.symm).1
        omega)
      have hb6 : Below w.heap.size w w6 := ((hb2.alloc hb2.size _).alloc (hb2.alloc hb2.size _).size _).grown hg6 ((hb2.alloc hb2.size _).alloc (hb2.alloc hb2.size (.cells #[.string c.n, .string c.v] 36)).size (.cells #[.string c.n, .string c.v] 36)).size (fun j hj => by
        have := (World.ownsRow.lt hol2 j hj).1
        omega)
      have hm6 := hrg6.left_eq
      have HM6 := Lib.hid hm6
      clear hm6 hg6 hrg2 hen hol2
      go_wp2_with fail
      go_roundw
      case rel => exact ⟨_, _, _, hrg6, HMET2.out, hown6, by omega, hb6⟩
      case measure => rw [HM6.out]; exact HC.out
end Go.Proofs.Ytflmojjpdmbnaaa
