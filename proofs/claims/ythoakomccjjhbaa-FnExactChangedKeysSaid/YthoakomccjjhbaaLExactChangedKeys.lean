/- FnExactChangedKeys: the program's ChangedKeys is the reference's: proved for every input, with no condition. -/
import Derived.Test.YthoakomccjjhbaaFrame
import Derived.Test.YthoakomccjjhbaaExHK
import Derived.Test.YthoakomccjjhbaaChgW
namespace Go.Proofs.Ythoakomccjjhbaa
open Go.ChangeShapes Go.WideShapes Go.ChangeAt Go.RowKit
set_option linter.unusedVariables false
set_option linter.unusedSimpArgs false
theorem madeN_ints {w w' : World} {L : List Int} {e : Ending} (h : IntsMade w L e w') : MadeN .i64 3 w L e w' := by
  obtain ⟨A, c, rfl, hc, ho, hg⟩ := h
  exact ⟨A, c, _, _, rfl, hc, Nat.le_refl _, hg.size, Nat.le_refl _, ⟨ho, fun b hb => (World.ownsRow.lt ho b hb).2⟩, hg⟩
theorem changedKeys_len (h : M.Hist) (a b : Int) : (M.ChangedKeys h a b).length ≤ 99 := by
  unfold M.ChangedKeys
  split
  · have := List.length_filter_le (fun k => M.differ (M.get (M.storeAt h a) k) (M.get (M.storeAt h b) k)) M.keys99
    rw [keys99_len] at this
    exact this
  · exact Nat.zero_le _
namespace fnExactChangedKeys
set_option maxRecDepth 100000 in
set_option maxHeartbeats 4000000 in
theorem walk (w : World) (h : M.Hist) (u : Option Addr × Nat × Option Addr × Nat) (s t : Int) (hin : HisIn w u h) :
    Calls Try.prog 8 #[.agg #[.slice u.1 h.log.length u.2.1, .slice u.2.2.1 h.times.length u.2.2.2], .int .i64 s, .int .i64 t] w fun e w' => e = .returned (.bool true) ∧ w.grownBy w' none := by
  obtain ⟨A, c, B, d⟩ := u
  obtain ⟨i1, i2, i3, i4, i5, i6, i7⟩ := hin
  show Calls Try.prog 8 #[.agg #[.slice A h.log.length c, .slice B h.times.length d], .int .i64 s, .int .i64 t] w _
  have HRD : Hid (RdH w w.heap.size A B h) := Lib.hid ⟨i4, i7⟩
  have G0 := Lib.hid (World.grownBy_alloc w (.cells #[.slice A h.log.length c, .slice B h.times.length d] 49) none)
  have B0 := Lib.hid (Row.new w 49 (ca := #[.slice A h.log.length c, .slice B h.times.length d]) rfl)
  have HZ := Lib.hid (szHistory_any (A := A) (B := B) (c := c) (d := d) (left := 1048576) i2 i3 ((i4.keep G0.out (Nat.le_refl _)).wide (Nat.le_refl _) G0.out.size) i6 (by omega) (by omega))
  clear i1 i2 i3 i4 i5 i6 i7
  go_enter Try.func8, Try.ntmps8
  go_wp2_with fail
  refine HZ.out.mono ?_
  rintro e W ⟨r, rfl, hr1, hr2, hg⟩
  have G := Lib.hid (gb_trans G0.out hg)
  have R := Lib.hid (B0.out.on hg)
  have KA := Lib.hid ((Held.now (lo := 0) (Nat.le_refl w.heap.size)).on G.out)
  have hR := R.out.lt
  have HS0 := Lib.hid hr2
  clear hg hr2 HZ B0 G0
  try clear q0 q1
  have q0 := R.out.cell 0
  have q1 := R.out.cell 1
  simp only [List.getElem?_cons_zero, List.getElem?_cons_succ] at q0 q1
  by_cases hr0 : r < 0
  · go_wp2_with fail
    go_ret
    exact ⟨rfl, G.out⟩
  · have HS := Lib.hid (HS0.out (by omega))
    have HT : Hid (∀ W, Held 0 w.heap.size w W → Calls Try.prog 24 #[.agg #[.slice A h.log.length c, .slice B h.times.length d]] W (MadeH W h)) := Lib.hid fun W hh => tohis_any ((HRD.out.agree hh.1).wide hh.2) HS.out
    obtain ⟨K, hK⟩ : ∃ K, K = M.ChangedKeys h s t := ⟨_, rfl⟩
    have HCS : Hid (∀ W A' B' c' d', SeesH W A' B' h → h.log.length ≤ c' → Calls Try.prog 36 #[.agg #[.slice A' h.log.length c', .slice B' h.times.length d'], .int .i64 s, .int .i64 t] W (MadeN .i64 3 W K)) := Lib.hid fun W A' B' c' d' x hc => by rw [hK]; exact (ChangedKeys_spec x hc).mono fun _ _ h => madeN_ints h
    have HCI : Hid (∀ W A' B' c' d', SeesH W A' B' h → h.times.length ≤ d' → Calls Try.prog 37 #[.agg #[.slice A' h.log.length c', .slice B' h.times.length d'], .int .i64 s, .int .i64 t] W (MadeN .i64 3 W K)) := Lib.hid fun W A' B' c' d' x hd => by rw [hK]; exact (ChangedKeys_impl x hd).mono fun _ _ h => madeN_ints h
    have hKl : K.length ≤ 99 := by rw [hK]; exact changedKeys_len h s t
    clear hK
    go_wp2_with fail
    refine (HT.out _ KA.out).mono ?_
    rintro e W ⟨A1, c1, B1, d1, LV1, lo1, hi1, rfl, hc1, hd1, hm1, a1, a2, a3, ho, hg⟩
    replace KA := Lib.hid (KA.out.on hg)
    replace R := Lib.hid (R.out.on hg)
    replace G := Lib.hid (gb_trans G.out hg)
    have hz := hg.size
    clear hg
    have D1 := Lib.hid ((ho.rd hm1).sees HS.out)
    clear ho hm1
    go_wp2_with fail
    refine (HCS.out _ _ _ c1 d1 D1.out hc1).mono ?_
    rintro e W ⟨A2, c2, lo2, hi2, rfl, hcc2, b1, b2, b3, ho, hg⟩
    replace KA := Lib.hid (KA.out.on hg)
    replace R := Lib.hid (R.out.on hg)
    replace G := Lib.hid (gb_trans G.out hg)
    have hz := hg.size
    clear hg
    have OW := Lib.hid ho
    have KW := Lib.hid (Held.now (lo := lo2) b3)
    clear ho D1 hc1 hd1
    try clear q0 q1
    have q0 := R.out.cell 0
    have q1 := R.out.cell 1
    simp only [List.getElem?_cons_zero, List.getElem?_cons_succ] at q0 q1
    go_wp2_with fail
    refine (HT.out _ KA.out).mono ?_
    rintro e W ⟨A3, c3, B3, d3, LV, lo3, hi3, rfl, hc3, hd3, hm3, f1, f2, f3, ho, hg⟩
    replace KA := Lib.hid (KA.out.on hg)
    replace R := Lib.hid (R.out.on hg)
    replace KW := Lib.hid (KW.out.on hg)
    replace G := Lib.hid (gb_trans G.out hg)
    have hz := hg.size
    clear hg
    have OX := Lib.hid ho
    have KX := Lib.hid (Held.now (lo := lo3) f3)
    have HM := Lib.hid hm3
    clear ho hm3
    go_wp2_with fail
    refine calls_name (fun V => W.grownBy V none ∧ Row V W.heap.size 26 [.slice A3 h.log.length c3, .slice B3 h.times.length d3]) ⟨World.grownBy_alloc W _ none, Row.new W _ rfl⟩ ?_
    obtain ⟨hx, hhx⟩ : ∃ hx, hx = W.heap.size := ⟨_, rfl⟩
    rw [← hhx]
    have Hhx := Lib.hid hhx
    rintro W ⟨hg, hy⟩
    have X := Lib.hid hy
    replace KA := Lib.hid (KA.out.on hg)
    replace R := Lib.hid (R.out.on hg)
    replace KW := Lib.hid (KW.out.on hg)
    replace KX := Lib.hid (KX.out.on hg)
    replace G := Lib.hid (gb_trans G.out hg)
    have hz := hg.size
    clear hg hy hhx
    have D3 := Lib.hid (((OX.out.agree KX.out.1).rd HM.out).sees HS.out)
    refine (HCI.out _ _ _ c3 d3 D3.out hd3).mono ?_
    rintro e W ⟨A4, c4, lo4, hi4, rfl, hcc4, e1, e2, e3, ho, hg⟩
    replace KA := Lib.hid (KA.out.on hg)
    replace R := Lib.hid (R.out.on hg)
    replace X := Lib.hid (X.out.on hg)
    replace KW := Lib.hid (KW.out.on hg)
    replace KX := Lib.hid (KX.out.on hg)
    replace G := Lib.hid (gb_trans G.out hg)
    have hz := hg.size
    clear hg
    have OG := Lib.hid ho
    have KG := Lib.hid (Held.now (lo := lo4) e3)
    clear ho D3
    have HEQ : Hid (∀ W, Held lo4 hi4 _ W → Held lo2 hi2 _ W → Calls Try.prog 38 #[.slice A4 K.length c4, .slice A2 K.length c2] W fun e w' => e = .returned (.bool true) ∧ W.grownBy w' none) := Lib.hid fun W h h' => by
      have e := eqIntS_any W A4 A2 c4 c2 K K _ _ _ _ (by omega) (OG.out.agree h.1).rd (OW.out.agree h'.1).rd
      rw [decide_eq_true (rfl : K = K)] at e
      exact e.mono fun _ _ ⟨x, y⟩ => ⟨x, gb_of_drewN y⟩
    go_wp2_with fail
    refine (HEQ.out _ KG.out KW.out).mono ?_
    rintro e W ⟨rfl, hg⟩
    replace KA := Lib.hid (KA.out.on hg)
    replace R := Lib.hid (R.out.on hg)
    replace X := Lib.hid (X.out.on hg)
    replace KW := Lib.hid (KW.out.on hg)
    replace KX := Lib.hid (KX.out.on hg)
    replace KG := Lib.hid (KG.out.on hg)
    replace G := Lib.hid (gb_trans G.out hg)
    have hz := hg.size
    clear hg
    try clear q0 q1
    have q0 := R.out.cell 0
    have q1 := R.out.cell 1
    simp only [List.getElem?_cons_zero, List.getElem?_cons_succ] at q0 q1
    try clear p0 p1
    have p0 := X.out.cell 0
    have p1 := X.out.cell 1
    simp only [List.getElem?_cons_zero, List.getElem?_cons_succ] at p0 p1
    go_wp2_with fail
    go_cut [39] (fun s wx => s = .bool false ∧ W.grownBy wx none)
    case first =>
      go_region_law (first | (go_simp; go_at_call 24; refine Calls.mono (HT.out _ (KA.out.on (gb_drew (gb_refl _ none)))) ?_; rintro e W6 ⟨A5, c5, B5, d5, LV5, lo5, hi5, rfl, hc5, hd5, hm5, f1, f2, f3, ho, hg⟩; have S6 : Hid (W.grownBy W6 none) := Lib.hid (gb_trans (gb_drew (gb_refl W none)) hg); have D6 := Lib.hid (ho.rd hm5); have E6 := Lib.hid ((OX.out.agree (KX.out.on S6.out).1).rd HM.out); have X6 := Lib.hid (X.out.on S6.out); have p2 := X6.out.cell 0; have p3 := X6.out.cell 1; simp only [List.getElem?_cons_zero, List.getElem?_cons_succ] at p2 p3; clear hc5 hd5 hm5 f1 f2 f3 ho hg) | (go_simp; go_at_call 25; refine Calls.mono (eqHistory_same E6.out D6.out HS.out) ?_; rintro e W7 ⟨rfl, hg⟩; have S7 : Hid (W.grownBy W7 none) := Lib.hid (gb_trans S6.out hg); clear hg))
      all_goals
        go_wp2_with fail
        go_meet
        exact ⟨rfl, S7.out⟩
    case rest =>
      obtain ⟨rfl, hg⟩ := hcut
      obtain ⟨W, hW⟩ : ∃ V, V = wc := ⟨_, rfl⟩
      rw [← hW] at hg ⊢
      clear hW
      replace KA := Lib.hid (KA.out.on hg)
      replace R := Lib.hid (R.out.on hg)
      replace X := Lib.hid (X.out.on hg)
      replace KW := Lib.hid (KW.out.on hg)
      replace KX := Lib.hid (KX.out.on hg)
      replace KG := Lib.hid (KG.out.on hg)
      replace G := Lib.hid (gb_trans G.out hg)
      have hz := hg.size
      clear hg
      try clear p0 p1
      have p0 := X.out.cell 0
      have p1 := X.out.cell 1
      simp only [List.getElem?_cons_zero, List.getElem?_cons_succ] at p0 p1
      -- the argument is marked
      have HN : Hid (h.log.length = LV.length) := Lib.hid (by rw [← HM.out, List.length_map])
      have HSV : Hid (SmallE (LV.map (·.1))) := Lib.hid (by rw [HM.out]; exact HS.out.1)
      have hsb := szE_small HSV.out
      have htl := HS.out.2
      have HMK := Lib.hid (markHistory_any (k := 1) HN.out rfl HSV.out HS.out.2 (OX.out.agree KX.out.1) KX.out.2 (by omega) (by omega))
      go_wp2_with fail
      refine (HMK.out).mono ?_
      rintro e W ⟨rfl, _, hw⟩
      replace KA := Lib.hid (KA.out.wrote hw (by omega))
      replace R := Lib.hid (R.out.wrote hw (by omega))
      replace KW := Lib.hid (KW.out.wrote hw (by omega))
      replace KG := Lib.hid (KG.out.wrote hw (by omega))
      replace G := Lib.hid (Wrote.gb G.out hw (by omega))
      have hz := hw.size
      clear hw
      obtain ⟨q, hq⟩ : ∃ q, q = (1 : Int) + szE LV + h.times.length := ⟨_, rfl⟩
      have hq0 : 0 ≤ q := by omega
      rw [← hq]
      clear hq KX OX
      go_wp2_with fail
      refine (HEQ.out _ KG.out KW.out).mono ?_
      rintro e W ⟨rfl, hg⟩
      replace KA := Lib.hid (KA.out.on hg)
      replace R := Lib.hid (R.out.on hg)
      replace KW := Lib.hid (KW.out.on hg)
      replace KG := Lib.hid (KG.out.on hg)
      replace G := Lib.hid (gb_trans G.out hg)
      have hz := hg.size
      clear hg
      -- the answer is marked
      have HMK2 := Lib.hid (markIntS_any _ A4 c4 lo4 K 1 (by omega) (OG.out.agree KG.out.1).1 (by omega) (by omega))
      have HOB := Lib.hid (OG.out.2)
      go_wp2_with fail
      refine HMK2.out.mono ?_
      rintro e W' ⟨rfl, ho, hgm⟩
      have hw : Wrote lo4 hi4 W W' := (Wrote.refl lo4 hi4 W).grown hgm (fun b hb => ⟨((OG.out.agree KG.out.1).1.lt b hb).1, HOB.out b hb⟩)
      clear hgm
      obtain ⟨W0, hW0⟩ : ∃ W0, W0 = W := ⟨_, rfl⟩
      rw [← hW0] at hw
      replace KA := Lib.hid (KA.out.wrote (hW0 ▸ hw) (by omega))
      replace R := Lib.hid (R.out.wrote (hW0 ▸ hw) (by omega))
      replace KW := Lib.hid (KW.out.wrote (hW0 ▸ hw) (by omega))
      replace G := Lib.hid (Wrote.gb G.out (hW0 ▸ hw) (by omega))
      have hz := hw.size
      have hz9 : W0.heap.size = W.heap.size := by rw [hW0]
      clear hw hW0
      have OM : Hid (OwnIn .i64 3 W' lo4 hi4 (.slice A4 K.length c4) (ren 1 K.length)) := Lib.hid ⟨ho, HOB.out⟩
      have KM := Lib.hid (Held.now (lo := lo4) (show hi4 ≤ W'.heap.size by omega))
      obtain ⟨q2, hq2⟩ : ∃ q, q = (1 : Int) + K.length := ⟨_, rfl⟩
      have hq20 : 0 ≤ q2 := by omega
      rw [← hq2]
      have HH : Hid (∀ W, Held lo4 hi4 _ W → Calls Try.prog 40 #[.slice A4 K.length c4, .int .i64 1] W fun e w' => e = .returned (.int .i64 q2) ∧ W = w') := Lib.hid fun W h => by
        rw [hq2]
        exact heldIntS_any W A4 c4 _ _ K.length 1 (by omega) (OM.out.agree h.1).rd (by omega) (by omega)
      have tq : (q2 != q2) = false := by simp
      clear ho KG OG hq2 HMK2 hz9
      go_wp2_with fail
      refine (HH.out _ KM.out).mono ?_
      rintro e w' ⟨rfl, rfl⟩
      -- another call leaves it as it is
      try clear q0 q1
      have q0 := R.out.cell 0
      have q1 := R.out.cell 1
      simp only [List.getElem?_cons_zero, List.getElem?_cons_succ] at q0 q1
      go_wp2_with fail
      refine (HT.out _ KA.out).mono ?_
      rintro e W ⟨A7, c7, B7, d7, LV7, lo7, hi7, rfl, hc7, hd7, hm7, g1, g2, g3, ho, hg⟩
      replace KA := Lib.hid (KA.out.on hg)
      replace KW := Lib.hid (KW.out.on hg)
      replace KM := Lib.hid (KM.out.on hg)
      replace G := Lib.hid (gb_trans G.out hg)
      have hz := hg.size
      clear hg
      have D7 := Lib.hid ((ho.rd hm7).sees HS.out)
      clear ho hm7
      go_wp2_with fail
      refine (HCI.out _ _ _ c7 d7 D7.out hd7).mono ?_
      rintro e W ⟨A8, c8, lo8, hi8, rfl, hcc8, i1, i2, i3, ho, hg⟩
      replace KA := Lib.hid (KA.out.on hg)
      replace KW := Lib.hid (KW.out.on hg)
      replace KM := Lib.hid (KM.out.on hg)
      replace G := Lib.hid (gb_trans G.out hg)
      have hz := hg.size
      clear hg
      have R8 := Lib.hid (Held.now (lo := lo8) i3)
      have HE8 : Hid (∀ W, Held lo8 hi8 _ W → Held lo2 hi2 _ W → Calls Try.prog 38 #[.slice A8 K.length c8, .slice A2 K.length c2] W fun e w' => e = .returned (.bool true) ∧ W.grownBy w' none) := Lib.hid fun W h h' => by
        have e := eqIntS_any W A8 A2 c8 c2 K K _ _ _ _ (by omega) (ho.agree h.1).rd (OW.out.agree h'.1).rd
        rw [decide_eq_true (rfl : K = K)] at e
        exact e.mono fun _ _ ⟨x, y⟩ => ⟨x, gb_of_drewN y⟩
      clear ho D7
      go_wp2_with fail
      refine (HE8.out _ R8.out KW.out).mono ?_
      rintro e W ⟨rfl, hg⟩
      replace KM := Lib.hid (KM.out.on hg)
      replace G := Lib.hid (gb_trans G.out hg)
      have hz := hg.size
      clear hg
      go_wp2_with fail
      refine (HH.out _ KM.out).mono ?_
      rintro e w' ⟨rfl, rfl⟩
      go_wp2_with fail
      go_ret
      exact ⟨rfl, G.out⟩
end fnExactChangedKeys
/-! the row's step -/
namespace fnExactChangedKeys
set_option maxRecDepth 100000 in
theorem lifted (os : Os) (started : os.Started) (H : Type) (enc : TypeId × Value → H) :
    ReturnsInHanded {} Try.checked os 8 .any (Rows.fnExactChangedKeysSpec.pre6 enc Try.prog Try.f8 Rows.fnExactChangedKeysRow.domain false) (Rows.fnExactChangedKeysSpec.post enc Try.prog Try.f8 false true false false) := by
  refine returnsInHanded_of_change (C := Try.checked) own started (by kernel_rfl) Try.func8
    (ChangeSpec.witness6 (enc := enc) (C := Try.checked) false ⟨#[], #[.agg #[.slice none 0 0, .slice none 0 0], .int .i64 0, .int .i64 0], []⟩ 8 (by kernel_rfl) (by kernel_rfl) (by kernel_rfl) (by kernel_rfl)) ?_
  intro W base args ds gs before hval0 hW hcnd _
  have hval : ∀ (j : Nat) t v, Try.f8.params[j]? = some t → args[j]? = some v → Value.okWide Try.prog W .any base t v := hval0
  have hW' := hW
  obtain ⟨p, q, hA0, hV, rfl, hfz, hnd⟩ := hW
  have hA : DataW.TrodAll enc Try.prog W 0 (fun _ => true) true Try.f8.params.toList args.toList ds p := hA0
  rw [Try.params8] at hA hval
  obtain ⟨v0, vs0, d0, ds0, p0, q0, hargs, rfl, rfl, h0, r0⟩ := trodAll_cons hA
  obtain ⟨v1, vs1, d1, ds1, p1, q1, rfl, rfl, rfl, h1, r1⟩ := trodAll_cons r0
  obtain ⟨v2, vs2, d2, ds2, p2, q2, rfl, rfl, rfl, h2, r2⟩ := trodAll_cons r1
  obtain ⟨rfl, rfl, rfl⟩ := trodAll_nil r2
  obtain rfl : args = #[v0, v1, v2] := by cases args; simp_all
  obtain ⟨rfl, rfl⟩ := trodVars_none hV
  have k0 := h0
  have lt0 : ∀ x ∈ p0, x.block < W.heap.size := by obtain ⟨m, hm⟩ := k0; exact DataW.trod_lt m _ _ _ hm
  obtain ⟨L0, u0, rfl, b0⟩ := history_row (hval 0 49 v0 rfl rfl) h0
  obtain ⟨a1, rfl, rfl, rfl, w1⟩ := open_int Try.underlying3 (hval 1 3 v1 rfl rfl) h1
  obtain ⟨a2, rfl, rfl, rfl, w2⟩ := open_int Try.underlying3 (hval 2 3 v2 rfl rfl) h2
  clear hA0 hval0
  refine (walk W L0 u0 a1 a2 b0).mono fun e W' ⟨he, bel0⟩ => ?_
  have bel := gb_below bel0
  subst he
  exact ⟨_, rfl, _, _, _, [], _, [], hW', trodAll_mk1 (shut_bool Try.underlying4 _), (trodAll_cons_mk (Below.trod laidOut (by kernel_rfl) (of_decide_eq_true (by kernel_rfl)) k0 bel lt0) (trodAll_cons_mk (shut_int Try.underlying3 w1) (trodAll_cons_mk (shut_int Try.underlying3 w2) trodAll_mk0))), rfl, bel.frame _, fun h => by cases h⟩
set_option maxRecDepth 100000 in
theorem over : Rows.fnExactChangedKeysRow.holds Try.pinned (OpenSpec.ofChange Rows.fnExactChangedKeysSpec) :=
  OpenClaim.holds_of_wide 8 Try.f8 rfl rfl rfl rfl rfl rfl rfl ⟨rfl, rfl, rfl, rfl, rfl⟩ rfl rfl rfl rfl rfl (by kernel_rfl) Try.func8 (by kernel_rfl)
    (of_decide_eq_true (by kernel_rfl)) (by unfold Func.isWrapper; first | (rw [if_pos (by decide +kernel)]; kernel_rfl) | (rw [if_neg (by decide +kernel)]; exact ⟨rfl, rfl⟩))
    (fun os started H enc _ => lifted os started H enc)
theorem proved : Rows.FnExactChangedKeysSaid := over
end fnExactChangedKeys
end Go.Proofs.Ythoakomccjjhbaa
