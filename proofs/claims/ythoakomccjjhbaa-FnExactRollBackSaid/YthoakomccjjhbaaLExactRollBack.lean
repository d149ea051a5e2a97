/- FnExactRollBack: the program's RollBack is the reference's: proved for every input, with no condition. -/
import Derived.Test.YthoakomccjjhbaaFrame
import Derived.Test.YthoakomccjjhbaaExHK
namespace Go.Proofs.Ythoakomccjjhbaa
open Go.ChangeShapes Go.WideShapes Go.ChangeAt Go.RowKit
set_option linter.unusedVariables false
set_option linter.unusedSimpArgs false
namespace fnExactRollBack
set_option maxRecDepth 100000 in
set_option maxHeartbeats 8000000 in
theorem walk (w : World) (h : M.Hist) (u : Option Addr × Nat × Option Addr × Nat) (t : Int) (hin : HisIn w u h) :
    Calls Try.prog 5 #[.agg #[.slice u.1 h.log.length u.2.1, .slice u.2.2.1 h.times.length u.2.2.2], .int .i64 t] w fun e w' => e = .returned (.bool true) ∧ w.grownBy w' none := by
  obtain ⟨A, c, B, d⟩ := u
  obtain ⟨i1, i2, i3, i4, i5, i6, i7⟩ := hin
  show Calls Try.prog 5 #[.agg #[.slice A h.log.length c, .slice B h.times.length d], .int .i64 t] w _
  have HRD : Hid (RdH w w.heap.size A B h) := Lib.hid ⟨i4, i7⟩
  have G0 := Lib.hid (World.grownBy_alloc w (.cells #[.slice A h.log.length c, .slice B h.times.length d] 49) none)
  have B0 := Lib.hid (Row.new w 49 (ca := #[.slice A h.log.length c, .slice B h.times.length d]) rfl)
  have HZ := Lib.hid (szHistory_any (A := A) (B := B) (c := c) (d := d) (left := 1048576) i2 i3 ((i4.keep G0.out (Nat.le_refl _)).wide (Nat.le_refl _) G0.out.size) i6 (by omega) (by omega))
  clear i1 i2 i3 i4 i5 i6 i7
  go_enter Try.func5, Try.ntmps5
  go_wp2_with fail
  refine HZ.out.mono ?_
  rintro e W ⟨r, rfl, hr1, hr2, hg⟩
  have G := Lib.hid (gb_trans G0.out hg)
  have R := Lib.hid (B0.out.on hg)
  have KA := Lib.hid ((Held.now (lo := 0) (Nat.le_refl w.heap.size)).on G.out)
  have hR := R.out.lt
  have HS0 := Lib.hid hr2
  clear hg hr2 HZ B0 G0
  try clear q0 q1
  have q0 := R.out.cell 0
  have q1 := R.out.cell 1
  simp only [List.getElem?_cons_zero, List.getElem?_cons_succ] at q0 q1
  by_cases hr0 : r < 0
  · go_wp2_with fail
    go_ret
    exact ⟨rfl, G.out⟩
  · have HS := Lib.hid (HS0.out (by omega))
    have HT : Hid (∀ W, Held 0 w.heap.size w W → Calls Try.prog 24 #[.agg #[.slice A h.log.length c, .slice B h.times.length d]] W (MadeH W h)) := Lib.hid fun W hh => tohis_any ((HRD.out.agree hh.1).wide hh.2) HS.out
    obtain ⟨l2, hl2⟩ : ∃ l2, l2 = ((M.RollBack h t).getD ⟨[], []⟩).log := ⟨_, rfl⟩
    obtain ⟨ts2, ht2⟩ : ∃ ts2, ts2 = ((M.RollBack h t).getD ⟨[], []⟩).times := ⟨_, rfl⟩
    obtain ⟨bb, hbb⟩ : ∃ bb, bb = (M.RollBack h t).isSome := ⟨_, rfl⟩
    have HCS : Hid (∀ W A' B' c' d', SeesH W A' B' h → h.times.length ≤ d' → Calls Try.prog 22 #[.agg #[.slice A' h.log.length c', .slice B' h.times.length d'], .int .i64 t] W (MadeO W l2 ts2 bb)) := Lib.hid fun W A' B' c' d' x hc => by rw [hl2, ht2, hbb]; exact (RollBack_spec x hc).mono fun _ _ h => madeO_of h
    have HCI : Hid (∀ W A' B' c' d', SeesH W A' B' h → h.times.length ≤ d' → Calls Try.prog 21 #[.agg #[.slice A' h.log.length c', .slice B' h.times.length d'], .int .i64 t] W (MadeO W l2 ts2 bb)) := Lib.hid fun W A' B' c' d' x hd => by rw [hl2, ht2, hbb]; exact (RollBack_impl x hd).mono fun _ _ h => madeO_of h
    have HSK : Hid (SmallH ⟨l2, ts2⟩) := Lib.hid (by rw [hl2, ht2]; exact small_opt rb_valid)
    have tb : (bb != bb) = false := by simp
    have hKl : l2.length ≤ 1048576 := HSK.out.1.1
    have hKt : ts2.length ≤ 1048576 := HSK.out.2
    clear hl2 ht2 hbb
    go_wp2_with fail
    refine (HT.out _ KA.out).mono ?_
    rintro e W ⟨A1, c1, B1, d1, LV1, lo1, hi1, rfl, hc1, hd1, hm1, a1, a2, a3, ho, hg⟩
    replace KA := Lib.hid (KA.out.on hg)
    replace R := Lib.hid (R.out.on hg)
    replace G := Lib.hid (gb_trans G.out hg)
    have hz := hg.size
    clear hg
    have D1 := Lib.hid ((ho.rd hm1).sees HS.out)
    clear ho hm1
    go_wp2_with fail
    refine (HCS.out _ _ _ c1 d1 D1.out hd1).mono ?_
    rintro e W ⟨A2, c2, B2, d2, LW, lo2, hi2, rfl, hm2, b1, b2, b3, ho, hg⟩
    replace KA := Lib.hid (KA.out.on hg)
    replace R := Lib.hid (R.out.on hg)
    replace G := Lib.hid (gb_trans G.out hg)
    have hz := hg.size
    clear hg
    have OW := Lib.hid ho
    have HMW : Hid (LW.map (·.1) = l2) := Lib.hid hm2
    have KW := Lib.hid (Held.now (lo := lo2) b3)
    clear ho hm2 D1 hc1 hd1
    try clear q0 q1
    try clear q0 q1
    have q0 := (R.out.alloc (.cells #[.slice A2 l2.length c2, .slice B2 ts2.length d2] 26)).cell 0
    have q1 := (R.out.alloc (.cells #[.slice A2 l2.length c2, .slice B2 ts2.length d2] 26)).cell 1
    simp only [List.getElem?_cons_zero, List.getElem?_cons_succ] at q0 q1
    go_wp2_with fail
    refine calls_name (fun V => W.grownBy V none ∧ Row V W.heap.size 26 [.slice A2 l2.length c2, .slice B2 ts2.length d2]) ⟨World.grownBy_alloc W _ none, Row.new W _ rfl⟩ ?_
    obtain ⟨hyw, hhyw⟩ : ∃ hyw, hyw = W.heap.size := ⟨_, rfl⟩
    rw [← hhyw]
    have Hhyw := Lib.hid hhyw
    rintro W ⟨hg, hy⟩
    have YW := Lib.hid hy
    replace KA := Lib.hid (KA.out.on hg)
    replace R := Lib.hid (R.out.on hg)
    replace KW := Lib.hid (KW.out.on hg)
    replace G := Lib.hid (gb_trans G.out hg)
    have hz := hg.size
    clear hg hy hhyw
    have hlyw := YW.out.lt
    refine (HT.out _ KA.out).mono ?_
    rintro e W ⟨A3, c3, B3, d3, LV, lo3, hi3, rfl, hc3, hd3, hm3, f1, f2, f3, ho, hg⟩
    replace KA := Lib.hid (KA.out.on hg)
    replace R := Lib.hid (R.out.on hg)
    replace KW := Lib.hid (KW.out.on hg)
    replace YW := Lib.hid (YW.out.on hg)
    replace G := Lib.hid (gb_trans G.out hg)
    have hz := hg.size
    clear hg
    have OX := Lib.hid ho
    have KX := Lib.hid (Held.now (lo := lo3) f3)
    have HM := Lib.hid hm3
    clear ho hm3
    go_wp2_with fail
    refine calls_name (fun V => W.grownBy V none ∧ Row V W.heap.size 26 [.slice A3 h.log.length c3, .slice B3 h.times.length d3]) ⟨World.grownBy_alloc W _ none, Row.new W _ rfl⟩ ?_
    obtain ⟨hx, hhx⟩ : ∃ hx, hx = W.heap.size := ⟨_, rfl⟩
    rw [← hhx]
    have Hhx := Lib.hid hhx
    rintro W ⟨hg, hy⟩
    have X := Lib.hid hy
    replace KA := Lib.hid (KA.out.on hg)
    replace R := Lib.hid (R.out.on hg)
    replace KW := Lib.hid (KW.out.on hg)
    replace KX := Lib.hid (KX.out.on hg)
    replace YW := Lib.hid (YW.out.on hg)
    replace G := Lib.hid (gb_trans G.out hg)
    have hz := hg.size
    clear hg hy hhx
    have hlx := X.out.lt
    have hgx : hi3 ≤ hx := by have := Hhx.out; omega
    have D3 := Lib.hid (((OX.out.agree KX.out.1).rd HM.out).sees HS.out)
    refine (HCI.out _ _ _ c3 d3 D3.out hd3).mono ?_
    rintro e W ⟨A4, c4, B4, d4, LG, lo4, hi4, rfl, hm4, e1, e2, e3, ho, hg⟩
    replace KA := Lib.hid (KA.out.on hg)
    replace R := Lib.hid (R.out.on hg)
    replace X := Lib.hid (X.out.on hg)
    replace KW := Lib.hid (KW.out.on hg)
    replace KX := Lib.hid (KX.out.on hg)
    replace YW := Lib.hid (YW.out.on hg)
    replace G := Lib.hid (gb_trans G.out hg)
    have hz := hg.size
    clear hg
    have OG := Lib.hid ho
    have HMG : Hid (LG.map (·.1) = l2) := Lib.hid hm4
    have KG := Lib.hid (Held.now (lo := lo4) e3)
    clear ho hm4 D3
    try clear y0 y1
    try clear y0 y1
    have y0 := (YW.out.alloc (.cells #[.slice A4 l2.length c4, .slice B4 ts2.length d4] 26)).cell 0
    have y1 := (YW.out.alloc (.cells #[.slice A4 l2.length c4, .slice B4 ts2.length d4] 26)).cell 1
    simp only [List.getElem?_cons_zero, List.getElem?_cons_succ] at y0 y1
    go_wp2_with fail
    refine calls_name (fun V => W.grownBy V none ∧ Row V W.heap.size 26 [.slice A4 l2.length c4, .slice B4 ts2.length d4]) ⟨World.grownBy_alloc W _ none, Row.new W _ rfl⟩ ?_
    obtain ⟨hyg, hhyg⟩ : ∃ hyg, hyg = W.heap.size := ⟨_, rfl⟩
    rw [← hhyg]
    have Hhyg := Lib.hid hhyg
    rintro W ⟨hg, hy⟩
    have YG := Lib.hid hy
    replace KA := Lib.hid (KA.out.on hg)
    replace R := Lib.hid (R.out.on hg)
    replace X := Lib.hid (X.out.on hg)
    replace KW := Lib.hid (KW.out.on hg)
    replace KX := Lib.hid (KX.out.on hg)
    replace YW := Lib.hid (YW.out.on hg)
    replace KG := Lib.hid (KG.out.on hg)
    replace G := Lib.hid (gb_trans G.out hg)
    have hz := hg.size
    clear hg hy hhyg
    have hgg : hi4 ≤ hyg := by have := Hhyg.out; omega
    have HEQ : Hid (∀ W, Held lo4 hi4 _ W → Held lo2 hi2 _ W → Calls Try.prog 25 #[.agg #[.slice A4 l2.length c4, .slice B4 ts2.length d4], .agg #[.slice A2 l2.length c2, .slice B2 ts2.length d2]] W fun e w' => e = .returned (.bool true) ∧ W.grownBy w' none) := Lib.hid fun W h h' =>
      eqHistory_same (h := ⟨l2, ts2⟩) ((OG.out.agree h.1).rd HMG.out) ((OW.out.agree h'.1).rd HMW.out) HSK.out
    refine (HEQ.out _ KG.out KW.out).mono ?_
    rintro e W ⟨rfl, hg⟩
    replace KA := Lib.hid (KA.out.on hg)
    replace R := Lib.hid (R.out.on hg)
    replace X := Lib.hid (X.out.on hg)
    replace KW := Lib.hid (KW.out.on hg)
    replace KX := Lib.hid (KX.out.on hg)
    replace KG := Lib.hid (KG.out.on hg)
    replace YW := Lib.hid (YW.out.on hg)
    replace YG := Lib.hid (YG.out.on hg)
    replace G := Lib.hid (gb_trans G.out hg)
    have hz := hg.size
    clear hg
    try clear q0 q1
    have q0 := R.out.cell 0
    have q1 := R.out.cell 1
    simp only [List.getElem?_cons_zero, List.getElem?_cons_succ] at q0 q1
    try clear p0 p1
    have p0 := X.out.cell 0
    have p1 := X.out.cell 1
    simp only [List.getElem?_cons_zero, List.getElem?_cons_succ] at p0 p1
    go_wp2_with fail
    go_cut [49] (fun s wx => s = .bool false ∧ W.grownBy wx none)
    case first =>
      go_region_law (first | (go_simp; go_at_call 24; refine Calls.mono (HT.out _ (KA.out.on (gb_drew (gb_refl _ none)))) ?_; rintro e W6 ⟨A5, c5, B5, d5, LV5, lo5, hi5, rfl, hc5, hd5, hm5, f1, f2, f3, ho, hg⟩; have S6 : Hid (W.grownBy W6 none) := Lib.hid (gb_trans (gb_drew (gb_refl W none)) hg); have D6 := Lib.hid (ho.rd hm5); have E6 := Lib.hid ((OX.out.agree (KX.out.on S6.out).1).rd HM.out); have X6 := Lib.hid (X.out.on S6.out); have p2 := X6.out.cell 0; have p3 := X6.out.cell 1; simp only [List.getElem?_cons_zero, List.getElem?_cons_succ] at p2 p3; clear hc5 hd5 hm5 f1 f2 f3 ho hg) | (go_simp; go_at_call 25; refine Calls.mono (eqHistory_same E6.out D6.out HS.out) ?_; rintro e W7 ⟨rfl, hg⟩; have S7 : Hid (W.grownBy W7 none) := Lib.hid (gb_trans S6.out hg); clear hg))
      all_goals
        go_wp2_with fail
        go_meet
        exact ⟨rfl, S7.out⟩
    case rest =>
      obtain ⟨rfl, hg⟩ := hcut
      obtain ⟨W, hW⟩ : ∃ V, V = wc := ⟨_, rfl⟩
      rw [← hW] at hg ⊢
      clear hW
      replace KA := Lib.hid (KA.out.on hg)
      replace R := Lib.hid (R.out.on hg)
      replace X := Lib.hid (X.out.on hg)
      replace KW := Lib.hid (KW.out.on hg)
      replace KX := Lib.hid (KX.out.on hg)
      replace KG := Lib.hid (KG.out.on hg)
      replace YW := Lib.hid (YW.out.on hg)
      replace YG := Lib.hid (YG.out.on hg)
      replace G := Lib.hid (gb_trans G.out hg)
      have hz := hg.size
      clear hg
      try clear p0 p1
      have p0 := X.out.cell 0
      have p1 := X.out.cell 1
      simp only [List.getElem?_cons_zero, List.getElem?_cons_succ] at p0 p1
      -- the argument is marked
      have HN : Hid (h.log.length = LV.length) := Lib.hid (by rw [← HM.out, List.length_map])
      have HSV : Hid (SmallE (LV.map (·.1))) := Lib.hid (by rw [HM.out]; exact HS.out.1)
      have hsb := szE_small HSV.out
      have htl := HS.out.2
      have HMK := Lib.hid (markHistory_any (k := 1) HN.out rfl HSV.out HS.out.2 (OX.out.agree KX.out.1) KX.out.2 (by omega) (by omega))
      go_wp2_with fail
      refine (HMK.out).mono ?_
      rintro e W ⟨rfl, _, hw⟩
      replace KA := Lib.hid (KA.out.wrote hw (by omega))
      replace R := Lib.hid (R.out.wrote hw (by omega))
      replace KW := Lib.hid (KW.out.wrote hw (by omega))
      replace KG := Lib.hid (KG.out.wrote hw (by omega))
      replace YW := Lib.hid (YW.out.wrote hw (by omega))
      replace YG := Lib.hid (YG.out.wrote hw (by omega))
      replace G := Lib.hid (Wrote.gb G.out hw (by omega))
      have hz := hw.size
      clear hw
      obtain ⟨q, hq⟩ : ∃ q, q = (1 : Int) + szE LV + h.times.length := ⟨_, rfl⟩
      have hq0 : 0 ≤ q := by omega
      rw [← hq]
      clear hq KX OX
      try clear y0 y1
      have y0 := YW.out.cell 0
      have y1 := YW.out.cell 1
      simp only [List.getElem?_cons_zero, List.getElem?_cons_succ] at y0 y1
      try clear z0 z1
      have z0 := YG.out.cell 0
      have z1 := YG.out.cell 1
      simp only [List.getElem?_cons_zero, List.getElem?_cons_succ] at z0 z1
      go_wp2_with fail
      refine (HEQ.out _ KG.out KW.out).mono ?_
      rintro e W ⟨rfl, hg⟩
      replace KA := Lib.hid (KA.out.on hg)
      replace R := Lib.hid (R.out.on hg)
      replace KW := Lib.hid (KW.out.on hg)
      replace KG := Lib.hid (KG.out.on hg)
      replace YW := Lib.hid (YW.out.on hg)
      replace YG := Lib.hid (YG.out.on hg)
      replace G := Lib.hid (gb_trans G.out hg)
      have hz := hg.size
      clear hg
      try clear z0 z1
      have z0 := YG.out.cell 0
      have z1 := YG.out.cell 1
      simp only [List.getElem?_cons_zero, List.getElem?_cons_succ] at z0 z1
      -- the answer is marked
      have HNG : Hid (l2.length = LG.length) := Lib.hid (by rw [← HMG.out, List.length_map])
      have HSG : Hid (SmallE (LG.map (·.1))) := Lib.hid (by rw [HMG.out]; exact HSK.out.1)
      have hsg := szE_small HSG.out
      have HMK2 := Lib.hid (markHistory_any (k := 1) HNG.out rfl HSG.out HSK.out.2 (OG.out.agree KG.out.1) KG.out.2 (by omega) (by omega))
      go_wp2_with fail
      refine (HMK2.out).mono ?_
      rintro e W ⟨rfl, ho, hw⟩
      replace KA := Lib.hid (KA.out.wrote hw (by omega))
      replace R := Lib.hid (R.out.wrote hw (by omega))
      replace KW := Lib.hid (KW.out.wrote hw (by omega))
      replace YW := Lib.hid (YW.out.wrote hw (by omega))
      replace YG := Lib.hid (YG.out.wrote hw (by omega))
      replace G := Lib.hid (Wrote.gb G.out hw (by omega))
      have hz := hw.size
      clear hw
      have OM := Lib.hid ho
      have KM := Lib.hid (Held.now (lo := lo4) (show hi4 ≤ W.heap.size by omega))
      obtain ⟨q2, hq2⟩ : ∃ q, q = (1 : Int) + szE LG + ts2.length := ⟨_, rfl⟩
      have hq20 : 0 ≤ q2 := by omega
      rw [← hq2]
      have HH : Hid (∀ W, Held lo4 hi4 _ W → Calls Try.prog 27 #[.agg #[.slice A4 l2.length c4, .slice B4 ts2.length d4], .int .i64 1] W fun e w' => e = .returned (.int .i64 q2) ∧ W.grownBy w' none) := Lib.hid fun W h => by
        rw [hq2]
        exact heldHistory_any (k := 1) HNG.out hKt HSG.out (OM.out.agree h.1) (by omega) (by omega) h.2
      have tq : (q2 != q2) = false := by simp
      clear ho KG OG hq2 HMK2
      try clear z0 z1
      have z0 := YG.out.cell 0
      have z1 := YG.out.cell 1
      simp only [List.getElem?_cons_zero, List.getElem?_cons_succ] at z0 z1
      go_wp2_with fail
      refine (HH.out _ KM.out).mono ?_
      rintro e W ⟨rfl, hg⟩
      replace KA := Lib.hid (KA.out.on hg)
      replace R := Lib.hid (R.out.on hg)
      replace KW := Lib.hid (KW.out.on hg)
      replace KM := Lib.hid (KM.out.on hg)
      replace YW := Lib.hid (YW.out.on hg)
      replace YG := Lib.hid (YG.out.on hg)
      replace G := Lib.hid (gb_trans G.out hg)
      have hz := hg.size
      clear hg
      -- another call leaves it as it is
      try clear q0 q1
      have q0 := R.out.cell 0
      have q1 := R.out.cell 1
      simp only [List.getElem?_cons_zero, List.getElem?_cons_succ] at q0 q1
      go_wp2_with fail
      refine (HT.out _ KA.out).mono ?_
      rintro e W ⟨A7, c7, B7, d7, LV7, lo7, hi7, rfl, hc7, hd7, hm7, g1, g2, g3, ho, hg⟩
      replace KA := Lib.hid (KA.out.on hg)
      replace KW := Lib.hid (KW.out.on hg)
      replace KM := Lib.hid (KM.out.on hg)
      replace YW := Lib.hid (YW.out.on hg)
      replace YG := Lib.hid (YG.out.on hg)
      replace G := Lib.hid (gb_trans G.out hg)
      have hz := hg.size
      clear hg
      have D7 := Lib.hid ((ho.rd hm7).sees HS.out)
      clear ho hm7
      go_wp2_with fail
      refine (HCI.out _ _ _ c7 d7 D7.out hd7).mono ?_
      rintro e W ⟨A8, c8, B8, d8, LH, lo8, hi8, rfl, hm8, i1, i2, i3, ho, hg⟩
      replace KA := Lib.hid (KA.out.on hg)
      replace KW := Lib.hid (KW.out.on hg)
      replace KM := Lib.hid (KM.out.on hg)
      replace YW := Lib.hid (YW.out.on hg)
      replace YG := Lib.hid (YG.out.on hg)
      replace G := Lib.hid (gb_trans G.out hg)
      have hz := hg.size
      clear hg
      have R8 := Lib.hid (Held.now (lo := lo8) i3)
      have OH := Lib.hid ho
      have HM8 := Lib.hid hm8
      clear ho D7 hm8
      try clear y0 y1
      try clear y0 y1
      have y0 := (YW.out.alloc (.cells #[.slice A8 l2.length c8, .slice B8 ts2.length d8] 26)).cell 0
      have y1 := (YW.out.alloc (.cells #[.slice A8 l2.length c8, .slice B8 ts2.length d8] 26)).cell 1
      simp only [List.getElem?_cons_zero, List.getElem?_cons_succ] at y0 y1
      go_wp2_with fail
      refine calls_name (fun V => W.grownBy V none ∧ Row V W.heap.size 26 [.slice A8 l2.length c8, .slice B8 ts2.length d8]) ⟨World.grownBy_alloc W _ none, Row.new W _ rfl⟩ ?_
      obtain ⟨hyh, hhyh⟩ : ∃ hyh, hyh = W.heap.size := ⟨_, rfl⟩
      rw [← hhyh]
      have Hhyh := Lib.hid hhyh
      rintro W ⟨hg, hy⟩
      have YH := Lib.hid hy
      replace KA := Lib.hid (KA.out.on hg)
      replace KW := Lib.hid (KW.out.on hg)
      replace KM := Lib.hid (KM.out.on hg)
      replace R8 := Lib.hid (R8.out.on hg)
      replace YW := Lib.hid (YW.out.on hg)
      replace YG := Lib.hid (YG.out.on hg)
      replace G := Lib.hid (gb_trans G.out hg)
      have hz := hg.size
      clear hg hy hhyh
      have E8 := Lib.hid ((OH.out.agree R8.out.1).rd HM8.out)
      refine (eqHistory_same (h := ⟨l2, ts2⟩) E8.out ((OW.out.agree KW.out.1).rd HMW.out) HSK.out).mono ?_
      rintro e W ⟨rfl, hg⟩
      replace KM := Lib.hid (KM.out.on hg)
      replace YG := Lib.hid (YG.out.on hg)
      replace G := Lib.hid (gb_trans G.out hg)
      have hz := hg.size
      clear hg
      try clear z0 z1
      have z0 := YG.out.cell 0
      have z1 := YG.out.cell 1
      simp only [List.getElem?_cons_zero, List.getElem?_cons_succ] at z0 z1
      go_wp2_with fail
      refine (HH.out _ KM.out).mono ?_
      rintro e W ⟨rfl, hg⟩
      replace KM := Lib.hid (KM.out.on hg)
      replace G := Lib.hid (gb_trans G.out hg)
      have hz := hg.size
      clear hg
      go_wp2_with fail
      go_ret
      exact ⟨rfl, G.out⟩
end fnExactRollBack
/-! the row's step -/
namespace fnExactRollBack
set_option maxRecDepth 100000 in
theorem lifted (os : Os) (started : os.Started) (H : Type) (enc : TypeId × Value → H) :
    ReturnsInHanded {} Try.checked os 5 .any (Rows.fnExactRollBackSpec.pre6 enc Try.prog Try.f5 Rows.fnExactRollBackRow.domain false) (Rows.fnExactRollBackSpec.post enc Try.prog Try.f5 false true false false) := by
  refine returnsInHanded_of_change (C := Try.checked) own started (by kernel_rfl) Try.func5
    (ChangeSpec.witness6 (enc := enc) (C := Try.checked) false ⟨#[], #[.agg #[.slice none 0 0, .slice none 0 0], .int .i64 0], []⟩ 8 (by kernel_rfl) (by kernel_rfl) (by kernel_rfl) (by kernel_rfl)) ?_
  intro W base args ds gs before hval0 hW hcnd _
  have hval : ∀ (j : Nat) t v, Try.f5.params[j]? = some t → args[j]? = some v → Value.okWide Try.prog W .any base t v := hval0
  have hW' := hW
  obtain ⟨p, q, hA0, hV, rfl, hfz, hnd⟩ := hW
  have hA : DataW.TrodAll enc Try.prog W 0 (fun _ => true) true Try.f5.params.toList args.toList ds p := hA0
  rw [Try.params5] at hA hval
  obtain ⟨v0, vs0, d0, ds0, p0, q0, hargs, rfl, rfl, h0, r0⟩ := trodAll_cons hA
  obtain ⟨v1, vs1, d1, ds1, p1, q1, rfl, rfl, rfl, h1, r1⟩ := trodAll_cons r0
  obtain ⟨rfl, rfl, rfl⟩ := trodAll_nil r1
  obtain rfl : args = #[v0, v1] := by cases args; simp_all
  obtain ⟨rfl, rfl⟩ := trodVars_none hV
  have k0 := h0
  have lt0 : ∀ x ∈ p0, x.block < W.heap.size := by obtain ⟨m, hm⟩ := k0; exact DataW.trod_lt m _ _ _ hm
  obtain ⟨L0, u0, rfl, b0⟩ := history_row (hval 0 49 v0 rfl rfl) h0
  obtain ⟨a1, rfl, rfl, rfl, w1⟩ := open_int Try.underlying3 (hval 1 3 v1 rfl rfl) h1
  clear hA0 hval0
  refine (walk W L0 u0 a1 b0).mono fun e W' ⟨he, bel0⟩ => ?_
  have bel := gb_below bel0
  subst he
  exact ⟨_, rfl, _, _, _, [], _, [], hW', trodAll_mk1 (shut_bool Try.underlying4 _), (trodAll_cons_mk (Below.trod laidOut (by kernel_rfl) (of_decide_eq_true (by kernel_rfl)) k0 bel lt0) (trodAll_cons_mk (shut_int Try.underlying3 w1) trodAll_mk0)), rfl, bel.frame _, fun h => by cases h⟩
set_option maxRecDepth 100000 in
theorem over : Rows.fnExactRollBackRow.holds Try.pinned (OpenSpec.ofChange Rows.fnExactRollBackSpec) :=
  OpenClaim.holds_of_wide 5 Try.f5 rfl rfl rfl rfl rfl rfl rfl ⟨rfl, rfl, rfl, rfl, rfl⟩ rfl rfl rfl rfl rfl (by kernel_rfl) Try.func5 (by kernel_rfl)
    (of_decide_eq_true (by kernel_rfl)) (by unfold Func.isWrapper; first | (rw [if_pos (by decide +kernel)]; kernel_rfl) | (rw [if_neg (by decide +kernel)]; exact ⟨rfl, rfl⟩))
    (fun os started H enc _ => lifted os started H enc)
theorem proved : Rows.FnExactRollBackSaid := over
end fnExactRollBack
end Go.Proofs.Ythoakomccjjhbaa
