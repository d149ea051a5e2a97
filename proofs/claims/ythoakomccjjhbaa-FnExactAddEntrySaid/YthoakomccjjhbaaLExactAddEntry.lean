/- FnExactAddEntry: the program's AddEntry is the reference's: proved for every input, with no condition. -/
import Derived.Test.YthoakomccjjhbaaFrame
import Derived.Deep.RegionHeld3
import Derived.Test.YthoakomccjjhbaaExAdd
namespace Go.Proofs.Ythoakomccjjhbaa
open Go.ChangeShapes Go.WideShapes Go.ChangeAt Go.RowKit
set_option linter.unusedVariables false
set_option linter.unusedSimpArgs false
namespace fnExactAddEntry
set_option maxRecDepth 100000 in
set_option maxHeartbeats 8000000 in
theorem walk (w : World) (h : M.Hist) (u : Option Addr × Nat × Option Addr × Nat) (y : M.Entry) (ue : Value) (t : Int) (hin : HisIn w u h) (ein : y.item.pos.length ≤ maxLen ∧ RdInts .i64 w 0 w.heap.size ue y.item.pos) :
    Calls Try.prog 7 #[.agg #[.slice u.1 h.log.length u.2.1, .slice u.2.2.1 h.times.length u.2.2.2], .agg #[.int .i64 y.kind, .int .i64 y.item.key, ue, .int .i64 y.item.tags], .int .i64 t] w fun e w' => e = .returned (.bool true) ∧ w.grownBy w' none := by
  obtain ⟨A, c, B, d⟩ := u
  obtain ⟨i1, i2, i3, i4, i5, i6, i7⟩ := hin
  obtain ⟨j1, Ay, cy, rfl, hcy, j2⟩ := ein
  show Calls Try.prog 7 #[.agg #[.slice A h.log.length c, .slice B h.times.length d], .agg #[.int .i64 y.kind, .int .i64 y.item.key, .slice Ay y.item.pos.length cy, .int .i64 y.item.tags], .int .i64 t] w _
  have HRD : Hid (RdH w w.heap.size A B h) := Lib.hid ⟨i4, i7⟩
  have HRE : Hid (RdInts .i64 w 0 w.heap.size (.slice Ay y.item.pos.length cy) y.item.pos) := Lib.hid ⟨_, _, rfl, hcy, j2⟩
  have G0 := Lib.hid (gb_alloc (World.grownBy_alloc w (.cells #[.slice A h.log.length c, .slice B h.times.length d] 49) none) (.cells #[.int .i64 y.kind, .int .i64 y.item.key, .slice Ay y.item.pos.length cy, .int .i64 y.item.tags] 57))
  have B0 := Lib.hid ((Row.new w 49 (ca := #[.slice A h.log.length c, .slice B h.times.length d]) rfl).alloc (.cells #[.int .i64 y.kind, .int .i64 y.item.key, .slice Ay y.item.pos.length cy, .int .i64 y.item.tags] 57))
  have BE0 : Hid (Row ((w.alloc (.cells #[.slice A h.log.length c, .slice B h.times.length d] 49)).alloc (.cells #[.int .i64 y.kind, .int .i64 y.item.key, .slice Ay y.item.pos.length cy, .int .i64 y.item.tags] 57)) (w.heap.size + 1) 57 [.int .i64 y.kind, .int .i64 y.item.key, .slice Ay y.item.pos.length cy, .int .i64 y.item.tags]) := Lib.hid (by
    have := Row.new (w.alloc (.cells #[.slice A h.log.length c, .slice B h.times.length d] 49)) 57 (ca := #[.int .i64 y.kind, .int .i64 y.item.key, .slice Ay y.item.pos.length cy, .int .i64 y.item.tags]) rfl
    simpa using this)
  have HZ := Lib.hid (szHistory_any (A := A) (B := B) (c := c) (d := d) (left := 1048576) i2 i3 ((i4.keep G0.out (Nat.le_refl _)).wide (Nat.le_refl _) G0.out.size) i6 (by omega) (by omega))
  clear i1 i2 i3 i4 i5 i6 i7 j2 hcy
  go_enter Try.func7, Try.ntmps7
  go_wp2_with fail
  refine HZ.out.mono ?_
  rintro e W ⟨r, rfl, hr1, hr2, hg⟩
  have G := Lib.hid (gb_trans G0.out hg)
  have R := Lib.hid (B0.out.on hg)
  have RE := Lib.hid (BE0.out.on hg)
  have KA := Lib.hid ((Held.now (lo := 0) (Nat.le_refl w.heap.size)).on G.out)
  have hR := RE.out.lt
  have HS0 := Lib.hid hr2
  clear hg hr2 HZ B0 BE0 G0
  try clear q0 q1
  have q0 := R.out.cell 0
  have q1 := R.out.cell 1
  simp only [List.getElem?_cons_zero, List.getElem?_cons_succ] at q0 q1
  try clear k0 k1 k2 k3
  have k0 := RE.out.cell 0
  have k1 := RE.out.cell 1
  have k2 := RE.out.cell 2
  have k3 := RE.out.cell 3
  simp only [List.getElem?_cons_zero, List.getElem?_cons_succ] at k0 k1 k2 k3
  by_cases hr0 : r < 0
  · go_wp2_with fail
    go_ret
    exact ⟨rfl, G.out⟩
  · have HS := Lib.hid (HS0.out (by omega))
    have HT : Hid (∀ W, Held 0 w.heap.size w W → Calls Try.prog 24 #[.agg #[.slice A h.log.length c, .slice B h.times.length d]] W (MadeH W h)) := Lib.hid fun W hh => tohis_any ((HRD.out.agree hh.1).wide hh.2) HS.out
    obtain ⟨r', hr'⟩ : ∃ r' : Int, (r < y.item.pos.length ∧ r' = -1) ∨ (y.item.pos.length ≤ r ∧ r' = r - y.item.pos.length) := by
      by_cases h9 : r < y.item.pos.length
      · exact ⟨-1, .inl ⟨h9, rfl⟩⟩
      · exact ⟨r - y.item.pos.length, .inr ⟨by omega, rfl⟩⟩
    have HZE := Lib.hid (szEntry_any W Ay y.kind y.item.key y.item.tags y.item.pos.length cy r r' j1 (by omega) (by omega) hr')
    have HR9 := Lib.hid hr'
    clear hr'
    go_wp2_with fail
    refine (HZE.out).mono ?_
    rintro e W ⟨rfl, hg⟩
    replace KA := Lib.hid (KA.out.on hg)
    replace R := Lib.hid (R.out.on hg)
    replace RE := Lib.hid (RE.out.on hg)
    replace G := Lib.hid (gb_trans G.out hg)
    have hz := hg.size
    clear hg
    by_cases hr0' : r' < 0
    · go_wp2_with fail
      go_ret
      exact ⟨rfl, G.out⟩
    · have hyl : y.item.pos.length ≤ 1048576 := by have := HR9.out; omega
      have HTE : Hid (∀ W, Held 0 w.heap.size w W → Calls Try.prog 33 #[.agg #[.int .i64 y.kind, .int .i64 y.item.key, .slice Ay y.item.pos.length cy, .int .i64 y.item.tags]] W (CopiedE W y)) := Lib.hid fun W hh => toEntry_any W (.slice Ay y.item.pos.length cy) 0 W.heap.size y hyl ((HRE.out.agree hh.1).wide (Nat.le_refl _) hh.2) (Nat.le_refl _)
      obtain ⟨l2, hl2⟩ : ∃ l2, l2 = ((M.AddEntry h y t).getD ⟨[], []⟩).log := ⟨_, rfl⟩
      obtain ⟨ts2, ht2⟩ : ∃ ts2, ts2 = ((M.AddEntry h y t).getD ⟨[], []⟩).times := ⟨_, rfl⟩
      obtain ⟨bb, hbb⟩ : ∃ bb, bb = (M.AddEntry h y t).isSome := ⟨_, rfl⟩
      have HCS : Hid (∀ W A' B' c' d' v, SeesH W A' B' h → h.times.length ≤ d' → RdInts .i64 W 0 W.heap.size v y.item.pos → Calls Try.prog 13 #[.agg #[.slice A' h.log.length c', .slice B' h.times.length d'], .agg #[.int .i64 y.kind, .int .i64 y.item.key, v, .int .i64 y.item.tags], .int .i64 t] W (MadeO W l2 ts2 bb)) := Lib.hid fun W A' B' c' d' v x hd hu => by rw [hl2, ht2, hbb]; exact (AddEntry_spec x hd hu hyl).mono fun _ _ h => madeO_of h
      have HCI : Hid (∀ W A' B' c' d' v, SeesH W A' B' h → h.times.length ≤ d' → RdInts .i64 W 0 W.heap.size v y.item.pos → Calls Try.prog 12 #[.agg #[.slice A' h.log.length c', .slice B' h.times.length d'], .agg #[.int .i64 y.kind, .int .i64 y.item.key, v, .int .i64 y.item.tags], .int .i64 t] W (MadeO W l2 ts2 bb)) := Lib.hid fun W A' B' c' d' v x hd hu => by rw [hl2, ht2, hbb]; exact (AddEntry_impl x hd hu hyl).mono fun _ _ h => madeO_of h
      have HSK : Hid (SmallH ⟨l2, ts2⟩) := Lib.hid (by rw [hl2, ht2]; exact small_opt (fun _ e => add_valid e))
      have tb : (bb != bb) = false := by simp
      have hKl : l2.length ≤ 1048576 := HSK.out.1.1
      have hKt : ts2.length ≤ 1048576 := HSK.out.2
      clear hl2 ht2 hbb
      try clear q0 q1
      have q0 := R.out.cell 0
      have q1 := R.out.cell 1
      simp only [List.getElem?_cons_zero, List.getElem?_cons_succ] at q0 q1
      try clear k0 k1 k2 k3
      have k0 := RE.out.cell 0
      have k1 := RE.out.cell 1
      have k2 := RE.out.cell 2
      have k3 := RE.out.cell 3
      simp only [List.getElem?_cons_zero, List.getElem?_cons_succ] at k0 k1 k2 k3
      have HCE : Hid (∀ V, W.grownBy V none → V.cell? ⟨w.heap.size, 0, none⟩ = some (.slice A h.log.length c) ∧ V.cell? ⟨w.heap.size, 1, none⟩ = some (.slice B h.times.length d) ∧ V.cell? ⟨w.heap.size + 1, 0, none⟩ = some (.int .i64 y.kind) ∧ V.cell? ⟨w.heap.size + 1, 1, none⟩ = some (.int .i64 y.item.key) ∧ V.cell? ⟨w.heap.size + 1, 2, none⟩ = some (.slice Ay y.item.pos.length cy) ∧ V.cell? ⟨w.heap.size + 1, 3, none⟩ = some (.int .i64 y.item.tags)) := Lib.hid fun V hV => ⟨hV.cell q0 (by simp), hV.cell q1 (by simp), hV.cell k0 (by simp), hV.cell k1 (by simp), hV.cell k2 (by simp), hV.cell k3 (by simp)⟩
      have HB1 := Lib.hid (World.grownBy_alloc W (.cells #[.slice none 0 0, .slice none 0 0] 26) none)
      go_wp2_with fail
      go_cut [8, 9] (fun s8 s9 wx => ∃ (b : Nat) (A2 : Option Addr) (c2 : Nat) (B2 : Option Addr) (d2 : Nat) (LW : List (M.Entry × Value)) (lo2 hi2 : Nat), s8 = .pointer (some ⟨b, 0, none⟩) ∧ s9 = .bool bb ∧ BoxO W l2 ts2 b A2 c2 B2 d2 LW lo2 hi2 wx)
      case first =>
        go_region_held3 (fun V => V.cell? ⟨w.heap.size, 0, none⟩ = some (.slice A h.log.length c) ∧ V.cell? ⟨w.heap.size, 1, none⟩ = some (.slice B h.times.length d) ∧ V.cell? ⟨w.heap.size + 1, 0, none⟩ = some (.int .i64 y.kind) ∧ V.cell? ⟨w.heap.size + 1, 1, none⟩ = some (.int .i64 y.item.key) ∧ V.cell? ⟨w.heap.size + 1, 2, none⟩ = some (.slice Ay y.item.pos.length cy) ∧ V.cell? ⟨w.heap.size + 1, 3, none⟩ = some (.int .i64 y.item.tags))
          (first | exact HCE.out _ S7.out | exact HCE.out _ (gb_alloc S7.out _) | exact HCE.out _ (gb_setCell (gb_setCell S7.out (.inl HBX.out) _) (.inl HBX.out) _) | exact HCE.out _ S6.out | exact HCE.out _ (gb_alloc S6.out _) | exact HCE.out _ S5.out | exact HCE.out _ (gb_alloc S5.out _) | exact HCE.out _ (gb_drew (gb_refl _ _)) | exact HCE.out _ (gb_drew HB1.out) | exact HCE.out _ HB1.out)
          (first
            | (go_at_call 13; have hq := BX.out; refine (HCS.out _ _ _ c1 d1 _ (D5.out.on K6.out) HD5.out (RdInts.wide E6.out.rd (Nat.zero_le _) (Nat.le_refl _))).mono ?_; rintro e w7 ⟨A2, c2, B2, d2, LW, lo2, hi2, rfl, hm2, b1, b2, b3, ho, hg⟩; have OW := Lib.hid ho; have HMW := Lib.hid hm2; have S7 : Hid (W.grownBy w7 none) := Lib.hid (gb_trans S6.out hg); have hbl := hq.lt; replace BX := Lib.hid (BX.out.on hg); have g0 := BX.out.cell 0; have g1 := BX.out.cell 1; have f0 := BX.out.frozen 0; have f1 := BX.out.frozen 1; simp only [List.getElem?_cons_zero, List.getElem?_cons_succ] at g0 g1; clear ho hg hm2 hq)
            | (go_at_call 13; have hs6 := S6.out; refine (HCS.out _ _ _ c1 d1 _ (D5.out.on (gb_trans K6.out (World.grownBy_alloc w6 (.cells #[.slice none 0 0, .slice none 0 0] 26) none))) HD5.out (RdInts.on (RdInts.wide E6.out.rd (Nat.zero_le _) (Nat.le_refl _)) (World.grownBy_alloc w6 (.cells #[.slice none 0 0, .slice none 0 0] 26) none))).mono ?_; rintro e w7 ⟨A2, c2, B2, d2, LW, lo2, hi2, rfl, hm2, b1, b2, b3, ho, hg⟩; have OW := Lib.hid ho; have HMW := Lib.hid hm2; have S7 : Hid (W.grownBy w7 none) := Lib.hid (gb_trans (gb_alloc S6.out (.cells #[.slice none 0 0, .slice none 0 0] 26)) hg); have hbl : w6.heap.size < (w6.alloc (.cells #[.slice none 0 0, .slice none 0 0] 26)).heap.size := (by simp); have BX := Lib.hid ((Row.new w6 26 (ca := #[.slice none 0 0, .slice none 0 0]) rfl).on hg); have HBX : Hid (W.heap.size ≤ w6.heap.size) := Lib.hid hs6.size; have g0 := BX.out.cell 0; have g1 := BX.out.cell 1; have f0 := BX.out.frozen 0; have f1 := BX.out.frozen 1; simp only [List.getElem?_cons_zero, List.getElem?_cons_succ] at g0 g1; clear ho hg hm2 hs6)
            | (go_at_call 13; have hs6 := S6.out; refine (HCS.out _ _ _ c1 d1 _ (D5.out.on K6.out) HD5.out (RdInts.wide E6.out.rd (Nat.zero_le _) (Nat.le_refl _))).mono ?_; rintro e w7 ⟨A2, c2, B2, d2, LW, lo2, hi2, rfl, hm2, b1, b2, b3, ho, hg⟩; have OW := Lib.hid ho; have HMW := Lib.hid hm2; have S7 : Hid (W.grownBy w7 none) := Lib.hid (gb_trans S6.out hg); have NX := True.intro; clear ho hg hm2 hs6)
            | (go_at_call 33; have hq := BX.out; refine (HTE.out _ (KA.out.on S5.out)).mono ?_; rintro e w6 ⟨v, rfl, ho, hg⟩; have E6 := Lib.hid ho; have K6 := Lib.hid hg; have S6 : Hid (W.grownBy w6 none) := Lib.hid (gb_trans S5.out hg); replace BX := Lib.hid (BX.out.on hg); clear ho hg hq)
            | (go_at_call 33; refine (HTE.out _ (KA.out.on (gb_alloc S5.out (.cells #[.slice none 0 0, .slice none 0 0] 26)))).mono ?_; rintro e w6 ⟨v, rfl, ho, hg⟩; have E6 := Lib.hid ho; have K6 := Lib.hid (gb_trans (World.grownBy_alloc w5 (.cells #[.slice none 0 0, .slice none 0 0] 26) none) hg); have S6 : Hid (W.grownBy w6 none) := Lib.hid (gb_trans (gb_alloc S5.out (.cells #[.slice none 0 0, .slice none 0 0] 26)) hg); have BX := Lib.hid ((Row.new w5 26 (ca := #[.slice none 0 0, .slice none 0 0]) rfl).on hg); have HBX : Hid (W.heap.size ≤ w5.heap.size) := Lib.hid S5.out.size; clear ho hg)
            | (go_at_call 33; refine (HTE.out _ (KA.out.on S5.out)).mono ?_; rintro e w6 ⟨v, rfl, ho, hg⟩; have E6 := Lib.hid ho; have K6 := Lib.hid hg; have S6 : Hid (W.grownBy w6 none) := Lib.hid (gb_trans S5.out hg); clear ho hg)
            | (go_at_call 24; refine (HT.out W.drew (KA.out.on (gb_drew (gb_refl _ _)))).mono ?_; rintro e w5 ⟨A1, c1, B1, d1, LV1, lo1, hi1, rfl, hc1, hd1, hm1, a1, a2, a3, ho, hg⟩; have D5 := Lib.hid ((ho.rd hm1).sees HS.out); have HD5 := Lib.hid hd1; have S5 : Hid (W.grownBy w5 none) := Lib.hid (gb_trans (gb_drew (gb_refl W none)) hg); clear ho hg hm1 hc1 hd1)
            | (go_at_call 24; refine (HT.out (W.alloc (.cells #[.slice none 0 0, .slice none 0 0] 26)).drew (KA.out.on (gb_drew HB1.out))).mono ?_; rintro e w5 ⟨A1, c1, B1, d1, LV1, lo1, hi1, rfl, hc1, hd1, hm1, a1, a2, a3, ho, hg⟩; have D5 := Lib.hid ((ho.rd hm1).sees HS.out); have HD5 := Lib.hid hd1; have S5 : Hid (W.grownBy w5 none) := Lib.hid (gb_trans (gb_drew HB1.out) hg); have BX := Lib.hid ((Row.new W 26 (ca := #[.slice none 0 0, .slice none 0 0]) rfl).on (gb_trans (gb_drew (gb_refl _ none)) hg)); have HBX : Hid (W.heap.size ≤ W.heap.size) := Lib.hid (Nat.le_refl _); clear ho hg hm1 hc1 hd1))
        all_goals
          go_wp2_with fail
          go_meet
          first
            | (have hq := BX.out
               exact ⟨_, A2, c2, B2, d2, LW, lo2, hi2, rfl, rfl, boxO_old hq HBX.out (by omega) HMW.out (by have := S6.out.size; first | omega | (simp at b1; omega)) b2 b3 OW.out S7.out⟩)
            | exact ⟨_, A2, c2, B2, d2, LW, lo2, hi2, rfl, rfl, boxO_new HMW.out (by have := S6.out.size; omega) b2 b3 OW.out S7.out⟩
      case rest =>
        obtain ⟨hyw, A2, c2, B2, d2, LW, lo2, hi2, rfl, rfl, hrow, hm2, b1, b2, b3, ho, b4, b5, b6, hg⟩ := hcut
        clear q0 q1 k0 k1 k2 k3 HCE HB1
        have YW := Lib.hid hrow
        have OW := Lib.hid ho
        have HMW := Lib.hid hm2
        have KW := Lib.hid (Held.now (lo := lo2) b3)
        replace KA := Lib.hid (KA.out.on hg)
        replace R := Lib.hid (R.out.on hg)
        replace RE := Lib.hid (RE.out.on hg)
        replace G := Lib.hid (gb_trans G.out hg)
        clear hrow ho hm2 hg
        obtain ⟨W, hW⟩ : ∃ V, V = wc := ⟨_, rfl⟩
        rw [← hW] at YW OW KW KA R RE G b3 b5 ⊢
        clear hW
        try clear q0 q1
        have q0 := R.out.cell 0
        have q1 := R.out.cell 1
        simp only [List.getElem?_cons_zero, List.getElem?_cons_succ] at q0 q1
        go_wp2_with fail
        refine (HT.out _ KA.out).mono ?_
        rintro e W ⟨A3, c3, B3, d3, LV, lo3, hi3, rfl, hc3, hd3, hm3, f1, f2, f3, ho, hg⟩
        replace KA := Lib.hid (KA.out.on hg)
        replace R := Lib.hid (R.out.on hg)
        replace RE := Lib.hid (RE.out.on hg)
        replace KW := Lib.hid (KW.out.on hg)
        replace YW := Lib.hid (YW.out.on hg)
        replace G := Lib.hid (gb_trans G.out hg)
        have hz := hg.size
        clear hg
        have OX := Lib.hid ho
        have KX := Lib.hid (Held.now (lo := lo3) f3)
        have HM := Lib.hid hm3
        clear ho hm3
        try clear k0 k1 k2 k3
        have k0 := (RE.out.alloc (.cells #[.slice A3 h.log.length c3, .slice B3 h.times.length d3] 26)).cell 0
        have k1 := (RE.out.alloc (.cells #[.slice A3 h.log.length c3, .slice B3 h.times.length d3] 26)).cell 1
        have k2 := (RE.out.alloc (.cells #[.slice A3 h.log.length c3, .slice B3 h.times.length d3] 26)).cell 2
        have k3 := (RE.out.alloc (.cells #[.slice A3 h.log.length c3, .slice B3 h.times.length d3] 26)).cell 3
        simp only [List.getElem?_cons_zero, List.getElem?_cons_succ] at k0 k1 k2 k3
        go_wp2_with fail
        refine calls_name (fun V => W.grownBy V none ∧ Row V W.heap.size 26 [.slice A3 h.log.length c3, .slice B3 h.times.length d3]) ⟨World.grownBy_alloc W _ none, Row.new W _ rfl⟩ ?_
        obtain ⟨hx, hhx⟩ : ∃ hx, hx = W.heap.size := ⟨_, rfl⟩
        rw [← hhx]
        have Hhx := Lib.hid hhx
        rintro W ⟨hg, hy⟩
        have X := Lib.hid hy
        replace KA := Lib.hid (KA.out.on hg)
        replace R := Lib.hid (R.out.on hg)
        replace RE := Lib.hid (RE.out.on hg)
        replace KW := Lib.hid (KW.out.on hg)
        replace KX := Lib.hid (KX.out.on hg)
        replace YW := Lib.hid (YW.out.on hg)
        replace G := Lib.hid (gb_trans G.out hg)
        have hz := hg.size
        clear hg hy hhx
        have hlx := X.out.lt
        have hgx : hi3 ≤ hx := by have := Hhx.out; omega
        obtain ⟨lo5, hlo5⟩ : ∃ lo5, lo5 = W.heap.size := ⟨_, rfl⟩
        have KE0 := Lib.hid hlo5
        have hxl5 : hx < lo5 := by omega
        have hl5 : hi3 ≤ lo5 := by omega
        refine (HTE.out _ KA.out).mono ?_
        rintro e W ⟨v, rfl, ho, hg⟩
        replace KA := Lib.hid (KA.out.on hg)
        replace R := Lib.hid (R.out.on hg)
        replace RE := Lib.hid (RE.out.on hg)
        replace KW := Lib.hid (KW.out.on hg)
        replace KX := Lib.hid (KX.out.on hg)
        replace YW := Lib.hid (YW.out.on hg)
        replace X := Lib.hid (X.out.on hg)
        replace G := Lib.hid (gb_trans G.out hg)
        have hz := hg.size
        clear hg
        rw [← hlo5] at ho
        obtain ⟨Ae, ce, rfl, hce, _⟩ := OwnInts.rd ho
        obtain ⟨hi5, hhi5⟩ : ∃ hi5, hi5 = W.heap.size := ⟨_, rfl⟩
        have OE : Hid (OwnIn .i64 3 W lo5 hi5 (.slice Ae y.item.pos.length ce) y.item.pos) := Lib.hid ⟨ho, fun b hb => by rw [hhi5]; exact (World.ownsRow.lt ho b hb).2⟩
        have KE := Lib.hid (Held.now (lo := lo5) (hi := hi5) (Nat.le_of_eq hhi5))
        have hl6 : lo5 ≤ hi5 := by omega
        clear ho hce hlo5 KE0
        try clear p0 p1
        have p0 := (X.out.alloc (.cells #[.int .i64 y.kind, .int .i64 y.item.key, .slice Ae y.item.pos.length ce, .int .i64 y.item.tags] 30)).cell 0
        have p1 := (X.out.alloc (.cells #[.int .i64 y.kind, .int .i64 y.item.key, .slice Ae y.item.pos.length ce, .int .i64 y.item.tags] 30)).cell 1
        simp only [List.getElem?_cons_zero, List.getElem?_cons_succ] at p0 p1
        go_wp2_with fail
        refine calls_name (fun V => W.grownBy V none ∧ Row V W.heap.size 30 [.int .i64 y.kind, .int .i64 y.item.key, .slice Ae y.item.pos.length ce, .int .i64 y.item.tags]) ⟨World.grownBy_alloc W _ none, Row.new W _ rfl⟩ ?_
        obtain ⟨he, hhe⟩ : ∃ b, b = W.heap.size := ⟨_, rfl⟩
        rw [← hhe]
        have hge : hi5 ≤ he := by omega
        rintro W ⟨hg, hy⟩
        have XE := Lib.hid hy
        replace KA := Lib.hid (KA.out.on hg)
        replace R := Lib.hid (R.out.on hg)
        replace RE := Lib.hid (RE.out.on hg)
        replace KW := Lib.hid (KW.out.on hg)
        replace KX := Lib.hid (KX.out.on hg)
        replace YW := Lib.hid (YW.out.on hg)
        replace X := Lib.hid (X.out.on hg)
        replace KE := Lib.hid (KE.out.on hg)
        replace G := Lib.hid (gb_trans G.out hg)
        have hz := hg.size
        have hle := XE.out.lt
        clear hg hy hhe
        have D3 := Lib.hid (((OX.out.agree KX.out.1).rd HM.out).sees HS.out)
        have E3 := Lib.hid (RdInts.wide (OE.out.agree KE.out.1).1.rd (Nat.zero_le _) (Nat.le_refl _))
        refine (HCI.out _ _ _ c3 d3 _ D3.out hd3 E3.out).mono ?_
        rintro e W ⟨A4, c4, B4, d4, LG, lo4, hi4, rfl, hm4, e1, e2, e3, ho, hg⟩
        replace KA := Lib.hid (KA.out.on hg)
        replace R := Lib.hid (R.out.on hg)
        replace RE := Lib.hid (RE.out.on hg)
        replace X := Lib.hid (X.out.on hg)
        replace XE := Lib.hid (XE.out.on hg)
        replace KE := Lib.hid (KE.out.on hg)
        replace KW := Lib.hid (KW.out.on hg)
        replace KX := Lib.hid (KX.out.on hg)
        replace YW := Lib.hid (YW.out.on hg)
        replace G := Lib.hid (gb_trans G.out hg)
        have hz := hg.size
        clear hg
        have OG := Lib.hid ho
        have HMG : Hid (LG.map (·.1) = l2) := Lib.hid hm4
        have KG := Lib.hid (Held.now (lo := lo4) e3)
        clear ho hm4 D3 E3
        try clear p0 p1
        try clear y0 y1
        try clear y0 y1
        have y0 := (YW.out.alloc (.cells #[.slice A4 l2.length c4, .slice B4 ts2.length d4] 26)).cell 0
        have y1 := (YW.out.alloc (.cells #[.slice A4 l2.length c4, .slice B4 ts2.length d4] 26)).cell 1
        simp only [List.getElem?_cons_zero, List.getElem?_cons_succ] at y0 y1
        go_wp2_with fail
        refine calls_name (fun V => W.grownBy V none ∧ Row V W.heap.size 26 [.slice A4 l2.length c4, .slice B4 ts2.length d4]) ⟨World.grownBy_alloc W _ none, Row.new W _ rfl⟩ ?_
        obtain ⟨hyg, hhyg⟩ : ∃ hyg, hyg = W.heap.size := ⟨_, rfl⟩
        rw [← hhyg]
        have Hhyg := Lib.hid hhyg
        rintro W ⟨hg, hy⟩
        have YG := Lib.hid hy
        replace KA := Lib.hid (KA.out.on hg)
        replace R := Lib.hid (R.out.on hg)
        replace RE := Lib.hid (RE.out.on hg)
        replace X := Lib.hid (X.out.on hg)
        replace XE := Lib.hid (XE.out.on hg)
        replace KE := Lib.hid (KE.out.on hg)
        replace KW := Lib.hid (KW.out.on hg)
        replace KX := Lib.hid (KX.out.on hg)
        replace YW := Lib.hid (YW.out.on hg)
        replace KG := Lib.hid (KG.out.on hg)
        replace G := Lib.hid (gb_trans G.out hg)
        have hz := hg.size
        clear hg hy hhyg
        have hgg : hi4 ≤ hyg := by have := Hhyg.out; omega
        have hlg := YG.out.lt
        have HEQ : Hid (∀ W, Held lo4 hi4 _ W → Held lo2 hi2 _ W → Calls Try.prog 25 #[.agg #[.slice A4 l2.length c4, .slice B4 ts2.length d4], .agg #[.slice A2 l2.length c2, .slice B2 ts2.length d2]] W fun e w' => e = .returned (.bool true) ∧ W.grownBy w' none) := Lib.hid fun W h h' =>
          eqHistory_same (h := ⟨l2, ts2⟩) ((OG.out.agree h.1).rd HMG.out) ((OW.out.agree h'.1).rd HMW.out) HSK.out
        refine (HEQ.out _ KG.out KW.out).mono ?_
        rintro e W ⟨rfl, hg⟩
        replace KA := Lib.hid (KA.out.on hg)
        replace R := Lib.hid (R.out.on hg)
        replace RE := Lib.hid (RE.out.on hg)
        replace X := Lib.hid (X.out.on hg)
        replace XE := Lib.hid (XE.out.on hg)
        replace KE := Lib.hid (KE.out.on hg)
        replace KW := Lib.hid (KW.out.on hg)
        replace KX := Lib.hid (KX.out.on hg)
        replace KG := Lib.hid (KG.out.on hg)
        replace YW := Lib.hid (YW.out.on hg)
        replace YG := Lib.hid (YG.out.on hg)
        replace G := Lib.hid (gb_trans G.out hg)
        have hz := hg.size
        clear hg
        try clear q0 q1
        have q0 := R.out.cell 0
        have q1 := R.out.cell 1
        simp only [List.getElem?_cons_zero, List.getElem?_cons_succ] at q0 q1
        try clear p0 p1
        have p0 := X.out.cell 0
        have p1 := X.out.cell 1
        simp only [List.getElem?_cons_zero, List.getElem?_cons_succ] at p0 p1
        go_wp2_with fail
        go_cut [62] (fun s wx => s = .bool false ∧ W.grownBy wx none)
        case first =>
          go_region_law (first | (go_simp; go_at_call 24; refine Calls.mono (HT.out _ (KA.out.on (gb_drew (gb_refl _ none)))) ?_; rintro e W6 ⟨A5, c5, B5, d5, LV5, lo5, hi5, rfl, hc5, hd5, hm5, f1, f2, f3, ho, hg⟩; have S6 : Hid (W.grownBy W6 none) := Lib.hid (gb_trans (gb_drew (gb_refl W none)) hg); have D6 := Lib.hid (ho.rd hm5); have E6 := Lib.hid ((OX.out.agree (KX.out.on S6.out).1).rd HM.out); have X6 := Lib.hid (X.out.on S6.out); have p2 := X6.out.cell 0; have p3 := X6.out.cell 1; simp only [List.getElem?_cons_zero, List.getElem?_cons_succ] at p2 p3; clear hc5 hd5 hm5 f1 f2 f3 ho hg) | (go_simp; go_at_call 25; refine Calls.mono (eqHistory_same E6.out D6.out HS.out) ?_; rintro e W7 ⟨rfl, hg⟩; have S7 : Hid (W.grownBy W7 none) := Lib.hid (gb_trans S6.out hg); clear hg))
          all_goals
            go_wp2_with fail
            go_meet
            exact ⟨rfl, S7.out⟩
        case rest =>
          obtain ⟨rfl, hg⟩ := hcut
          obtain ⟨W, hW⟩ : ∃ V, V = wc := ⟨_, rfl⟩
          rw [← hW] at hg ⊢
          clear hW
          replace KA := Lib.hid (KA.out.on hg)
          replace R := Lib.hid (R.out.on hg)
          replace RE := Lib.hid (RE.out.on hg)
          replace X := Lib.hid (X.out.on hg)
          replace XE := Lib.hid (XE.out.on hg)
          replace KE := Lib.hid (KE.out.on hg)
          replace KW := Lib.hid (KW.out.on hg)
          replace KX := Lib.hid (KX.out.on hg)
          replace KG := Lib.hid (KG.out.on hg)
          replace YW := Lib.hid (YW.out.on hg)
          replace YG := Lib.hid (YG.out.on hg)
          replace G := Lib.hid (gb_trans G.out hg)
          have hz := hg.size
          clear hg
          try clear q0 q1 p0 p1
          try clear k0 k1 k2 k3
          have k0 := RE.out.cell 0
          have k1 := RE.out.cell 1
          have k2 := RE.out.cell 2
          have k3 := RE.out.cell 3
          simp only [List.getElem?_cons_zero, List.getElem?_cons_succ] at k0 k1 k2 k3
          have x0 := XE.out.cell 0
          have x1 := XE.out.cell 1
          have x2 := XE.out.cell 2
          have x3 := XE.out.cell 3
          simp only [List.getElem?_cons_zero, List.getElem?_cons_succ] at x0 x1 x2 x3
          have HCE : Hid (∀ V, W.grownBy V none → V.cell? ⟨w.heap.size + 1, 0, none⟩ = some (.int .i64 y.kind) ∧ V.cell? ⟨w.heap.size + 1, 1, none⟩ = some (.int .i64 y.item.key) ∧ V.cell? ⟨w.heap.size + 1, 2, none⟩ = some (.slice Ay y.item.pos.length cy) ∧ V.cell? ⟨w.heap.size + 1, 3, none⟩ = some (.int .i64 y.item.tags) ∧ V.cell? ⟨he, 0, none⟩ = some (.int .i64 y.kind) ∧ V.cell? ⟨he, 1, none⟩ = some (.int .i64 y.item.key) ∧ V.cell? ⟨he, 2, none⟩ = some (.slice Ae y.item.pos.length ce) ∧ V.cell? ⟨he, 3, none⟩ = some (.int .i64 y.item.tags)) := Lib.hid fun V hV => ⟨hV.cell k0 (by simp), hV.cell k1 (by simp), hV.cell k2 (by simp), hV.cell k3 (by simp), hV.cell x0 (by simp), hV.cell x1 (by simp), hV.cell x2 (by simp), hV.cell x3 (by simp)⟩
          have HQE : Hid (∀ V v1 v2, RdInts .i64 V 0 V.heap.size v1 y.item.pos → RdInts .i64 V 0 V.heap.size v2 y.item.pos → Calls Try.prog 34 #[.agg #[.int .i64 y.kind, .int .i64 y.item.key, v1, .int .i64 y.item.tags], .agg #[.int .i64 y.kind, .int .i64 y.item.key, v2, .int .i64 y.item.tags]] V fun e w' => e = .returned (.bool true) ∧ V.grownBy w' none) := Lib.hid fun V v1 v2 h1 h2 => by
            have e := eqEntry_any V v1 v2 0 V.heap.size 0 V.heap.size y y hyl h1 h2 (Nat.le_refl _) (Nat.le_refl _)
            simpa using e
          have E3 := Lib.hid (RdInts.wide (OE.out.agree KE.out.1).1.rd (Nat.zero_le _) (Nat.le_refl _))
          go_wp2_with fail
          go_cut [67] (fun s wx => s = .bool false ∧ W.grownBy wx none)
          case first =>
            go_region_held3 (fun V => V.cell? ⟨w.heap.size + 1, 0, none⟩ = some (.int .i64 y.kind) ∧ V.cell? ⟨w.heap.size + 1, 1, none⟩ = some (.int .i64 y.item.key) ∧ V.cell? ⟨w.heap.size + 1, 2, none⟩ = some (.slice Ay y.item.pos.length cy) ∧ V.cell? ⟨w.heap.size + 1, 3, none⟩ = some (.int .i64 y.item.tags) ∧ V.cell? ⟨he, 0, none⟩ = some (.int .i64 y.kind) ∧ V.cell? ⟨he, 1, none⟩ = some (.int .i64 y.item.key) ∧ V.cell? ⟨he, 2, none⟩ = some (.slice Ae y.item.pos.length ce) ∧ V.cell? ⟨he, 3, none⟩ = some (.int .i64 y.item.tags))
              (first | exact HCE.out _ S7.out | exact HCE.out _ S6.out | exact HCE.out _ (gb_drew (gb_refl _ _)))
              (first
                | (go_at_call 34; refine (HQE.out _ _ _ (RdInts.on E3.out S6.out) E6.out).mono ?_; rintro e w7 ⟨rfl, hg⟩; have S7 : Hid (W.grownBy w7 none) := Lib.hid (gb_trans S6.out hg); clear hg)
                | (go_at_call 33; refine (HTE.out W.drew (KA.out.on (gb_drew (gb_refl _ none)))).mono ?_; rintro e w6 ⟨v6, rfl, ho, hg⟩; have S6 : Hid (W.grownBy w6 none) := Lib.hid (gb_trans (gb_drew (gb_refl W none)) hg); have E6 := Lib.hid (RdInts.wide (OwnInts.rd ho) (Nat.zero_le _) (Nat.le_refl _)); clear ho hg))
            all_goals
              go_wp2_with fail
              go_meet
              exact ⟨rfl, S7.out⟩
          case rest =>
            obtain ⟨rfl, hg⟩ := hcut
            obtain ⟨W, hW⟩ : ∃ V, V = wc := ⟨_, rfl⟩
            rw [← hW] at hg ⊢
            clear hW HCE HQE E3 x0 x1 x2 x3 k0 k1 k2 k3
            replace KA := Lib.hid (KA.out.on hg)
            replace R := Lib.hid (R.out.on hg)
            replace RE := Lib.hid (RE.out.on hg)
            replace X := Lib.hid (X.out.on hg)
            replace XE := Lib.hid (XE.out.on hg)
            replace KE := Lib.hid (KE.out.on hg)
            replace KW := Lib.hid (KW.out.on hg)
            replace KX := Lib.hid (KX.out.on hg)
            replace KG := Lib.hid (KG.out.on hg)
            replace YW := Lib.hid (YW.out.on hg)
            replace YG := Lib.hid (YG.out.on hg)
            replace G := Lib.hid (gb_trans G.out hg)
            have hz := hg.size
            clear hg
            try clear p0 p1
            have p0 := X.out.cell 0
            have p1 := X.out.cell 1
            simp only [List.getElem?_cons_zero, List.getElem?_cons_succ] at p0 p1
            -- the arguments are marked
            have HN : Hid (h.log.length = LV.length) := Lib.hid (by rw [← HM.out, List.length_map])
            have HSV : Hid (SmallE (LV.map (·.1))) := Lib.hid (by rw [HM.out]; exact HS.out.1)
            have hsb := szE_small HSV.out
            have htl := HS.out.2
            have HMK := Lib.hid (markHistory_any (k := 1) HN.out rfl HSV.out HS.out.2 (OX.out.agree KX.out.1) KX.out.2 (by omega) (by omega))
            go_wp2_with fail
            refine (HMK.out).mono ?_
            rintro e W ⟨rfl, _, hw⟩
            replace KA := Lib.hid (KA.out.wrote hw (by omega))
            replace R := Lib.hid (R.out.wrote hw (by omega))
            replace RE := Lib.hid (RE.out.wrote hw (by omega))
            replace XE := Lib.hid (XE.out.wrote hw (by omega))
            replace KE := Lib.hid (KE.out.wrote hw (by omega))
            replace KW := Lib.hid (KW.out.wrote hw (by omega))
            replace KG := Lib.hid (KG.out.wrote hw (by omega))
            replace YW := Lib.hid (YW.out.wrote hw (by omega))
            replace YG := Lib.hid (YG.out.wrote hw (by omega))
            replace G := Lib.hid (Wrote.gb G.out hw (by omega))
            have hz := hw.size
            clear hw
            obtain ⟨q, hq⟩ : ∃ q, q = (1 : Int) + szE LV + h.times.length := ⟨_, rfl⟩
            have hq0 : 0 ≤ q := by omega
            have hq1 : q ≤ 4398046511104 := by omega
            rw [← hq]
            clear hq KX OX X p0 p1 hsb htl
            have x0 := XE.out.cell 0
            have x1 := XE.out.cell 1
            have x2 := XE.out.cell 2
            have x3 := XE.out.cell 3
            simp only [List.getElem?_cons_zero, List.getElem?_cons_succ] at x0 x1 x2 x3
            have HME := Lib.hid (markEntry_one (p := y.kind) (q := y.item.key) (t := y.item.tags) (k := q) rfl hyl (OE.out.agree KE.out.1) KE.out.2 hq0 hq1)
            go_wp2_with fail
            refine (HME.out).mono ?_
            rintro e W ⟨rfl, hw⟩
            replace KA := Lib.hid (KA.out.wrote hw (by omega))
            replace R := Lib.hid (R.out.wrote hw (by omega))
            replace RE := Lib.hid (RE.out.wrote hw (by omega))
            replace KW := Lib.hid (KW.out.wrote hw (by omega))
            replace KG := Lib.hid (KG.out.wrote hw (by omega))
            replace YW := Lib.hid (YW.out.wrote hw (by omega))
            replace YG := Lib.hid (YG.out.wrote hw (by omega))
            replace G := Lib.hid (Wrote.gb G.out hw (by omega))
            have hz := hw.size
            clear hw
            obtain ⟨q9, hq9⟩ : ∃ q9, q9 = q + (y.item.pos.length : Int) := ⟨_, rfl⟩
            have hq90 : 0 ≤ q9 := by omega
            rw [← hq9]
            clear hq9 KE OE XE x0 x1 x2 x3 HME HMK
            try clear y0 y1
            have y0 := YW.out.cell 0
            have y1 := YW.out.cell 1
            simp only [List.getElem?_cons_zero, List.getElem?_cons_succ] at y0 y1
            try clear z0 z1
            have z0 := YG.out.cell 0
            have z1 := YG.out.cell 1
            simp only [List.getElem?_cons_zero, List.getElem?_cons_succ] at z0 z1
            go_wp2_with fail
            refine (HEQ.out _ KG.out KW.out).mono ?_
            rintro e W ⟨rfl, hg⟩
            replace KA := Lib.hid (KA.out.on hg)
            replace R := Lib.hid (R.out.on hg)
            replace RE := Lib.hid (RE.out.on hg)
            replace KW := Lib.hid (KW.out.on hg)
            replace KG := Lib.hid (KG.out.on hg)
            replace YW := Lib.hid (YW.out.on hg)
            replace YG := Lib.hid (YG.out.on hg)
            replace G := Lib.hid (gb_trans G.out hg)
            have hz := hg.size
            clear hg
            try clear z0 z1
            have z0 := YG.out.cell 0
            have z1 := YG.out.cell 1
            simp only [List.getElem?_cons_zero, List.getElem?_cons_succ] at z0 z1
            -- the answer is marked
            have HNG : Hid (l2.length = LG.length) := Lib.hid (by rw [← HMG.out, List.length_map])
            have HSG : Hid (SmallE (LG.map (·.1))) := Lib.hid (by rw [HMG.out]; exact HSK.out.1)
            have hsg := szE_small HSG.out
            have HMK2 := Lib.hid (markHistory_any (k := 1) HNG.out rfl HSG.out HSK.out.2 (OG.out.agree KG.out.1) KG.out.2 (by omega) (by omega))
            go_wp2_with fail
            refine (HMK2.out).mono ?_
            rintro e W ⟨rfl, ho, hw⟩
            replace KA := Lib.hid (KA.out.wrote hw (by omega))
            replace R := Lib.hid (R.out.wrote hw (by omega))
            replace RE := Lib.hid (RE.out.wrote hw (by omega))
            replace KW := Lib.hid (KW.out.wrote hw (by omega))
            replace YW := Lib.hid (YW.out.wrote hw (by omega))
            replace YG := Lib.hid (YG.out.wrote hw (by omega))
            replace G := Lib.hid (Wrote.gb G.out hw (by omega))
            have hz := hw.size
            clear hw
            have OM := Lib.hid ho
            have KM := Lib.hid (Held.now (lo := lo4) (show hi4 ≤ W.heap.size by omega))
            obtain ⟨q2, hq2⟩ : ∃ q, q = (1 : Int) + szE LG + ts2.length := ⟨_, rfl⟩
            have hq20 : 0 ≤ q2 := by omega
            rw [← hq2]
            have HH : Hid (∀ W, Held lo4 hi4 _ W → Calls Try.prog 27 #[.agg #[.slice A4 l2.length c4, .slice B4 ts2.length d4], .int .i64 1] W fun e w' => e = .returned (.int .i64 q2) ∧ W.grownBy w' none) := Lib.hid fun W h => by
              rw [hq2]
              exact heldHistory_any (k := 1) HNG.out hKt HSG.out (OM.out.agree h.1) (by omega) (by omega) h.2
            have tq : (q2 != q2) = false := by simp
            clear ho KG OG hq2 HMK2 hsg
            try clear z0 z1
            have z0 := YG.out.cell 0
            have z1 := YG.out.cell 1
            simp only [List.getElem?_cons_zero, List.getElem?_cons_succ] at z0 z1
            go_wp2_with fail
            refine (HH.out _ KM.out).mono ?_
            rintro e W ⟨rfl, hg⟩
            replace KA := Lib.hid (KA.out.on hg)
            replace R := Lib.hid (R.out.on hg)
            replace RE := Lib.hid (RE.out.on hg)
            replace KW := Lib.hid (KW.out.on hg)
            replace KM := Lib.hid (KM.out.on hg)
            replace YW := Lib.hid (YW.out.on hg)
            replace YG := Lib.hid (YG.out.on hg)
            replace G := Lib.hid (gb_trans G.out hg)
            have hz := hg.size
            clear hg
            -- another call leaves it as it is
            try clear y0 y1 z0 z1
            try clear q0 q1
            have q0 := R.out.cell 0
            have q1 := R.out.cell 1
            simp only [List.getElem?_cons_zero, List.getElem?_cons_succ] at q0 q1
            try clear k0 k1 k2 k3
            have k0 := RE.out.cell 0
            have k1 := RE.out.cell 1
            have k2 := RE.out.cell 2
            have k3 := RE.out.cell 3
            simp only [List.getElem?_cons_zero, List.getElem?_cons_succ] at k0 k1 k2 k3
            have HCE : Hid (∀ V, W.grownBy V none → V.cell? ⟨w.heap.size, 0, none⟩ = some (.slice A h.log.length c) ∧ V.cell? ⟨w.heap.size, 1, none⟩ = some (.slice B h.times.length d) ∧ V.cell? ⟨w.heap.size + 1, 0, none⟩ = some (.int .i64 y.kind) ∧ V.cell? ⟨w.heap.size + 1, 1, none⟩ = some (.int .i64 y.item.key) ∧ V.cell? ⟨w.heap.size + 1, 2, none⟩ = some (.slice Ay y.item.pos.length cy) ∧ V.cell? ⟨w.heap.size + 1, 3, none⟩ = some (.int .i64 y.item.tags)) := Lib.hid fun V hV => ⟨hV.cell q0 (by simp), hV.cell q1 (by simp), hV.cell k0 (by simp), hV.cell k1 (by simp), hV.cell k2 (by simp), hV.cell k3 (by simp)⟩
            have HB1 := Lib.hid (World.grownBy_alloc W (.cells #[.slice none 0 0, .slice none 0 0] 26) none)
            go_wp2_with fail
            go_cut [17, 18] (fun s17 s18 wx => ∃ (b : Nat) (A12 : Option Addr) (c12 : Nat) (B12 : Option Addr) (d12 : Nat) (LW12 : List (M.Entry × Value)) (lo12 hi12 : Nat), s17 = .pointer (some ⟨b, 0, none⟩) ∧ s18 = .bool bb ∧ BoxO W l2 ts2 b A12 c12 B12 d12 LW12 lo12 hi12 wx)
            case first =>
              go_region_held3 (fun V => V.cell? ⟨w.heap.size, 0, none⟩ = some (.slice A h.log.length c) ∧ V.cell? ⟨w.heap.size, 1, none⟩ = some (.slice B h.times.length d) ∧ V.cell? ⟨w.heap.size + 1, 0, none⟩ = some (.int .i64 y.kind) ∧ V.cell? ⟨w.heap.size + 1, 1, none⟩ = some (.int .i64 y.item.key) ∧ V.cell? ⟨w.heap.size + 1, 2, none⟩ = some (.slice Ay y.item.pos.length cy) ∧ V.cell? ⟨w.heap.size + 1, 3, none⟩ = some (.int .i64 y.item.tags))
                (first | exact HCE.out _ S7.out | exact HCE.out _ (gb_alloc S7.out _) | exact HCE.out _ (gb_setCell (gb_setCell S7.out (.inl HBX.out) _) (.inl HBX.out) _) | exact HCE.out _ S6.out | exact HCE.out _ (gb_alloc S6.out _) | exact HCE.out _ S5.out | exact HCE.out _ (gb_alloc S5.out _) | exact HCE.out _ (gb_drew (gb_refl _ _)) | exact HCE.out _ (gb_drew HB1.out) | exact HCE.out _ HB1.out)
                (first
                  | (go_at_call 12; have hq := BX.out; refine (HCI.out _ _ _ c11 d11 _ (D5.out.on K6.out) HD5.out (RdInts.wide E6.out.rd (Nat.zero_le _) (Nat.le_refl _))).mono ?_; rintro e w7 ⟨A12, c12, B12, d12, LW12, lo12, hi12, rfl, hm2, n1, n2, n3, ho, hg⟩; have OW12 := Lib.hid ho; have HMW12 := Lib.hid hm2; have S7 : Hid (W.grownBy w7 none) := Lib.hid (gb_trans S6.out hg); have hbl := hq.lt; replace BX := Lib.hid (BX.out.on hg); have g0 := BX.out.cell 0; have g1 := BX.out.cell 1; have f0 := BX.out.frozen 0; have f1 := BX.out.frozen 1; simp only [List.getElem?_cons_zero, List.getElem?_cons_succ] at g0 g1; clear ho hg hm2 hq)
                  | (go_at_call 12; have hs6 := S6.out; refine (HCI.out _ _ _ c11 d11 _ (D5.out.on (gb_trans K6.out (World.grownBy_alloc w6 (.cells #[.slice none 0 0, .slice none 0 0] 26) none))) HD5.out (RdInts.on (RdInts.wide E6.out.rd (Nat.zero_le _) (Nat.le_refl _)) (World.grownBy_alloc w6 (.cells #[.slice none 0 0, .slice none 0 0] 26) none))).mono ?_; rintro e w7 ⟨A12, c12, B12, d12, LW12, lo12, hi12, rfl, hm2, n1, n2, n3, ho, hg⟩; have OW12 := Lib.hid ho; have HMW12 := Lib.hid hm2; have S7 : Hid (W.grownBy w7 none) := Lib.hid (gb_trans (gb_alloc S6.out (.cells #[.slice none 0 0, .slice none 0 0] 26)) hg); have hbl : w6.heap.size < (w6.alloc (.cells #[.slice none 0 0, .slice none 0 0] 26)).heap.size := (by simp); have BX := Lib.hid ((Row.new w6 26 (ca := #[.slice none 0 0, .slice none 0 0]) rfl).on hg); have HBX : Hid (W.heap.size ≤ w6.heap.size) := Lib.hid hs6.size; have g0 := BX.out.cell 0; have g1 := BX.out.cell 1; have f0 := BX.out.frozen 0; have f1 := BX.out.frozen 1; simp only [List.getElem?_cons_zero, List.getElem?_cons_succ] at g0 g1; clear ho hg hm2 hs6)
                  | (go_at_call 12; have hs6 := S6.out; refine (HCI.out _ _ _ c11 d11 _ (D5.out.on K6.out) HD5.out (RdInts.wide E6.out.rd (Nat.zero_le _) (Nat.le_refl _))).mono ?_; rintro e w7 ⟨A12, c12, B12, d12, LW12, lo12, hi12, rfl, hm2, n1, n2, n3, ho, hg⟩; have OW12 := Lib.hid ho; have HMW12 := Lib.hid hm2; have S7 : Hid (W.grownBy w7 none) := Lib.hid (gb_trans S6.out hg); have NX := True.intro; clear ho hg hm2 hs6)
                  | (go_at_call 33; have hq := BX.out; refine (HTE.out _ (KA.out.on S5.out)).mono ?_; rintro e w6 ⟨v, rfl, ho, hg⟩; have E6 := Lib.hid ho; have K6 := Lib.hid hg; have S6 : Hid (W.grownBy w6 none) := Lib.hid (gb_trans S5.out hg); replace BX := Lib.hid (BX.out.on hg); clear ho hg hq)
                  | (go_at_call 33; refine (HTE.out _ (KA.out.on (gb_alloc S5.out (.cells #[.slice none 0 0, .slice none 0 0] 26)))).mono ?_; rintro e w6 ⟨v, rfl, ho, hg⟩; have E6 := Lib.hid ho; have K6 := Lib.hid (gb_trans (World.grownBy_alloc w5 (.cells #[.slice none 0 0, .slice none 0 0] 26) none) hg); have S6 : Hid (W.grownBy w6 none) := Lib.hid (gb_trans (gb_alloc S5.out (.cells #[.slice none 0 0, .slice none 0 0] 26)) hg); have BX := Lib.hid ((Row.new w5 26 (ca := #[.slice none 0 0, .slice none 0 0]) rfl).on hg); have HBX : Hid (W.heap.size ≤ w5.heap.size) := Lib.hid S5.out.size; clear ho hg)
                  | (go_at_call 33; refine (HTE.out _ (KA.out.on S5.out)).mono ?_; rintro e w6 ⟨v, rfl, ho, hg⟩; have E6 := Lib.hid ho; have K6 := Lib.hid hg; have S6 : Hid (W.grownBy w6 none) := Lib.hid (gb_trans S5.out hg); clear ho hg)
                  | (go_at_call 24; refine (HT.out W.drew (KA.out.on (gb_drew (gb_refl _ _)))).mono ?_; rintro e w5 ⟨A11, c11, B11, d11, LV11, lo11, hi11, rfl, hc1, hd1, hm1, a1, a2, a3, ho, hg⟩; have D5 := Lib.hid ((ho.rd hm1).sees HS.out); have HD5 := Lib.hid hd1; have S5 : Hid (W.grownBy w5 none) := Lib.hid (gb_trans (gb_drew (gb_refl W none)) hg); clear ho hg hm1 hc1 hd1)
                  | (go_at_call 24; refine (HT.out (W.alloc (.cells #[.slice none 0 0, .slice none 0 0] 26)).drew (KA.out.on (gb_drew HB1.out))).mono ?_; rintro e w5 ⟨A11, c11, B11, d11, LV11, lo11, hi11, rfl, hc1, hd1, hm1, a1, a2, a3, ho, hg⟩; have D5 := Lib.hid ((ho.rd hm1).sees HS.out); have HD5 := Lib.hid hd1; have S5 : Hid (W.grownBy w5 none) := Lib.hid (gb_trans (gb_drew HB1.out) hg); have BX := Lib.hid ((Row.new W 26 (ca := #[.slice none 0 0, .slice none 0 0]) rfl).on (gb_trans (gb_drew (gb_refl _ none)) hg)); have HBX : Hid (W.heap.size ≤ W.heap.size) := Lib.hid (Nat.le_refl _); clear ho hg hm1 hc1 hd1))
              all_goals
                go_wp2_with fail
                go_meet
                first
                  | (have hq := BX.out
                     exact ⟨_, A12, c12, B12, d12, LW12, lo12, hi12, rfl, rfl, boxO_old hq HBX.out (by omega) HMW12.out (by have := S6.out.size; first | omega | (simp at n1; omega)) n2 n3 OW12.out S7.out⟩)
                  | exact ⟨_, A12, c12, B12, d12, LW12, lo12, hi12, rfl, rfl, boxO_new HMW12.out (by have := S6.out.size; omega) n2 n3 OW12.out S7.out⟩
            case rest =>
              obtain ⟨hyh, A8, c8, B8, d8, LH, lo8, hi8, rfl, rfl, hrow, hm8, i1, i2, i3, ho, i4, i5, i6, hg⟩ := hcut
              have YH := Lib.hid hrow
              have OH := Lib.hid ho
              have HM8 := Lib.hid hm8
              have R8 := Lib.hid (Held.now (lo := lo8) i3)
              replace KW := Lib.hid (KW.out.on hg)
              replace KM := Lib.hid (KM.out.on hg)
              replace YW := Lib.hid (YW.out.on hg)
              replace YG := Lib.hid (YG.out.on hg)
              replace G := Lib.hid (gb_trans G.out hg)
              clear q0 q1 k0 k1 k2 k3 HCE HB1 hrow ho hm8 hg
              obtain ⟨W, hW⟩ : ∃ V, V = wc := ⟨_, rfl⟩
              rw [← hW] at YH OH KW KM YW YG G R8 ⊢
              clear hW
              have E8 := Lib.hid ((OH.out.agree R8.out.1).rd HM8.out)
              try clear v0 v1
              have v0 := YH.out.cell 0
              have v1 := YH.out.cell 1
              simp only [List.getElem?_cons_zero, List.getElem?_cons_succ] at v0 v1
              try clear y0 y1
              have y0 := YW.out.cell 0
              have y1 := YW.out.cell 1
              simp only [List.getElem?_cons_zero, List.getElem?_cons_succ] at y0 y1
              go_wp2_with fail
              refine (eqHistory_same (h := ⟨l2, ts2⟩) E8.out ((OW.out.agree KW.out.1).rd HMW.out) HSK.out).mono ?_
              rintro e W ⟨rfl, hg⟩
              replace KM := Lib.hid (KM.out.on hg)
              replace YG := Lib.hid (YG.out.on hg)
              replace G := Lib.hid (gb_trans G.out hg)
              have hz := hg.size
              clear hg
              try clear z0 z1
              have z0 := YG.out.cell 0
              have z1 := YG.out.cell 1
              simp only [List.getElem?_cons_zero, List.getElem?_cons_succ] at z0 z1
              go_wp2_with fail
              refine (HH.out _ KM.out).mono ?_
              rintro e W ⟨rfl, hg⟩
              replace KM := Lib.hid (KM.out.on hg)
              replace G := Lib.hid (gb_trans G.out hg)
              have hz := hg.size
              clear hg
              go_wp2_with fail
              go_ret
              exact ⟨rfl, G.out⟩
end fnExactAddEntry
/-! the row's step -/
namespace fnExactAddEntry
set_option maxRecDepth 100000 in
theorem lifted (os : Os) (started : os.Started) (H : Type) (enc : TypeId × Value → H) :
    ReturnsInHanded {} Try.checked os 7 .any (Rows.fnExactAddEntrySpec.pre6 enc Try.prog Try.f7 Rows.fnExactAddEntryRow.domain false) (Rows.fnExactAddEntrySpec.post enc Try.prog Try.f7 false true false false) := by
  refine returnsInHanded_of_change (C := Try.checked) own started (by kernel_rfl) Try.func7
    (ChangeSpec.witness6 (enc := enc) (C := Try.checked) false ⟨#[], #[.agg #[.slice none 0 0, .slice none 0 0], .agg #[.int .i64 0, .int .i64 0, .slice none 0 0, .int .i64 0], .int .i64 0], []⟩ 8 (by kernel_rfl) (by kernel_rfl) (by kernel_rfl) (by kernel_rfl)) ?_
  intro W base args ds gs before hval0 hW hcnd _
  have hval : ∀ (j : Nat) t v, Try.f7.params[j]? = some t → args[j]? = some v → Value.okWide Try.prog W .any base t v := hval0
  have hW' := hW
  obtain ⟨p, q, hA0, hV, rfl, hfz, hnd⟩ := hW
  have hA : DataW.TrodAll enc Try.prog W 0 (fun _ => true) true Try.f7.params.toList args.toList ds p := hA0
  rw [Try.params7] at hA hval
  obtain ⟨v0, vs0, d0, ds0, p0, q0, hargs, rfl, rfl, h0, r0⟩ := trodAll_cons hA
  obtain ⟨v1, vs1, d1, ds1, p1, q1, rfl, rfl, rfl, h1, r1⟩ := trodAll_cons r0
  obtain ⟨v2, vs2, d2, ds2, p2, q2, rfl, rfl, rfl, h2, r2⟩ := trodAll_cons r1
  obtain ⟨rfl, rfl, rfl⟩ := trodAll_nil r2
  obtain rfl : args = #[v0, v1, v2] := by cases args; simp_all
  obtain ⟨rfl, rfl⟩ := trodVars_none hV
  have k0 := h0
  have lt0 : ∀ x ∈ p0, x.block < W.heap.size := by obtain ⟨m, hm⟩ := k0; exact DataW.trod_lt m _ _ _ hm
  obtain ⟨L0, u0, rfl, b0⟩ := history_row (hval 0 49 v0 rfl rfl) h0
  have k1 := h1
  have lt1 : ∀ x ∈ p1, x.block < W.heap.size := by obtain ⟨m, hm⟩ := k1; exact DataW.trod_lt m _ _ _ hm
  obtain ⟨L1, u1, rfl, b1⟩ := entry_row (hval 1 57 v1 rfl rfl) h1
  obtain ⟨a2, rfl, rfl, rfl, w2⟩ := open_int Try.underlying3 (hval 2 3 v2 rfl rfl) h2
  clear hA0 hval0
  refine (walk W L0 u0 L1 u1 a2 b0 b1).mono fun e W' ⟨he, bel0⟩ => ?_
  have bel := gb_below bel0
  subst he
  exact ⟨_, rfl, _, _, _, [], _, [], hW', trodAll_mk1 (shut_bool Try.underlying4 _), (trodAll_cons_mk (Below.trod laidOut (by kernel_rfl) (of_decide_eq_true (by kernel_rfl)) k0 bel lt0) (trodAll_cons_mk (Below.trod laidOut (by kernel_rfl) (of_decide_eq_true (by kernel_rfl)) k1 bel lt1) (trodAll_cons_mk (shut_int Try.underlying3 w2) trodAll_mk0))), rfl, bel.frame _, fun h => by cases h⟩
set_option maxRecDepth 100000 in
theorem over : Rows.fnExactAddEntryRow.holds Try.pinned (OpenSpec.ofChange Rows.fnExactAddEntrySpec) :=
  OpenClaim.holds_of_wide 7 Try.f7 rfl rfl rfl rfl rfl rfl rfl ⟨rfl, rfl, rfl, rfl, rfl⟩ rfl rfl rfl rfl rfl (by kernel_rfl) Try.func7 (by kernel_rfl)
    (of_decide_eq_true (by kernel_rfl)) (by unfold Func.isWrapper; first | (rw [if_pos (by decide +kernel)]; kernel_rfl) | (rw [if_neg (by decide +kernel)]; exact ⟨rfl, rfl⟩))
    (fun os started H enc _ => lifted os started H enc)
theorem proved : Rows.FnExactAddEntrySaid := over
end fnExactAddEntry
end Go.Proofs.Ythoakomccjjhbaa
