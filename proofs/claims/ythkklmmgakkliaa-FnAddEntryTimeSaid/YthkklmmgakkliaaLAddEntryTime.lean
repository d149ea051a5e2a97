/- FnAddEntryTime: times do not fall: proved for every input, with no condition. -/
import Derived.Test.YthkklmmgakkliaaFrame
import Derived.Test.YthkklmmgakkliaaHisK
namespace Go.Proofs.Ythkklmmgakkliaa
open Go.ChangeShapes Go.WideShapes Go.ChangeAt Go.RowKit
set_option linter.unusedVariables false
set_option linter.unusedSimpArgs false
namespace fnAddEntryTime
set_option maxRecDepth 100000 in
set_option maxHeartbeats 2000000 in
theorem walk (w : World) (A : Option Addr) (c : Nat) (bs : List Int) (h2 : bs.length ≤ c) (h3 : ∀ x ∈ bs, 0 ≤ x ∧ x ≤ 255) (h4 : Rd w 0 w.heap.size A (bs.map (.int .u8))) :
    Calls Try.prog 5 #[.slice A bs.length c] w fun e w' => e = .returned (.bool true) ∧ w.grownBy w' none := by
  have H2 := Lib.hid h2
  have H3 := Lib.hid h3
  have H4 := Lib.hid h4
  clear h2 h3 h4
  by_cases hb : bs.length ≤ 1048576
  rotate_left
  · have hb' : (1048576 : Int) < bs.length := by omega
    generalize bs.length = L at *
    go_enter Try.func5, Try.ntmps5
    go_wp2
    go_ret
    exact ⟨rfl, gb_refl _ _⟩
  have hb' : (bs.length : Int) ≤ 1048576 := by omega
  go_enter Try.func5, Try.ntmps5
  go_wp2_with fail
  refine (DrawAddEntry_any w A c bs H2.out hb H3.out H4.out).mono ?_
  rintro e W ⟨h, A1, B1, c1, d1, y, Ay, cy, t, rfl, hf, hs, hu, hyl, hg⟩
  obtain ⟨l, ts⟩ := h
  have HF := Lib.hid hf
  obtain ⟨hlc, hld, hl1, hl2⟩ := hf
  change l.length ≤ c1 at hlc
  change ts.length ≤ d1 at hld
  change l.length ≤ 40 at hl1
  change ts.length ≤ 40 at hl2
  have D0 := Lib.hid (SeesGH.sees hs)
  have G0 := Lib.hid hg
  clear hs hg
  go_wp2_with fail
  refine calls_name (fun V => SeesH V A1 B1 ⟨l, ts⟩ ∧ Row V W.heap.size 30 [.slice A1 l.length c1, .slice B1 ts.length d1] ∧ Row V (W.heap.size + 1) 41 [.int .i64 y.kind, .int .i64 y.item.key, .slice Ay y.item.pos.length cy, .int .i64 y.item.tags] ∧ RdInts .i64 V 0 V.heap.size (.slice Ay y.item.pos.length cy) y.item.pos ∧ w.grownBy V none) ⟨(D0.out.on (World.grownBy_alloc W _ none)).on (World.grownBy_alloc _ _ none), (Row.new W _ rfl).alloc _, (by have := Row.new (W.alloc (.cells #[.slice A1 l.length c1, .slice B1 ts.length d1] 30)) 41 (ca := #[.int .i64 y.kind, .int .i64 y.item.key, .slice Ay y.item.pos.length cy, .int .i64 y.item.tags]) rfl; simpa using this), RdInts.on (RdInts.on hu (World.grownBy_alloc W _ none)) (World.grownBy_alloc _ _ none), gb_alloc (gb_alloc G0.out _) _⟩ ?_
  obtain ⟨hb, hhb⟩ : ∃ hb, hb = W.heap.size := ⟨_, rfl⟩
  rw [← hhb]
  rintro V ⟨hs, hx, he, hu', hg⟩
  have D := Lib.hid hs
  have X := Lib.hid hx
  have N := Lib.hid he
  have U := Lib.hid hu'
  have G := Lib.hid hg
  clear hs hx hg hhb he hu hu'
  obtain ⟨r, hr⟩ : ∃ r, r = M.AddEntry ⟨l, ts⟩ y t := ⟨_, rfl⟩
  have HR := Lib.hid hr
  have hyl' : y.item.pos.length ≤ 1048576 := by omega
  have HI : Hid (∀ W, SeesH W A1 B1 ⟨l, ts⟩ → RdInts .i64 W 0 W.heap.size (.slice Ay y.item.pos.length cy) y.item.pos → Calls Try.prog 19 #[.agg #[.slice A1 l.length c1, .slice B1 ts.length d1], .agg #[.int .i64 y.kind, .int .i64 y.item.key, .slice Ay y.item.pos.length cy, .int .i64 y.item.tags], .int .i64 t] W (GotH W r)) := Lib.hid fun W h u => by rw [hr]; exact ae_impl h hld u hyl'
  have HS : Hid (∀ W, SeesH W A1 B1 ⟨l, ts⟩ → RdInts .i64 W 0 W.heap.size (.slice Ay y.item.pos.length cy) y.item.pos → Calls Try.prog 20 #[.agg #[.slice A1 l.length c1, .slice B1 ts.length d1], .agg #[.int .i64 y.kind, .int .i64 y.item.key, .slice Ay y.item.pos.length cy, .int .i64 y.item.tags], .int .i64 t] W (GotH W r)) := Lib.hid fun W h u => by rw [hr]; exact ae_spec h hld u hyl'
  clear hr D0 G0
  cases r with
  | none =>
    refine ((HI.out _ D.out U.out).mono (fun _ _ => gotH_none)).mono ?_
    rintro e W ⟨A2, c2, B2, d2, rfl, hs, hg⟩
    replace D := Lib.hid (D.out.on hg)
    replace X := Lib.hid (X.out.on hg)
    replace N := Lib.hid (N.out.on hg)
    replace U := Lib.hid (U.out.on hg)
    replace G := Lib.hid (gb_trans G.out hg)
    clear hg
    have F := Lib.hid hs
    clear hs
    try clear q0 q1
    try clear q0 q1
    have q0 := (X.out.alloc (.cells #[.slice A2 0 c2, .slice B2 0 d2] 30)).cell 0
    have q1 := (X.out.alloc (.cells #[.slice A2 0 c2, .slice B2 0 d2] 30)).cell 1
    simp only [List.getElem?_cons_zero, List.getElem?_cons_succ] at q0 q1
    try clear k0 k1 k2 k3
    have k0 := (N.out.alloc (.cells #[.slice A2 0 c2, .slice B2 0 d2] 30)).cell 0
    have k1 := (N.out.alloc (.cells #[.slice A2 0 c2, .slice B2 0 d2] 30)).cell 1
    have k2 := (N.out.alloc (.cells #[.slice A2 0 c2, .slice B2 0 d2] 30)).cell 2
    have k3 := (N.out.alloc (.cells #[.slice A2 0 c2, .slice B2 0 d2] 30)).cell 3
    simp only [List.getElem?_cons_zero, List.getElem?_cons_succ] at k0 k1 k2 k3
    go_wp2_with fail
    refine calls_name (fun V => W.grownBy V none ∧ Row V W.heap.size 30 [.slice A2 0 c2, .slice B2 0 d2]) ⟨World.grownBy_alloc W _ none, Row.new W _ rfl⟩ ?_
    obtain ⟨hy2, hhy2⟩ : ∃ hy2, hy2 = W.heap.size := ⟨_, rfl⟩
    rw [← hhy2]
    rintro W ⟨hg, hy⟩
    have Y := Lib.hid hy
    replace D := Lib.hid (D.out.on hg)
    replace X := Lib.hid (X.out.on hg)
    replace N := Lib.hid (N.out.on hg)
    replace U := Lib.hid (U.out.on hg)
    replace F := Lib.hid (F.out.on hg)
    replace G := Lib.hid (gb_trans G.out hg)
    clear hg hy hhy2
    refine ((HS.out _ D.out U.out).mono (fun _ _ => gotH_none)).mono ?_
    rintro e W ⟨A3, c3, B3, d3, rfl, hs, hg⟩
    replace D := Lib.hid (D.out.on hg)
    replace X := Lib.hid (X.out.on hg)
    replace N := Lib.hid (N.out.on hg)
    replace U := Lib.hid (U.out.on hg)
    replace F := Lib.hid (F.out.on hg)
    replace Y := Lib.hid (Y.out.on hg)
    replace G := Lib.hid (gb_trans G.out hg)
    clear hg
    have F' := Lib.hid hs
    clear hs
    try clear p0 p1
    try clear p0 p1
    have p0 := (Y.out.alloc (.cells #[.slice A3 0 c3, .slice B3 0 d3] 30)).cell 0
    have p1 := (Y.out.alloc (.cells #[.slice A3 0 c3, .slice B3 0 d3] 30)).cell 1
    simp only [List.getElem?_cons_zero, List.getElem?_cons_succ] at p0 p1
    go_wp2_with fail
    refine calls_name (fun V => W.grownBy V none ∧ Row V W.heap.size 30 [.slice A3 0 c3, .slice B3 0 d3]) ⟨World.grownBy_alloc W _ none, Row.new W _ rfl⟩ ?_
    obtain ⟨hy3, hhy3⟩ : ∃ hy3, hy3 = W.heap.size := ⟨_, rfl⟩
    rw [← hhy3]
    rintro W ⟨hg, hy⟩
    have Z := Lib.hid hy
    replace D := Lib.hid (D.out.on hg)
    replace X := Lib.hid (X.out.on hg)
    replace N := Lib.hid (N.out.on hg)
    replace U := Lib.hid (U.out.on hg)
    replace F := Lib.hid (F.out.on hg)
    replace F' := Lib.hid (F'.out.on hg)
    replace Y := Lib.hid (Y.out.on hg)
    replace G := Lib.hid (gb_trans G.out hg)
    clear hg hy hhy3
    refine (eqh_nil F.out F'.out).mono ?_
    rintro e W ⟨rfl, hg⟩
    replace D := Lib.hid (D.out.on hg)
    replace X := Lib.hid (X.out.on hg)
    replace N := Lib.hid (N.out.on hg)
    replace U := Lib.hid (U.out.on hg)
    replace F := Lib.hid (F.out.on hg)
    replace F' := Lib.hid (F'.out.on hg)
    replace Y := Lib.hid (Y.out.on hg)
    replace Z := Lib.hid (Z.out.on hg)
    replace G := Lib.hid (gb_trans G.out hg)
    clear hg
    try clear q0 q1
    have q0 := X.out.cell 0
    have q1 := X.out.cell 1
    simp only [List.getElem?_cons_zero, List.getElem?_cons_succ] at q0 q1
    try clear p0 p1
    have p0 := Y.out.cell 0
    have p1 := Y.out.cell 1
    simp only [List.getElem?_cons_zero, List.getElem?_cons_succ] at p0 p1
    try clear z0 z1
    have z0 := Z.out.cell 0
    have z1 := Z.out.cell 1
    simp only [List.getElem?_cons_zero, List.getElem?_cons_succ] at z0 z1
    go_wp2_with fail
    refine (eqh_nil F.out F'.out).mono ?_
    rintro e W ⟨rfl, hg⟩
    replace D := Lib.hid (D.out.on hg)
    replace G := Lib.hid (gb_trans G.out hg)
    clear hg
    go_wp2_with fail
    go_ret
    exact ⟨rfl, G.out⟩
  | some g9 =>
    obtain ⟨l2, ts2⟩ := g9
    have HI1 := Lib.hid (fun W h u => (HI.out W h u).mono (fun _ _ => gotH_some))
    have HS1 := Lib.hid (fun W h u => (HS.out W h u).mono (fun _ _ => gotH_some))
    clear HI HS
    refine (HI1.out _ D.out U.out).mono ?_
    rintro e W ⟨A2, c2, B2, d2, rfl, hc2, hd2, hs, hg⟩
    replace D := Lib.hid (D.out.on hg)
    replace X := Lib.hid (X.out.on hg)
    replace N := Lib.hid (N.out.on hg)
    replace U := Lib.hid (U.out.on hg)
    replace G := Lib.hid (gb_trans G.out hg)
    clear hg
    have F := Lib.hid hs
    clear hs
    try clear q0 q1
    try clear q0 q1
    have q0 := (X.out.alloc (.cells #[.slice A2 l2.length c2, .slice B2 ts2.length d2] 30)).cell 0
    have q1 := (X.out.alloc (.cells #[.slice A2 l2.length c2, .slice B2 ts2.length d2] 30)).cell 1
    simp only [List.getElem?_cons_zero, List.getElem?_cons_succ] at q0 q1
    try clear k0 k1 k2 k3
    have k0 := (N.out.alloc (.cells #[.slice A2 l2.length c2, .slice B2 ts2.length d2] 30)).cell 0
    have k1 := (N.out.alloc (.cells #[.slice A2 l2.length c2, .slice B2 ts2.length d2] 30)).cell 1
    have k2 := (N.out.alloc (.cells #[.slice A2 l2.length c2, .slice B2 ts2.length d2] 30)).cell 2
    have k3 := (N.out.alloc (.cells #[.slice A2 l2.length c2, .slice B2 ts2.length d2] 30)).cell 3
    simp only [List.getElem?_cons_zero, List.getElem?_cons_succ] at k0 k1 k2 k3
    go_wp2_with fail
    refine calls_name (fun V => W.grownBy V none ∧ Row V W.heap.size 30 [.slice A2 l2.length c2, .slice B2 ts2.length d2]) ⟨World.grownBy_alloc W _ none, Row.new W _ rfl⟩ ?_
    obtain ⟨hy2, hhy2⟩ : ∃ hy2, hy2 = W.heap.size := ⟨_, rfl⟩
    rw [← hhy2]
    rintro W ⟨hg, hy⟩
    have Y := Lib.hid hy
    replace D := Lib.hid (D.out.on hg)
    replace X := Lib.hid (X.out.on hg)
    replace N := Lib.hid (N.out.on hg)
    replace U := Lib.hid (U.out.on hg)
    replace F := Lib.hid (F.out.on hg)
    replace G := Lib.hid (gb_trans G.out hg)
    clear hg hy hhy2
    refine (HS1.out _ D.out U.out).mono ?_
    rintro e W ⟨A3, c3, B3, d3, rfl, hc3, hd3, hs, hg⟩
    replace D := Lib.hid (D.out.on hg)
    replace X := Lib.hid (X.out.on hg)
    replace N := Lib.hid (N.out.on hg)
    replace U := Lib.hid (U.out.on hg)
    replace F := Lib.hid (F.out.on hg)
    replace Y := Lib.hid (Y.out.on hg)
    replace G := Lib.hid (gb_trans G.out hg)
    clear hg
    have F' := Lib.hid hs
    clear hs HI1 HS1
    try clear p0 p1
    try clear p0 p1
    have p0 := (Y.out.alloc (.cells #[.slice A3 l2.length c3, .slice B3 ts2.length d3] 30)).cell 0
    have p1 := (Y.out.alloc (.cells #[.slice A3 l2.length c3, .slice B3 ts2.length d3] 30)).cell 1
    simp only [List.getElem?_cons_zero, List.getElem?_cons_succ] at p0 p1
    go_wp2_with fail
    refine calls_name (fun V => W.grownBy V none ∧ Row V W.heap.size 30 [.slice A3 l2.length c3, .slice B3 ts2.length d3]) ⟨World.grownBy_alloc W _ none, Row.new W _ rfl⟩ ?_
    obtain ⟨hy3, hhy3⟩ : ∃ hy3, hy3 = W.heap.size := ⟨_, rfl⟩
    rw [← hhy3]
    rintro W ⟨hg, hy⟩
    have Z := Lib.hid hy
    replace D := Lib.hid (D.out.on hg)
    replace X := Lib.hid (X.out.on hg)
    replace N := Lib.hid (N.out.on hg)
    replace U := Lib.hid (U.out.on hg)
    replace F := Lib.hid (F.out.on hg)
    replace F' := Lib.hid (F'.out.on hg)
    replace Y := Lib.hid (Y.out.on hg)
    replace G := Lib.hid (gb_trans G.out hg)
    clear hg hy hhy3
    refine (eqh_same F.out F'.out).mono ?_
    rintro e W ⟨rfl, hg⟩
    replace D := Lib.hid (D.out.on hg)
    replace X := Lib.hid (X.out.on hg)
    replace N := Lib.hid (N.out.on hg)
    replace U := Lib.hid (U.out.on hg)
    replace F := Lib.hid (F.out.on hg)
    replace F' := Lib.hid (F'.out.on hg)
    replace Y := Lib.hid (Y.out.on hg)
    replace Z := Lib.hid (Z.out.on hg)
    replace G := Lib.hid (gb_trans G.out hg)
    clear hg
    try clear q0 q1
    have q0 := X.out.cell 0
    have q1 := X.out.cell 1
    simp only [List.getElem?_cons_zero, List.getElem?_cons_succ] at q0 q1
    try clear p0 p1
    have p0 := Y.out.cell 0
    have p1 := Y.out.cell 1
    simp only [List.getElem?_cons_zero, List.getElem?_cons_succ] at p0 p1
    try clear z0 z1
    have z0 := Z.out.cell 0
    have z1 := Z.out.cell 1
    simp only [List.getElem?_cons_zero, List.getElem?_cons_succ] at z0 z1
    by_cases hl0 : ts.length = 0
    · have t0 : ((ts.length : Int) == 0) = true := by rw [hl0]; rfl
      clear hl0
      go_wp2_with fail
      refine (eqh_same F.out F'.out).mono ?_
      rintro e W ⟨rfl, hg⟩
      replace D := Lib.hid (D.out.on hg)
      replace G := Lib.hid (gb_trans G.out hg)
      clear hg
      go_wp2_with fail
      go_ret
      exact ⟨rfl, G.out⟩
    · have t0 : ((ts.length : Int) == 0) = false := by rw [beq_eq_false_iff_ne]; omega
      obtain ⟨k, hk⟩ : ∃ k, ts.length = k + 1 := ⟨ts.length - 1, by omega⟩
      have hkl : k < ts.length := by omega
      obtain ⟨b, o, rfl, _, _, hc⟩ := D.out.2.1.at_ (j := k) (u := .int .i64 ts[k]) (by simp [hkl])
      obtain ⟨e1, e2, e3⟩ := ae_some HR.out.symm
      obtain ⟨v1, v2, v3, v4⟩ := M.validHist_iff.1 e1
      obtain ⟨v5, v6⟩ := M.timesOk_iff.1 v3
      have hmem : ts[k] ∈ ts := List.getElem_mem hkl
      have hle : ∀ x ∈ ts, x ≤ ts[k] := fun x hx => by
        obtain ⟨i, hi, rfl⟩ := List.getElem_of_mem hx
        by_cases hik : i = k
        · subst hik; exact Int.le_refl _
        · exact List.pairwise_iff_getElem.1 v6 i k hi hkl (by omega)
      obtain ⟨b1, b2⟩ := v5 _ hmem
      have hl2 : l2.length = l.length + 1 := by
        have := congrArg (fun h => h.log.length) e3
        simpa [M.addH] using this
      have r1 : M.AddEntry ⟨l, ts⟩ y (ts[k] - 1) = none := by
        unfold M.AddEntry
        rw [if_neg]
        rintro ⟨_, h⟩
        rw [M.add_early ⟨ts[k], hmem, by omega⟩] at h
        cases h
      have r2 : ∃ l4 ts4, M.AddEntry ⟨l, ts⟩ y ts[k] = some ⟨l4, ts4⟩ := by
        unfold M.AddEntry
        rw [if_pos ⟨e1, M.add_late e1 e2 ⟨b1, b2⟩ hle⟩]
        exact ⟨_, _, rfl⟩
      obtain ⟨l4, ts4, r2⟩ := r2
      have kj : ((ts.length : Int) - 1) = (k : Int) := by omega
      have hw : IntKind.i64.wrap ((ts.length : Int) - 1) = (k : Int) := by rw [kj]; exact IntWalk.i64_in _ (by omega)
      have hk1 : (k : Int) < ts.length := by omega
      have hw2 : IntKind.i64.wrap (ts[k] - 1) = ts[k] - 1 := IntWalk.i64_in _ (by omega)
      have tl : ((l2.length : Int) == (l.length : Int) + 1) = true := by rw [beq_iff_eq]; omega
      clear e1 e2 e3 v1 v2 v3 v4 v5 v6 hmem hle b1 b2 hl2 hk kj hl0
      generalize ts[k] = last at *
      have HA : Hid (∀ W, SeesH W A1 (some ⟨b, o, none⟩) ⟨l, ts⟩ → RdInts .i64 W 0 W.heap.size (.slice Ay y.item.pos.length cy) y.item.pos → Calls Try.prog 19 #[.agg #[.slice A1 l.length c1, .slice (some ⟨b, o, none⟩) ts.length d1], .agg #[.int .i64 y.kind, .int .i64 y.item.key, .slice Ay y.item.pos.length cy, .int .i64 y.item.tags], .int .i64 (last - 1)] W (GotN0 W)) := Lib.hid fun W h u => by
        have e := ae_impl (t := last - 1) (c := c1) h hld u hyl'
        rw [r1] at e
        exact e.mono fun _ _ => gotH_none
      have HB : Hid (∀ W, SeesH W A1 (some ⟨b, o, none⟩) ⟨l, ts⟩ → RdInts .i64 W 0 W.heap.size (.slice Ay y.item.pos.length cy) y.item.pos → Calls Try.prog 19 #[.agg #[.slice A1 l.length c1, .slice (some ⟨b, o, none⟩) ts.length d1], .agg #[.int .i64 y.kind, .int .i64 y.item.key, .slice Ay y.item.pos.length cy, .int .i64 y.item.tags], .int .i64 last] W (GotH1 W l4 ts4)) := Lib.hid fun W h u => by
        have e := ae_impl (t := last) (c := c1) h hld u hyl'
        rw [r2] at e
        exact e.mono fun _ _ => gotH_some
      clear r1 r2
      try clear k0 k1 k2 k3
      have k0 := N.out.cell 0
      have k1 := N.out.cell 1
      have k2 := N.out.cell 2
      have k3 := N.out.cell 3
      simp only [List.getElem?_cons_zero, List.getElem?_cons_succ] at k0 k1 k2 k3
      go_wp2_with fail
      refine (HA.out _ D.out U.out).mono ?_
      rintro e W ⟨A4, c4, B4, d4, rfl, hs, hg⟩
      replace D := Lib.hid (D.out.on hg)
      replace X := Lib.hid (X.out.on hg)
      replace N := Lib.hid (N.out.on hg)
      replace U := Lib.hid (U.out.on hg)
      replace Y := Lib.hid (Y.out.on hg)
      replace G := Lib.hid (gb_trans G.out hg)
      clear hg
      clear hs
      try clear q0 q1
      try clear q0 q1
      have q0 := (X.out.alloc (.cells #[.slice A4 0 c4, .slice B4 0 d4] 30)).cell 0
      have q1 := (X.out.alloc (.cells #[.slice A4 0 c4, .slice B4 0 d4] 30)).cell 1
      simp only [List.getElem?_cons_zero, List.getElem?_cons_succ] at q0 q1
      try clear k0 k1 k2 k3
      have k0 := (N.out.alloc (.cells #[.slice A4 0 c4, .slice B4 0 d4] 30)).cell 0
      have k1 := (N.out.alloc (.cells #[.slice A4 0 c4, .slice B4 0 d4] 30)).cell 1
      have k2 := (N.out.alloc (.cells #[.slice A4 0 c4, .slice B4 0 d4] 30)).cell 2
      have k3 := (N.out.alloc (.cells #[.slice A4 0 c4, .slice B4 0 d4] 30)).cell 3
      simp only [List.getElem?_cons_zero, List.getElem?_cons_succ] at k0 k1 k2 k3
      go_wp2_with fail
      refine calls_name (fun V => W.grownBy V none ∧ Row V W.heap.size 30 [.slice A4 0 c4, .slice B4 0 d4]) ⟨World.grownBy_alloc W _ none, Row.new W _ rfl⟩ ?_
      obtain ⟨hy4, hhy4⟩ : ∃ hy4, hy4 = W.heap.size := ⟨_, rfl⟩
      rw [← hhy4]
      rintro W ⟨hg, hy⟩
      have Z4 := Lib.hid hy
      replace D := Lib.hid (D.out.on hg)
      replace X := Lib.hid (X.out.on hg)
      replace N := Lib.hid (N.out.on hg)
      replace U := Lib.hid (U.out.on hg)
      replace Y := Lib.hid (Y.out.on hg)
      replace G := Lib.hid (gb_trans G.out hg)
      clear hg hy hhy4
      refine (HB.out _ D.out U.out).mono ?_
      rintro e W ⟨A5, c5, B5, d5, rfl, hc5, hd5, hs, hg⟩
      replace X := Lib.hid (X.out.on hg)
      replace Y := Lib.hid (Y.out.on hg)
      replace G := Lib.hid (gb_trans G.out hg)
      clear hg
      clear hs
      try clear q0 q1
      try clear q0 q1
      have q0 := (X.out.alloc (.cells #[.slice A5 l4.length c5, .slice B5 ts4.length d5] 30)).cell 0
      have q1 := (X.out.alloc (.cells #[.slice A5 l4.length c5, .slice B5 ts4.length d5] 30)).cell 1
      simp only [List.getElem?_cons_zero, List.getElem?_cons_succ] at q0 q1
      try clear p0 p1
      try clear p0 p1
      have p0 := (Y.out.alloc (.cells #[.slice A5 l4.length c5, .slice B5 ts4.length d5] 30)).cell 0
      have p1 := (Y.out.alloc (.cells #[.slice A5 l4.length c5, .slice B5 ts4.length d5] 30)).cell 1
      simp only [List.getElem?_cons_zero, List.getElem?_cons_succ] at p0 p1
      go_wp2_with fail
      go_ret
      exact ⟨rfl, gb_alloc G.out _⟩
end fnAddEntryTime
/-! the row's step -/
namespace fnAddEntryTime
set_option maxRecDepth 100000 in
theorem lifted (os : Os) (started : os.Started) (H : Type) (enc : TypeId × Value → H) :
    ReturnsInHanded {} Try.checked os 5 .any (Rows.fnAddEntryTimeSpec.pre6 enc Try.prog Try.f5 Rows.fnAddEntryTimeRow.domain false) (Rows.fnAddEntryTimeSpec.post enc Try.prog Try.f5 false true false false) := by
  refine returnsInHanded_of_change (C := Try.checked) own started (by kernel_rfl) Try.func5
    (ChangeSpec.witness6 (enc := enc) (C := Try.checked) false ⟨#[], #[.slice none 0 0], []⟩ 8 (by kernel_rfl) (by kernel_rfl) (by kernel_rfl) (by kernel_rfl)) ?_
  intro W base args ds gs before hval0 hW hcnd _
  have hval : ∀ (j : Nat) t v, Try.f5.params[j]? = some t → args[j]? = some v → Value.okWide Try.prog W .any base t v := hval0
  have hW' := hW
  obtain ⟨p, q, hA0, hV, rfl, hfz, hnd⟩ := hW
  have hA : DataW.TrodAll enc Try.prog W 0 (fun _ => true) true Try.f5.params.toList args.toList ds p := hA0
  rw [Try.params5] at hA hval
  obtain ⟨v0, vs0, d0, ds0, p0, q0, hargs, rfl, rfl, h0, r0⟩ := trodAll_cons hA
  obtain ⟨rfl, rfl, rfl⟩ := trodAll_nil r0
  obtain rfl : args = #[v0] := by cases args; simp_all
  obtain ⟨rfl, rfl⟩ := trodVars_none hV
  obtain ⟨a0, len0, cap0, rfl⟩ := okWide_slice Try.underlying34 (hval 0 34 v0 rfl rfl)
  have k0 := h0
  have lt0 : ∀ x ∈ p0, x.block < W.heap.size := by obtain ⟨m, hm⟩ := k0; exact DataW.trod_lt m _ _ _ hm
  obtain ⟨L0, rfl, b00, b01, b02⟩ := code_row h0
  clear hA0 hval0
  refine (walk W a0 cap0 L0 b00 b01 b02).mono fun e W' ⟨he, bel0⟩ => ?_
  have bel := gb_below bel0
  subst he
  exact ⟨_, rfl, _, _, _, [], _, [], hW', trodAll_mk1 (shut_bool Try.underlying4 _), (trodAll_cons_mk (Below.trod laidOut (by kernel_rfl) (of_decide_eq_true (by kernel_rfl)) k0 bel lt0) trodAll_mk0), rfl, bel.frame _, fun h => by cases h⟩
set_option maxRecDepth 100000 in
theorem over : Rows.fnAddEntryTimeRow.holds Try.pinned (OpenSpec.ofChange Rows.fnAddEntryTimeSpec) :=
  OpenClaim.holds_of_wide 5 Try.f5 rfl rfl rfl rfl rfl rfl rfl ⟨rfl, rfl, rfl, rfl, rfl⟩ rfl rfl rfl rfl rfl (by kernel_rfl) Try.func5 (by kernel_rfl)
    (of_decide_eq_true (by kernel_rfl)) (by unfold Func.isWrapper; first | (rw [if_pos (by decide +kernel)]; kernel_rfl) | (rw [if_neg (by decide +kernel)]; exact ⟨rfl, rfl⟩))
    (fun os started H enc _ => lifted os started H enc)
theorem proved : Rows.FnAddEntryTimeSaid := over
end fnAddEntryTime
end Go.Proofs.Ythkklmmgakkliaa
