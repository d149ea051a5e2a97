/- FnRollBackAdd: what is rolled back can be made anew: proved for every input, with no condition. -/
import Derived.Test.YthkklmmgakkliaaFrame
import Derived.Deep.RegionHeld3
import Derived.Test.YthkklmmgakkliaaHisK
namespace Go.Proofs.Ythkklmmgakkliaa
open Go.ChangeShapes Go.WideShapes Go.ChangeAt Go.RowKit
set_option linter.unusedVariables false
set_option linter.unusedSimpArgs false
namespace fnRollBackAdd
set_option maxRecDepth 100000 in
set_option maxHeartbeats 2000000 in
theorem walk (w : World) (A : Option Addr) (c : Nat) (bs : List Int) (h2 : bs.length ≤ c) (h3 : ∀ x ∈ bs, 0 ≤ x ∧ x ≤ 255) (h4 : Rd w 0 w.heap.size A (bs.map (.int .u8))) :
    Calls Try.prog 10 #[.slice A bs.length c] w fun e w' => e = .returned (.bool true) ∧ w.grownBy w' none := by
  have H2 := Lib.hid h2
  have H3 := Lib.hid h3
  have H4 := Lib.hid h4
  clear h2 h3 h4
  by_cases hb : bs.length ≤ 1048576
  rotate_left
  · have hb' : (1048576 : Int) < bs.length := by omega
    generalize bs.length = L at *
    go_enter Try.func10, Try.ntmps10
    go_wp2
    go_ret
    exact ⟨rfl, gb_refl _ _⟩
  have hb' : (bs.length : Int) ≤ 1048576 := by omega
  go_enter Try.func10, Try.ntmps10
  go_wp2_with fail
  refine (DrawRollBack_any w A c bs H2.out hb H3.out H4.out).mono ?_
  rintro e W ⟨h, A1, B1, c1, d1, t, rfl, hf, hs, hg⟩
  obtain ⟨l, ts⟩ := h
  have HF := Lib.hid hf
  obtain ⟨hlc, hld, hl1, hl2⟩ := hf
  change l.length ≤ c1 at hlc
  change ts.length ≤ d1 at hld
  change l.length ≤ 40 at hl1
  change ts.length ≤ 40 at hl2
  have D0 := Lib.hid (SeesGH.sees hs)
  have G0 := Lib.hid hg
  clear hs hg
  go_wp2_with fail
  refine calls_name (fun V => SeesH V A1 B1 ⟨l, ts⟩ ∧ Row V W.heap.size 30 [.slice A1 l.length c1, .slice B1 ts.length d1] ∧ w.grownBy V none ∧ W.grownBy V none) ⟨D0.out.on (World.grownBy_alloc W _ none), Row.new W _ rfl, gb_alloc G0.out _, World.grownBy_alloc W _ none⟩ ?_
  obtain ⟨hb, hhb⟩ : ∃ hb, hb = W.heap.size := ⟨_, rfl⟩
  rw [← hhb]
  rintro V ⟨hs, hx, hg, hv⟩
  have D := Lib.hid hs
  have X := Lib.hid hx
  have G := Lib.hid hg
  have GV := Lib.hid hv
  clear hs hx hg hv hhb
  obtain ⟨r, hr⟩ : ∃ r, r = M.RollBack ⟨l, ts⟩ t := ⟨_, rfl⟩
  have HR := Lib.hid hr
  have HI : Hid (∀ W, SeesH W A1 B1 ⟨l, ts⟩ → Calls Try.prog 22 #[.agg #[.slice A1 l.length c1, .slice B1 ts.length d1], .int .i64 t] W (GotH W r)) := Lib.hid fun W h => by rw [hr]; exact rb_impl h hld
  have HS : Hid (∀ W, SeesH W A1 B1 ⟨l, ts⟩ → Calls Try.prog 24 #[.agg #[.slice A1 l.length c1, .slice B1 ts.length d1], .int .i64 t] W (GotH W r)) := Lib.hid fun W h => by rw [hr]; exact rb_spec h hld
  clear hr D0 G0 GV
  cases r with
  | none =>
    refine ((HI.out _ D.out).mono (fun _ _ => gotH_none)).mono ?_
    rintro e W ⟨A2, c2, B2, d2, rfl, hs, hg⟩
    replace D := Lib.hid (D.out.on hg)
    replace X := Lib.hid (X.out.on hg)
    replace G := Lib.hid (gb_trans G.out hg)
    clear hg
    have F := Lib.hid hs
    clear hs
    try clear q0 q1
    try clear q0 q1
    have q0 := (X.out.alloc (.cells #[.slice A2 0 c2, .slice B2 0 d2] 30)).cell 0
    have q1 := (X.out.alloc (.cells #[.slice A2 0 c2, .slice B2 0 d2] 30)).cell 1
    simp only [List.getElem?_cons_zero, List.getElem?_cons_succ] at q0 q1
    go_wp2_with fail
    refine calls_name (fun V => W.grownBy V none ∧ Row V W.heap.size 30 [.slice A2 0 c2, .slice B2 0 d2]) ⟨World.grownBy_alloc W _ none, Row.new W _ rfl⟩ ?_
    obtain ⟨hy2, hhy2⟩ : ∃ hy2, hy2 = W.heap.size := ⟨_, rfl⟩
    rw [← hhy2]
    rintro W ⟨hg, hy⟩
    have Y := Lib.hid hy
    replace D := Lib.hid (D.out.on hg)
    replace X := Lib.hid (X.out.on hg)
    replace F := Lib.hid (F.out.on hg)
    replace G := Lib.hid (gb_trans G.out hg)
    clear hg hy hhy2
    refine ((HS.out _ D.out).mono (fun _ _ => gotH_none)).mono ?_
    rintro e W ⟨A3, c3, B3, d3, rfl, hs, hg⟩
    replace D := Lib.hid (D.out.on hg)
    replace X := Lib.hid (X.out.on hg)
    replace F := Lib.hid (F.out.on hg)
    replace Y := Lib.hid (Y.out.on hg)
    replace G := Lib.hid (gb_trans G.out hg)
    clear hg
    have F' := Lib.hid hs
    clear hs
    try clear p0 p1
    try clear p0 p1
    have p0 := (Y.out.alloc (.cells #[.slice A3 0 c3, .slice B3 0 d3] 30)).cell 0
    have p1 := (Y.out.alloc (.cells #[.slice A3 0 c3, .slice B3 0 d3] 30)).cell 1
    simp only [List.getElem?_cons_zero, List.getElem?_cons_succ] at p0 p1
    go_wp2_with fail
    refine calls_name (fun V => W.grownBy V none ∧ Row V W.heap.size 30 [.slice A3 0 c3, .slice B3 0 d3]) ⟨World.grownBy_alloc W _ none, Row.new W _ rfl⟩ ?_
    obtain ⟨hy3, hhy3⟩ : ∃ hy3, hy3 = W.heap.size := ⟨_, rfl⟩
    rw [← hhy3]
    rintro W ⟨hg, hy⟩
    have Z := Lib.hid hy
    replace D := Lib.hid (D.out.on hg)
    replace X := Lib.hid (X.out.on hg)
    replace F := Lib.hid (F.out.on hg)
    replace F' := Lib.hid (F'.out.on hg)
    replace Y := Lib.hid (Y.out.on hg)
    replace G := Lib.hid (gb_trans G.out hg)
    clear hg hy hhy3
    refine (eqh_nil F.out F'.out).mono ?_
    rintro e W ⟨rfl, hg⟩
    replace D := Lib.hid (D.out.on hg)
    replace X := Lib.hid (X.out.on hg)
    replace F := Lib.hid (F.out.on hg)
    replace F' := Lib.hid (F'.out.on hg)
    replace Y := Lib.hid (Y.out.on hg)
    replace Z := Lib.hid (Z.out.on hg)
    replace G := Lib.hid (gb_trans G.out hg)
    clear hg
    try clear q0 q1
    have q0 := X.out.cell 0
    have q1 := X.out.cell 1
    simp only [List.getElem?_cons_zero, List.getElem?_cons_succ] at q0 q1
    try clear p0 p1
    have p0 := Y.out.cell 0
    have p1 := Y.out.cell 1
    simp only [List.getElem?_cons_zero, List.getElem?_cons_succ] at p0 p1
    try clear z0 z1
    have z0 := Z.out.cell 0
    have z1 := Z.out.cell 1
    simp only [List.getElem?_cons_zero, List.getElem?_cons_succ] at z0 z1
    go_wp2_with fail
    refine (eqh_nil F.out F'.out).mono ?_
    rintro e W ⟨rfl, hg⟩
    replace D := Lib.hid (D.out.on hg)
    replace G := Lib.hid (gb_trans G.out hg)
    clear hg
    go_wp2_with fail
    go_ret
    exact ⟨rfl, G.out⟩
  | some g9 =>
    obtain ⟨l2, ts2⟩ := g9
    have HI1 := Lib.hid (fun W h => (HI.out W h).mono (fun _ _ => gotH_some))
    have HS1 := Lib.hid (fun W h => (HS.out W h).mono (fun _ _ => gotH_some))
    clear HI HS
    refine (HI1.out _ D.out).mono ?_
    rintro e W ⟨A2, c2, B2, d2, rfl, hc2, hd2, hs, hg⟩
    replace D := Lib.hid (D.out.on hg)
    replace X := Lib.hid (X.out.on hg)
    replace G := Lib.hid (gb_trans G.out hg)
    clear hg
    have F := Lib.hid hs
    clear hs
    try clear q0 q1
    try clear q0 q1
    have q0 := (X.out.alloc (.cells #[.slice A2 l2.length c2, .slice B2 ts2.length d2] 30)).cell 0
    have q1 := (X.out.alloc (.cells #[.slice A2 l2.length c2, .slice B2 ts2.length d2] 30)).cell 1
    simp only [List.getElem?_cons_zero, List.getElem?_cons_succ] at q0 q1
    go_wp2_with fail
    refine calls_name (fun V => W.grownBy V none ∧ Row V W.heap.size 30 [.slice A2 l2.length c2, .slice B2 ts2.length d2] ∧ SeesOff W.heap.size V A1 B1 ⟨l, ts⟩ ∧ SeesOff W.heap.size V A2 B2 ⟨l2, ts2⟩) ⟨World.grownBy_alloc W _ none, Row.new W _ rfl, D.out.low.on (World.grownBy_alloc W _ none), F.out.low.on (World.grownBy_alloc W _ none)⟩ ?_
    have HBY' := X.out.lt
    obtain ⟨hy2, hhy2⟩ : ∃ hy2, hy2 = W.heap.size := ⟨_, rfl⟩
    rw [← hhy2] at HBY' ⊢
    have HBY : Hid (hb < hy2) := Lib.hid HBY'
    have HBG : Hid (w.heap.size ≤ hy2) := Lib.hid (by rw [hhy2]; exact G.out.size)
    rintro W ⟨hg, hy, hdl, hfl⟩
    have Y := Lib.hid hy
    have DO := Lib.hid hdl
    have FO := Lib.hid hfl
    replace D := Lib.hid (D.out.on hg)
    replace X := Lib.hid (X.out.on hg)
    replace F := Lib.hid (F.out.on hg)
    replace G := Lib.hid (gb_trans G.out hg)
    clear hg hy hhy2 hdl hfl HBY'
    obtain ⟨V1, hV1⟩ : ∃ V1, V1 = W := ⟨_, rfl⟩
    have GG : Hid (Grew V1 W) := Lib.hid (hV1 ▸ gb_refl W none)
    rw [← hV1] at DO FO
    clear hV1
    refine (HS1.out _ D.out).mono ?_
    rintro e W ⟨A3, c3, B3, d3, rfl, hc3, hd3, hs, hg⟩
    replace D := Lib.hid (D.out.on hg)
    replace X := Lib.hid (X.out.on hg)
    replace F := Lib.hid (F.out.on hg)
    replace Y := Lib.hid (Y.out.on hg)
    replace GG := Lib.hid (GG.out.on hg)
    replace G := Lib.hid (gb_trans G.out hg)
    clear hg
    have F' := Lib.hid hs
    clear hs HI1 HS1
    try clear p0 p1
    try clear p0 p1
    have p0 := (Y.out.alloc (.cells #[.slice A3 l2.length c3, .slice B3 ts2.length d3] 30)).cell 0
    have p1 := (Y.out.alloc (.cells #[.slice A3 l2.length c3, .slice B3 ts2.length d3] 30)).cell 1
    simp only [List.getElem?_cons_zero, List.getElem?_cons_succ] at p0 p1
    go_wp2_with fail
    refine calls_name (fun V => W.grownBy V none ∧ Row V W.heap.size 30 [.slice A3 l2.length c3, .slice B3 ts2.length d3]) ⟨World.grownBy_alloc W _ none, Row.new W _ rfl⟩ ?_
    obtain ⟨hy3, hhy3⟩ : ∃ hy3, hy3 = W.heap.size := ⟨_, rfl⟩
    rw [← hhy3]
    rintro W ⟨hg, hy⟩
    have Z := Lib.hid hy
    replace D := Lib.hid (D.out.on hg)
    replace X := Lib.hid (X.out.on hg)
    replace F := Lib.hid (F.out.on hg)
    replace F' := Lib.hid (F'.out.on hg)
    replace Y := Lib.hid (Y.out.on hg)
    replace GG := Lib.hid (GG.out.on hg)
    replace G := Lib.hid (gb_trans G.out hg)
    clear hg hy hhy3
    refine (eqh_same F.out F'.out).mono ?_
    rintro e W ⟨rfl, hg⟩
    replace D := Lib.hid (D.out.on hg)
    replace X := Lib.hid (X.out.on hg)
    replace F := Lib.hid (F.out.on hg)
    replace F' := Lib.hid (F'.out.on hg)
    replace Y := Lib.hid (Y.out.on hg)
    replace Z := Lib.hid (Z.out.on hg)
    replace GG := Lib.hid (GG.out.on hg)
    replace G := Lib.hid (gb_trans G.out hg)
    clear hg
    try clear q0 q1
    have q0 := X.out.cell 0
    have q1 := X.out.cell 1
    simp only [List.getElem?_cons_zero, List.getElem?_cons_succ] at q0 q1
    try clear p0 p1
    have p0 := Y.out.cell 0
    have p1 := Y.out.cell 1
    simp only [List.getElem?_cons_zero, List.getElem?_cons_succ] at p0 p1
    try clear z0 z1
    have z0 := Z.out.cell 0
    have z1 := Z.out.cell 1
    simp only [List.getElem?_cons_zero, List.getElem?_cons_succ] at z0 z1
    obtain ⟨e1, e2, e3, e4⟩ := rb_some HR.out.symm
    obtain ⟨f1, f2, f3, f4⟩ := hist_facts e1
    change ts.length = l.length at f1
    obtain ⟨k0, hk0⟩ : ∃ k0, k0 = M.upTo ts t := ⟨_, rfl⟩
    have hkle : k0 ≤ ts.length := by rw [hk0]; exact M.upTo_le _ _
    have e5 : l2 = l.take k0 ∧ ts2 = ts.take k0 := by
      have : (⟨l2, ts2⟩ : M.Hist) = ⟨l.take (M.upTo ts t), ts.take (M.upTo ts t)⟩ := e4
      injection this with a b
      rw [hk0]; exact ⟨a, b⟩
    have e6 : l2.length = k0 := by rw [e5.1, List.length_take]; omega
    have e7 : ts2.length = k0 := by rw [e5.2, List.length_take]; omega
    obtain ⟨n, hn⟩ : ∃ n, n = l.length := ⟨_, rfl⟩
    have hnt : ts.length = n := by omega
    have HVH := Lib.hid e1
    have FO2 : Hid (SeesOff hy2 W A2 B2 ⟨l.take k0, ts.take k0⟩) := Lib.hid (by have := FO.out.on GG.out; rw [e5.1, e5.2] at this; exact this)
    have DO2 := Lib.hid (DO.out.on GG.out)
    rw [e6] at Y p0 hc2
    rw [e7] at Y p1 hd2
    rw [← hn] at X q0 hlc
    rw [hnt] at X q1 hld
    have hkn : k0 ≤ n := by omega
    have HNL := Lib.hid hn
    have HNT := Lib.hid hnt
    rw [← hn, hnt, e6, e7]
    clear e1 e2 e3 e4 f1 f2 f3 f4 hk0 hkle e5 e6 e7 hn hnt D F F' FO DO GG Z HR
    have hn40 : n ≤ 40 := by have := HNL.out; omega
    go_wp2_with fail
    go_loopw [9] (fun i wr => ∃ (k : Nat) (A B : Option Addr) (c d : Nat), k ≤ n ∧ i = .int .i64 k ∧ Row wr hy2 30 [.slice A k c, .slice B k d] ∧ SeesOff hy2 wr A B ⟨l.take k, ts.take k⟩ ∧ k ≤ d ∧ Row wr hb 30 [.slice A1 n c1, .slice B1 n d1] ∧ SeesOff hy2 wr A1 B1 ⟨l, ts⟩ ∧ w.grownBy wr none) (fun i _ => n - (intOf i).toNat)
    case atStart => exact ⟨k0, A2, B2, c2, d2, hkn, rfl, Y.out, FO2.out, hd2, X.out, DO2.out, G.out⟩
    case round =>
      clear Y FO2 X DO2 G hc2 hd2
      obtain ⟨k, Ag, Bg, cg, dg, hkn', rfl, hy, hgo, hkd, hx, hdo, hg⟩ := hrel
      have Y := Lib.hid hy
      have X := Lib.hid hx
      have FO := Lib.hid hgo
      have DO := Lib.hid hdo
      have G := Lib.hid hg
      have HKD := Lib.hid hkd
      clear hy hgo hkd hx hdo hg
      try clear q0 q1
      have q0 := X.out.cell 0
      have q1 := X.out.cell 1
      simp only [List.getElem?_cons_zero, List.getElem?_cons_succ] at q0 q1
      try clear p0 p1
      have p0 := Y.out.cell 0
      have p1 := Y.out.cell 1
      simp only [List.getElem?_cons_zero, List.getElem?_cons_succ] at p0 p1
      by_cases hlt : k < n
      · have hkl : k < l.length := by rw [← HNL.out]; exact hlt
        have hkt : k < ts.length := by rw [HNT.out]; exact hlt
        obtain ⟨b, o, hA, hb1, hb2, hI⟩ := DO.out.sees.1.1.at_ (List.getElem?_eq_getElem hkl)
        subst hA
        obtain ⟨u, a0, a1, a2, a3, hu⟩ := hI
        obtain ⟨Au, cu, rfl, hcu, hru⟩ := hu
        have HU := Lib.hid (show RdInts .i64 wr 0 wr.heap.size (.slice Au l[k].item.pos.length cu) l[k].item.pos from ⟨_, _, rfl, hcu, hru⟩)
        have hpl : l[k].item.pos.length ≤ 1048576 := DO.out.sees.1.2.2 _ (List.getElem_mem hkl)
        obtain ⟨b', o', rfl, _, _, t9⟩ := DO.out.sees.2.1.at_ (j := k) (u := .int .i64 ts[k]) (by simp [hkt])
        have HN := Lib.hid (fun W (D : SeesOff hy2 W Ag Bg ⟨l.take k, ts.take k⟩) (u : RdInts .i64 W 0 W.heap.size (.slice Au l[k].item.pos.length cu) l[k].item.pos) => ae_next (c := cg) HVH.out hkl hkt D HKD.out u hpl)
        have kn : (k : Int) < n := by omega
        have k0' : (0 : Int) ≤ k := by omega
        have HBW := Lib.hid Y.out.lt
        clear hcu hru
        generalize l[k] = y at *
        generalize ts[k] = x at *
        clear hkl hkt
        have HB1 := Lib.hid (World.grownBy_alloc wr (.cells #[.slice none 0 0, .slice none 0 0] 30) none)
        have HCE : Hid (∀ W, wr.grownBy W none → W.cell? ⟨b, o + k * 4, none⟩ = some (.int .i64 y.kind) ∧ W.cell? ⟨b, o + k * 4 + 1, none⟩ = some (.int .i64 y.item.key) ∧ W.cell? ⟨b, o + k * 4 + 2, none⟩ = some (.slice Au y.item.pos.length cu) ∧ W.cell? ⟨b, o + k * 4 + 3, none⟩ = some (.int .i64 y.item.tags) ∧ W.cell? ⟨b', o' + k, none⟩ = some (.int .i64 x) ∧ W.cell? ⟨hy2, 0, none⟩ = some (.slice Ag k cg) ∧ W.cell? ⟨hy2, 1, none⟩ = some (.slice Bg k dg) ∧ W.cell? ⟨hb, 0, none⟩ = some (.slice (some ⟨b, o, none⟩) n c1) ∧ W.cell? ⟨hb, 1, none⟩ = some (.slice (some ⟨b', o', none⟩) n d1)) := Lib.hid fun W hW => ⟨hW.cell a0 (by simp), hW.cell a1 (by simp), hW.cell a2 (by simp), hW.cell a3 (by simp), hW.cell t9 (by simp), hW.cell p0 (by simp), hW.cell p1 (by simp), hW.cell q0 (by simp), hW.cell q1 (by simp)⟩
        go_wp2_with fail
        go_region_held3 (fun W => W.cell? ⟨b, o + k * 4, none⟩ = some (.int .i64 y.kind) ∧ W.cell? ⟨b, o + k * 4 + 1, none⟩ = some (.int .i64 y.item.key) ∧ W.cell? ⟨b, o + k * 4 + 2, none⟩ = some (.slice Au y.item.pos.length cu) ∧ W.cell? ⟨b, o + k * 4 + 3, none⟩ = some (.int .i64 y.item.tags) ∧ W.cell? ⟨b', o' + k, none⟩ = some (.int .i64 x) ∧ W.cell? ⟨hy2, 0, none⟩ = some (.slice Ag k cg) ∧ W.cell? ⟨hy2, 1, none⟩ = some (.slice Bg k dg) ∧ W.cell? ⟨hb, 0, none⟩ = some (.slice (some ⟨b, o, none⟩) n c1) ∧ W.cell? ⟨hb, 1, none⟩ = some (.slice (some ⟨b', o', none⟩) n d1))
          (first | exact HCE.out _ (gb_drew (gb_refl _ _)) | exact HCE.out _ (gb_drew HB1.out) | exact HCE.out _ HB1.out | exact HCE.out _ S3.out | exact HCE.out _ (gb_alloc S3.out _) | exact HCE.out _ (gb_setCell S3.out (.inl (Nat.le_refl _)) _) | exact HCE.out _ (gb_setCell (gb_setCell S3.out (.inl (Nat.le_refl _)) _) (.inl (Nat.le_refl _)) _) | go_keep)
          (first | (go_at_call 19; refine Calls.mono (HN.out wr.drew (FO.out.on (gb_drew (gb_refl _ none))) (HU.out.on (gb_drew (gb_refl _ none)))) ?_; rintro e w3 ⟨A', c', B', d', rfl, hd', hs', hg'⟩; have S3 : Hid (wr.grownBy w3 none) := Lib.hid (gb_trans (gb_drew (gb_refl wr none)) hg'); have F3 := Lib.hid (show SeesFrom wr.heap.size w3 A' B' ⟨l.take (k + 1), ts.take (k + 1)⟩ from hs'); have HD3 := Lib.hid hd'; have X3 := Lib.hid (X.out.on S3.out); have Y3 := Lib.hid (Y.out.on S3.out); have c0 := Y3.out.cell 0; have c1 := Y3.out.cell 1; have f0 := Y3.out.frozen 0; have f1 := Y3.out.frozen 1; have f0a := (Y3.out.alloc (.cells #[.slice A' (k + 1) c', .slice B' (k + 1) d'] 30)).frozen 0; have f1a := (Y3.out.alloc (.cells #[.slice A' (k + 1) c', .slice B' (k + 1) d'] 30)).frozen 1; simp only [List.getElem?_cons_zero, List.getElem?_cons_succ] at c0 c1; clear hd' hs' hg') | (go_at_call 19; refine Calls.mono (HN.out (wr.alloc (.cells #[.slice none 0 0, .slice none 0 0] 30)).drew (FO.out.on (gb_drew HB1.out)) (HU.out.on (gb_drew HB1.out))) ?_; rintro e w3 ⟨A', c', B', d', rfl, hd', hs', hg'⟩; have S3 : Hid (wr.grownBy w3 none) := Lib.hid (gb_trans (gb_drew HB1.out) hg'); have F3' := Lib.hid (show SeesFrom (wr.alloc (.cells #[.slice none 0 0, .slice none 0 0] 30)).heap.size w3 A' B' ⟨l.take (k + 1), ts.take (k + 1)⟩ from hs'); have HD3 := Lib.hid hd'; have X3 := Lib.hid (X.out.on S3.out); have Y3 := Lib.hid (Y.out.on S3.out); have N3 := Lib.hid ((Row.new wr 30 (ca := #[.slice none 0 0, .slice none 0 0]) rfl).on (gb_trans (gb_drew (gb_refl _ none)) hg')); have c0 := Y3.out.cell 0; have c1 := Y3.out.cell 1; have f0 := Y3.out.frozen 0; have f1 := Y3.out.frozen 1; have n0 := N3.out.cell 0; have n1 := N3.out.cell 1; have nf0 := N3.out.frozen 0; have nf1 := N3.out.frozen 1; have hne : hy2 < wr.heap.size := HBW.out; simp only [List.getElem?_cons_zero, List.getElem?_cons_succ] at c0 c1 n0 n1; clear hd' hs' hg'))
        all_goals
          go_wp2_with fail
          go_roundw
          case rel =>
            have hk1 : k + 1 ≤ n := by omega
            have hne' : hb ≠ hy2 := by have := HBY.out; omega
            first
              | (have FA := F3.out
                 have GA := World.grownBy_alloc w3 (.cells #[.slice A' (k + 1) c', .slice B' (k + 1) d'] 30) none
                 have z1 := ((Y3.out.alloc (.cells #[.slice A' (k + 1) c', .slice B' (k + 1) d'] 30)).set_ 0 (.slice A' (k + 1) c')).set_ 1 (.slice B' (k + 1) d')
                 have z2 := (((FA.on GA).off HBW.out).set_ (i := 0) (.slice A' (k + 1) c')).set_ (i := 1) (.slice B' (k + 1) d')
                 have z3 := ((X3.out.alloc (.cells #[.slice A' (k + 1) c', .slice B' (k + 1) d'] 30)).far (p := ⟨hy2, 0, none⟩) hne' (.slice A' (k + 1) c')).far (p := ⟨hy2, 1, none⟩) hne' (.slice B' (k + 1) d')
                 have z4 := (((DO.out.on S3.out).on GA).set_ (i := 0) (.slice A' (k + 1) c')).set_ (i := 1) (.slice B' (k + 1) d')
                 have z5 := gb_setCell (p := ⟨hy2, 1, none⟩) (gb_setCell (p := ⟨hy2, 0, none⟩) (gb_trans (gb_trans G.out S3.out) GA) (.inl HBG.out) (.slice A' (k + 1) c')) (.inl HBG.out) (.slice B' (k + 1) d')
                 exact ⟨k + 1, A', B', c', d', hk1, by go_num, z1, z2, HD3.out, z3, z4, z5⟩)
              | (have FB := F3'.out
                 have S4 : wr.grownBy ((w3.setCell ⟨wr.heap.size, 0, none⟩ (.slice A' (k + 1) c')).setCell ⟨wr.heap.size, 1, none⟩ (.slice B' (k + 1) d')) none := gb_setCell (gb_setCell S3.out (.inl (Nat.le_refl _)) _) (.inl (Nat.le_refl _)) _
                 have hlo : wr.heap.size < (wr.alloc (.cells #[.slice none 0 0, .slice none 0 0] 30)).heap.size := by simp
                 have z1 := ((Y.out.on S4).set_ 0 (.slice A' (k + 1) c')).set_ 1 (.slice B' (k + 1) d')
                 have z2 := ((((FB.set_ (p := ⟨wr.heap.size, 0, none⟩) hlo (.slice A' (k + 1) c')).set_ (p := ⟨wr.heap.size, 1, none⟩) hlo (.slice B' (k + 1) d')).off (Nat.lt_trans HBW.out hlo)).set_ (i := 0) (.slice A' (k + 1) c')).set_ (i := 1) (.slice B' (k + 1) d')
                 have z3 := ((X.out.on S4).far (p := ⟨hy2, 0, none⟩) hne' (.slice A' (k + 1) c')).far (p := ⟨hy2, 1, none⟩) hne' (.slice B' (k + 1) d')
                 have z4 := ((DO.out.on S4).set_ (i := 0) (.slice A' (k + 1) c')).set_ (i := 1) (.slice B' (k + 1) d')
                 have z5 := gb_setCell (p := ⟨hy2, 1, none⟩) (gb_setCell (p := ⟨hy2, 0, none⟩) (gb_trans G.out S4) (.inl HBG.out) (.slice A' (k + 1) c')) (.inl HBG.out) (.slice B' (k + 1) d')
                 exact ⟨k + 1, A', B', c', d', hk1, by go_num, z1, z2, HD3.out, z3, z4, z5⟩)
          case measure => simp [intOf]; omega
      · obtain rfl : k = n := by omega
        have HE : Hid (∀ W, SeesH W Ag Bg ⟨l, ts⟩ → SeesH W A1 B1 ⟨l, ts⟩ → Calls Try.prog 21 #[.agg #[.slice Ag k cg, .slice Bg k dg], .agg #[.slice A1 k c1, .slice B1 k d1]] W fun e w' => e = .returned (.bool true) ∧ W.grownBy w' none) := Lib.hid fun W a b => by
          have e := eqh_same (c := cg) (d := dg) (c' := c1) (d' := d1) a b
          simp only [HNT.out, ← HNL.out] at e
          exact e
        have FH : Hid (SeesH wr Ag Bg ⟨l, ts⟩) := Lib.hid (by
          have := FO.out.sees
          rwa [List.take_of_length_le (by rw [← HNL.out]; exact Nat.le_refl _), List.take_of_length_le (by rw [HNT.out]; exact Nat.le_refl _)] at this)
        go_wp2_with fail
        refine (HE.out _ FH.out DO.out.sees).mono ?_
        rintro e w3 ⟨rfl, hg⟩
        have G3 := Lib.hid (gb_trans G.out hg)
        clear hg
        go_wp2_with fail
        go_ret
        exact ⟨rfl, G3.out⟩
end fnRollBackAdd
/-! the row's step -/
namespace fnRollBackAdd
set_option maxRecDepth 100000 in
theorem lifted (os : Os) (started : os.Started) (H : Type) (enc : TypeId × Value → H) :
    ReturnsInHanded {} Try.checked os 10 .any (Rows.fnRollBackAddSpec.pre6 enc Try.prog Try.f10 Rows.fnRollBackAddRow.domain false) (Rows.fnRollBackAddSpec.post enc Try.prog Try.f10 false true false false) := by
  refine returnsInHanded_of_change (C := Try.checked) own started (by kernel_rfl) Try.func10
    (ChangeSpec.witness6 (enc := enc) (C := Try.checked) false ⟨#[], #[.slice none 0 0], []⟩ 8 (by kernel_rfl) (by kernel_rfl) (by kernel_rfl) (by kernel_rfl)) ?_
  intro W base args ds gs before hval0 hW hcnd _
  have hval : ∀ (j : Nat) t v, Try.f10.params[j]? = some t → args[j]? = some v → Value.okWide Try.prog W .any base t v := hval0
  have hW' := hW
  obtain ⟨p, q, hA0, hV, rfl, hfz, hnd⟩ := hW
  have hA : DataW.TrodAll enc Try.prog W 0 (fun _ => true) true Try.f10.params.toList args.toList ds p := hA0
  rw [Try.params10] at hA hval
  obtain ⟨v0, vs0, d0, ds0, p0, q0, hargs, rfl, rfl, h0, r0⟩ := trodAll_cons hA
  obtain ⟨rfl, rfl, rfl⟩ := trodAll_nil r0
  obtain rfl : args = #[v0] := by cases args; simp_all
  obtain ⟨rfl, rfl⟩ := trodVars_none hV
  obtain ⟨a0, len0, cap0, rfl⟩ := okWide_slice Try.underlying34 (hval 0 34 v0 rfl rfl)
  have k0 := h0
  have lt0 : ∀ x ∈ p0, x.block < W.heap.size := by obtain ⟨m, hm⟩ := k0; exact DataW.trod_lt m _ _ _ hm
  obtain ⟨L0, rfl, b00, b01, b02⟩ := code_row h0
  clear hA0 hval0
  refine (walk W a0 cap0 L0 b00 b01 b02).mono fun e W' ⟨he, bel0⟩ => ?_
  have bel := gb_below bel0
  subst he
  exact ⟨_, rfl, _, _, _, [], _, [], hW', trodAll_mk1 (shut_bool Try.underlying4 _), (trodAll_cons_mk (Below.trod laidOut (by kernel_rfl) (of_decide_eq_true (by kernel_rfl)) k0 bel lt0) trodAll_mk0), rfl, bel.frame _, fun h => by cases h⟩
set_option maxRecDepth 100000 in
theorem over : Rows.fnRollBackAddRow.holds Try.pinned (OpenSpec.ofChange Rows.fnRollBackAddSpec) :=
  OpenClaim.holds_of_wide 10 Try.f10 rfl rfl rfl rfl rfl rfl rfl ⟨rfl, rfl, rfl, rfl, rfl⟩ rfl rfl rfl rfl rfl (by kernel_rfl) Try.func10 (by kernel_rfl)
    (of_decide_eq_true (by kernel_rfl)) (by unfold Func.isWrapper; first | (rw [if_pos (by decide +kernel)]; kernel_rfl) | (rw [if_neg (by decide +kernel)]; exact ⟨rfl, rfl⟩))
    (fun os started H enc _ => lifted os started H enc)
theorem proved : Rows.FnRollBackAddSaid := over
end fnRollBackAdd
end Go.Proofs.Ythkklmmgakkliaa
