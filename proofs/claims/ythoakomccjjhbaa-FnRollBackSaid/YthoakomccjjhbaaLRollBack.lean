/- FnRollBack: rolled back is as before: proved for every input, with no condition. -/
import Derived.Test.YthoakomccjjhbaaFrame
import Derived.Deep.RegionHeld3
import Derived.Test.YthoakomccjjhbaaHisK
namespace Go.Proofs.Ythoakomccjjhbaa
open Go.ChangeShapes Go.WideShapes Go.ChangeAt Go.RowKit
set_option linter.unusedVariables false
set_option linter.unusedSimpArgs false
namespace fnRollBack
set_option maxRecDepth 100000 in
set_option maxHeartbeats 2000000 in
theorem walk (w : World) (A : Option Addr) (c : Nat) (bs : List Int) (h2 : bs.length ≤ c) (h3 : ∀ x ∈ bs, 0 ≤ x ∧ x ≤ 255) (h4 : Rd w 0 w.heap.size A (bs.map (.int .u8))) :
    Calls Try.prog 4 #[.slice A bs.length c] w fun e w' => e = .returned (.bool true) ∧ w.grownBy w' none := by
  have H2 := Lib.hid h2
  have H3 := Lib.hid h3
  have H4 := Lib.hid h4
  clear h2 h3 h4
  by_cases hb : bs.length ≤ 1048576
  rotate_left
  · have hb' : (1048576 : Int) < bs.length := by omega
    generalize bs.length = L at *
    go_enter Try.func4, Try.ntmps4
    go_wp2
    go_ret
    exact ⟨rfl, gb_refl _ _⟩
  have hb' : (bs.length : Int) ≤ 1048576 := by omega
  go_enter Try.func4, Try.ntmps4
  go_wp2_with fail
  refine (DrawRollBack_any w A c bs H2.out hb H3.out H4.out).mono ?_
  rintro e W ⟨h, A1, B1, c1, d1, t, rfl, hf, hs, hg⟩
  obtain ⟨l, ts⟩ := h
  have HF := Lib.hid hf
  obtain ⟨hlc, hld, hl1, hl2⟩ := hf
  change l.length ≤ c1 at hlc
  change ts.length ≤ d1 at hld
  change l.length ≤ 40 at hl1
  change ts.length ≤ 40 at hl2
  have D0 := Lib.hid (SeesGH.sees hs)
  have G0 := Lib.hid hg
  clear hs hg
  go_wp2_with fail
  refine calls_name (fun V => SeesH V A1 B1 ⟨l, ts⟩ ∧ Row V W.heap.size 26 [.slice A1 l.length c1, .slice B1 ts.length d1] ∧ w.grownBy V none ∧ W.grownBy V none) ⟨D0.out.on (World.grownBy_alloc W _ none), Row.new W _ rfl, gb_alloc G0.out _, World.grownBy_alloc W _ none⟩ ?_
  obtain ⟨hb, hhb⟩ : ∃ hb, hb = W.heap.size := ⟨_, rfl⟩
  rw [← hhb]
  rintro V ⟨hs, hx, hg, hv⟩
  have D := Lib.hid hs
  have X := Lib.hid hx
  have G := Lib.hid hg
  have GV := Lib.hid hv
  clear hs hx hg hv hhb
  obtain ⟨r, hr⟩ : ∃ r, r = M.RollBack ⟨l, ts⟩ t := ⟨_, rfl⟩
  have HR := Lib.hid hr
  have HI : Hid (∀ W, SeesH W A1 B1 ⟨l, ts⟩ → Calls Try.prog 21 #[.agg #[.slice A1 l.length c1, .slice B1 ts.length d1], .int .i64 t] W (GotH W r)) := Lib.hid fun W h => by rw [hr]; exact rb_impl h hld
  have HS : Hid (∀ W, SeesH W A1 B1 ⟨l, ts⟩ → Calls Try.prog 22 #[.agg #[.slice A1 l.length c1, .slice B1 ts.length d1], .int .i64 t] W (GotH W r)) := Lib.hid fun W h => by rw [hr]; exact rb_spec h hld
  clear hr D0 G0 GV
  cases r with
  | none =>
    refine ((HI.out _ D.out).mono (fun _ _ => gotH_none)).mono ?_
    rintro e W ⟨A2, c2, B2, d2, rfl, hs, hg⟩
    replace D := Lib.hid (D.out.on hg)
    replace X := Lib.hid (X.out.on hg)
    replace G := Lib.hid (gb_trans G.out hg)
    clear hg
    have F := Lib.hid hs
    clear hs
    try clear q0 q1
    try clear q0 q1
    have q0 := (X.out.alloc (.cells #[.slice A2 0 c2, .slice B2 0 d2] 26)).cell 0
    have q1 := (X.out.alloc (.cells #[.slice A2 0 c2, .slice B2 0 d2] 26)).cell 1
    simp only [List.getElem?_cons_zero, List.getElem?_cons_succ] at q0 q1
    go_wp2_with fail
    refine calls_name (fun V => W.grownBy V none ∧ Row V W.heap.size 26 [.slice A2 0 c2, .slice B2 0 d2]) ⟨World.grownBy_alloc W _ none, Row.new W _ rfl⟩ ?_
    obtain ⟨hy2, hhy2⟩ : ∃ hy2, hy2 = W.heap.size := ⟨_, rfl⟩
    rw [← hhy2]
    rintro W ⟨hg, hy⟩
    have Y := Lib.hid hy
    replace D := Lib.hid (D.out.on hg)
    replace X := Lib.hid (X.out.on hg)
    replace F := Lib.hid (F.out.on hg)
    replace G := Lib.hid (gb_trans G.out hg)
    clear hg hy hhy2
    refine ((HS.out _ D.out).mono (fun _ _ => gotH_none)).mono ?_
    rintro e W ⟨A3, c3, B3, d3, rfl, hs, hg⟩
    replace D := Lib.hid (D.out.on hg)
    replace X := Lib.hid (X.out.on hg)
    replace F := Lib.hid (F.out.on hg)
    replace Y := Lib.hid (Y.out.on hg)
    replace G := Lib.hid (gb_trans G.out hg)
    clear hg
    have F' := Lib.hid hs
    clear hs
    try clear p0 p1
    try clear p0 p1
    have p0 := (Y.out.alloc (.cells #[.slice A3 0 c3, .slice B3 0 d3] 26)).cell 0
    have p1 := (Y.out.alloc (.cells #[.slice A3 0 c3, .slice B3 0 d3] 26)).cell 1
    simp only [List.getElem?_cons_zero, List.getElem?_cons_succ] at p0 p1
    go_wp2_with fail
    refine calls_name (fun V => W.grownBy V none ∧ Row V W.heap.size 26 [.slice A3 0 c3, .slice B3 0 d3]) ⟨World.grownBy_alloc W _ none, Row.new W _ rfl⟩ ?_
    obtain ⟨hy3, hhy3⟩ : ∃ hy3, hy3 = W.heap.size := ⟨_, rfl⟩
    rw [← hhy3]
    rintro W ⟨hg, hy⟩
    have Z := Lib.hid hy
    replace D := Lib.hid (D.out.on hg)
    replace X := Lib.hid (X.out.on hg)
    replace F := Lib.hid (F.out.on hg)
    replace F' := Lib.hid (F'.out.on hg)
    replace Y := Lib.hid (Y.out.on hg)
    replace G := Lib.hid (gb_trans G.out hg)
    clear hg hy hhy3
    refine (eqh_nil F.out F'.out).mono ?_
    rintro e W ⟨rfl, hg⟩
    replace D := Lib.hid (D.out.on hg)
    replace X := Lib.hid (X.out.on hg)
    replace F := Lib.hid (F.out.on hg)
    replace F' := Lib.hid (F'.out.on hg)
    replace Y := Lib.hid (Y.out.on hg)
    replace Z := Lib.hid (Z.out.on hg)
    replace G := Lib.hid (gb_trans G.out hg)
    clear hg
    try clear q0 q1
    have q0 := X.out.cell 0
    have q1 := X.out.cell 1
    simp only [List.getElem?_cons_zero, List.getElem?_cons_succ] at q0 q1
    try clear p0 p1
    have p0 := Y.out.cell 0
    have p1 := Y.out.cell 1
    simp only [List.getElem?_cons_zero, List.getElem?_cons_succ] at p0 p1
    try clear z0 z1
    have z0 := Z.out.cell 0
    have z1 := Z.out.cell 1
    simp only [List.getElem?_cons_zero, List.getElem?_cons_succ] at z0 z1
    go_wp2_with fail
    refine (eqh_nil F.out F'.out).mono ?_
    rintro e W ⟨rfl, hg⟩
    replace D := Lib.hid (D.out.on hg)
    replace G := Lib.hid (gb_trans G.out hg)
    clear hg
    go_wp2_with fail
    go_ret
    exact ⟨rfl, G.out⟩
  | some g9 =>
    obtain ⟨l2, ts2⟩ := g9
    have HI1 := Lib.hid (fun W h => (HI.out W h).mono (fun _ _ => gotH_some))
    have HS1 := Lib.hid (fun W h => (HS.out W h).mono (fun _ _ => gotH_some))
    clear HI HS
    refine (HI1.out _ D.out).mono ?_
    rintro e W ⟨A2, c2, B2, d2, rfl, hc2, hd2, hs, hg⟩
    replace D := Lib.hid (D.out.on hg)
    replace X := Lib.hid (X.out.on hg)
    replace G := Lib.hid (gb_trans G.out hg)
    clear hg
    have F := Lib.hid hs
    clear hs
    try clear q0 q1
    try clear q0 q1
    have q0 := (X.out.alloc (.cells #[.slice A2 l2.length c2, .slice B2 ts2.length d2] 26)).cell 0
    have q1 := (X.out.alloc (.cells #[.slice A2 l2.length c2, .slice B2 ts2.length d2] 26)).cell 1
    simp only [List.getElem?_cons_zero, List.getElem?_cons_succ] at q0 q1
    go_wp2_with fail
    refine calls_name (fun V => W.grownBy V none ∧ Row V W.heap.size 26 [.slice A2 l2.length c2, .slice B2 ts2.length d2]) ⟨World.grownBy_alloc W _ none, Row.new W _ rfl⟩ ?_
    obtain ⟨hy2, hhy2⟩ : ∃ hy2, hy2 = W.heap.size := ⟨_, rfl⟩
    rw [← hhy2]
    rintro W ⟨hg, hy⟩
    have Y := Lib.hid hy
    replace D := Lib.hid (D.out.on hg)
    replace X := Lib.hid (X.out.on hg)
    replace F := Lib.hid (F.out.on hg)
    replace G := Lib.hid (gb_trans G.out hg)
    clear hg hy hhy2
    refine (HS1.out _ D.out).mono ?_
    rintro e W ⟨A3, c3, B3, d3, rfl, hc3, hd3, hs, hg⟩
    replace D := Lib.hid (D.out.on hg)
    replace X := Lib.hid (X.out.on hg)
    replace F := Lib.hid (F.out.on hg)
    replace Y := Lib.hid (Y.out.on hg)
    replace G := Lib.hid (gb_trans G.out hg)
    clear hg
    have F' := Lib.hid hs
    clear hs HI1 HS1
    try clear p0 p1
    try clear p0 p1
    have p0 := (Y.out.alloc (.cells #[.slice A3 l2.length c3, .slice B3 ts2.length d3] 26)).cell 0
    have p1 := (Y.out.alloc (.cells #[.slice A3 l2.length c3, .slice B3 ts2.length d3] 26)).cell 1
    simp only [List.getElem?_cons_zero, List.getElem?_cons_succ] at p0 p1
    go_wp2_with fail
    refine calls_name (fun V => W.grownBy V none ∧ Row V W.heap.size 26 [.slice A3 l2.length c3, .slice B3 ts2.length d3]) ⟨World.grownBy_alloc W _ none, Row.new W _ rfl⟩ ?_
    obtain ⟨hy3, hhy3⟩ : ∃ hy3, hy3 = W.heap.size := ⟨_, rfl⟩
    rw [← hhy3]
    rintro W ⟨hg, hy⟩
    have Z := Lib.hid hy
    replace D := Lib.hid (D.out.on hg)
    replace X := Lib.hid (X.out.on hg)
    replace F := Lib.hid (F.out.on hg)
    replace F' := Lib.hid (F'.out.on hg)
    replace Y := Lib.hid (Y.out.on hg)
    replace G := Lib.hid (gb_trans G.out hg)
    clear hg hy hhy3
    refine (eqh_same F.out F'.out).mono ?_
    rintro e W ⟨rfl, hg⟩
    replace D := Lib.hid (D.out.on hg)
    replace X := Lib.hid (X.out.on hg)
    replace F := Lib.hid (F.out.on hg)
    replace F' := Lib.hid (F'.out.on hg)
    replace Y := Lib.hid (Y.out.on hg)
    replace Z := Lib.hid (Z.out.on hg)
    replace G := Lib.hid (gb_trans G.out hg)
    clear hg
    try clear q0 q1
    have q0 := X.out.cell 0
    have q1 := X.out.cell 1
    simp only [List.getElem?_cons_zero, List.getElem?_cons_succ] at q0 q1
    try clear p0 p1
    have p0 := Y.out.cell 0
    have p1 := Y.out.cell 1
    simp only [List.getElem?_cons_zero, List.getElem?_cons_succ] at p0 p1
    try clear z0 z1
    have z0 := Z.out.cell 0
    have z1 := Z.out.cell 1
    simp only [List.getElem?_cons_zero, List.getElem?_cons_succ] at z0 z1
    obtain ⟨e1, e2, e3, e4⟩ := rb_some HR.out.symm
    obtain ⟨qq, hqq⟩ : ∃ qq, qq = t.tdiv 2 := ⟨_, rfl⟩
    have hq : 0 ≤ qq ∧ qq ≤ t := by
      rw [hqq, Int.tdiv_eq_ediv_of_nonneg e2]; omega
    have i1 : M.inR t 0 1000 = true := by simp [M.inR, e2, e3]
    have i2 : M.inR qq 0 1000 = true := by simp only [M.inR, decide_eq_true_eq]; omega
    have i3 : M.inR 1000 0 1000 = true := by simp [M.inR]
    have vg : M.validHist ⟨l2, ts2⟩ = true := by rw [e4]; exact M.take_valid e1 _
    have sg : ∀ s, M.inR s 0 1000 = true → M.StoreAt ⟨l2, ts2⟩ s = M.storeAt ⟨l, ts⟩ (if t ≤ s then t else s) := fun s hs => by
      unfold M.StoreAt
      rw [if_pos ⟨vg, hs⟩, e4]
      exact M.storeAt_take e1 t s
    have sh : ∀ s, M.inR s 0 1000 = true → M.StoreAt ⟨l, ts⟩ s = M.storeAt ⟨l, ts⟩ s := fun s hs => by
      unfold M.StoreAt
      rw [if_pos ⟨e1, hs⟩]
    obtain ⟨K, hK⟩ : ∃ K, K = M.StoreAt ⟨l, ts⟩ t := ⟨_, rfl⟩
    obtain ⟨K2, hK2⟩ : ∃ K, K = M.StoreAt ⟨l, ts⟩ qq := ⟨_, rfl⟩
    have s1 : M.StoreAt ⟨l2, ts2⟩ t = K := by rw [hK, sg t i1, sh t i1, if_pos (Int.le_refl _)]
    have s2 : M.StoreAt ⟨l2, ts2⟩ 1000 = K := by rw [hK, sg 1000 i3, sh t i1, if_pos e3]
    have s3 : M.StoreAt ⟨l2, ts2⟩ qq = K2 := by
      rw [hK2, sg qq i2, sh qq i2]
      by_cases h9 : t ≤ qq
      · rw [if_pos h9, show t = qq by omega]
      · rw [if_neg h9]
    have HN : Hid (∀ W, SeesH W A1 B1 ⟨l, ts⟩ → Calls Try.prog 16 #[.agg #[.slice A1 l.length c1, .slice B1 ts.length d1], .int .i64 t] W (GotI W K)) := Lib.hid fun W h => by rw [hK]; exact sa_impl h hld
    have HD : Hid (∀ W, SeesH W A1 B1 ⟨l, ts⟩ → Calls Try.prog 16 #[.agg #[.slice A1 l.length c1, .slice B1 ts.length d1], .int .i64 qq] W (GotI W K2)) := Lib.hid fun W h => by rw [hK2]; exact sa_impl h hld
    have HA : Hid (∀ W, SeesH W A2 B2 ⟨l2, ts2⟩ → Calls Try.prog 16 #[.agg #[.slice A2 l2.length c2, .slice B2 ts2.length d2], .int .i64 t] W (GotI W K)) := Lib.hid fun W h => by rw [← s1]; exact sa_impl h hd2
    have HB : Hid (∀ W, SeesH W A2 B2 ⟨l2, ts2⟩ → Calls Try.prog 16 #[.agg #[.slice A2 l2.length c2, .slice B2 ts2.length d2], .int .i64 1000] W (GotI W K)) := Lib.hid fun W h => by rw [← s2]; exact sa_impl h hd2
    have HC : Hid (∀ W, SeesH W A2 B2 ⟨l2, ts2⟩ → Calls Try.prog 16 #[.agg #[.slice A2 l2.length c2, .slice B2 ts2.length d2], .int .i64 qq] W (GotI W K2)) := Lib.hid fun W h => by rw [← s3]; exact sa_impl h hd2
    have HV : Hid (∀ W, SeesH W A2 B2 ⟨l2, ts2⟩ → Calls Try.prog 19 #[.agg #[.slice A2 l2.length c2, .slice B2 ts2.length d2]] W fun e w' => e = .returned (.bool true) ∧ W.grownBy w' none) := Lib.hid fun W h => by
      have e := ValidHistory_impl (c := c2) (d := d2) h
      rw [vg] at e
      exact e
    have hw : IntKind.i64.wrap qq = qq := IntWalk.i64_in _ (by omega)
    have hw2 : IntKind.i64.wrap (t.tdiv 2) = qq := by rw [← hqq]; exact hw
    have hqq' : t.tdiv 2 = qq := hqq.symm
    clear e1 e2 e3 e4 hq i1 i2 i3 vg sg sh hK hK2 s1 s2 s3 hqq
    go_wp2_with fail
    refine (HN.out _ D.out).mono ?_
    rintro e W ⟨A9, c9, rfl, hc9, hs, hg⟩
    replace D := Lib.hid (D.out.on hg)
    replace X := Lib.hid (X.out.on hg)
    replace F := Lib.hid (F.out.on hg)
    replace Y := Lib.hid (Y.out.on hg)
    replace G := Lib.hid (gb_trans G.out hg)
    clear hg
    have P := Lib.hid hs
    clear hs hc9
    try clear q0 q1
    have q0 := X.out.cell 0
    have q1 := X.out.cell 1
    simp only [List.getElem?_cons_zero, List.getElem?_cons_succ] at q0 q1
    try clear p0 p1
    have p0 := Y.out.cell 0
    have p1 := Y.out.cell 1
    simp only [List.getElem?_cons_zero, List.getElem?_cons_succ] at p0 p1
    have HCE : Hid (∀ V, W.grownBy V none → V.cell? ⟨hb, 0, none⟩ = some (.slice A1 l.length c1) ∧ V.cell? ⟨hb, 1, none⟩ = some (.slice B1 ts.length d1) ∧ V.cell? ⟨hy2, 0, none⟩ = some (.slice A2 l2.length c2) ∧ V.cell? ⟨hy2, 1, none⟩ = some (.slice B2 ts2.length d2)) := Lib.hid fun V hV => ⟨hV.cell q0 (by simp), hV.cell q1 (by simp), hV.cell p0 (by simp), hV.cell p1 (by simp)⟩
    go_wp2_with fail
    go_region_held3 (fun V => V.cell? ⟨hb, 0, none⟩ = some (.slice A1 l.length c1) ∧ V.cell? ⟨hb, 1, none⟩ = some (.slice B1 ts.length d1) ∧ V.cell? ⟨hy2, 0, none⟩ = some (.slice A2 l2.length c2) ∧ V.cell? ⟨hy2, 1, none⟩ = some (.slice B2 ts2.length d2))
      (first | exact HCE.out _ S12.out | exact HCE.out _ S11.out | exact HCE.out _ S10.out | exact HCE.out _ S9.out | exact HCE.out _ S8.out | exact HCE.out _ S7.out | exact HCE.out _ S6.out | exact HCE.out _ S5.out | exact HCE.out _ (gb_drew (gb_refl _ _)))
      (first
        | (go_at_call 19; refine (HV.out _ (F.out.on S11.out)).mono ?_; rintro e w12 ⟨rfl, hg⟩; have S12 : Hid (W.grownBy w12 none) := Lib.hid (gb_trans S11.out hg); clear hg)
        | (go_at_call 17; refine (eqi_same (P9.out.on G10.out) P10.out).mono ?_; rintro e w11 ⟨rfl, hg⟩; have S11 : Hid (W.grownBy w11 none) := Lib.hid (gb_trans S10.out hg); clear hg)
        | (go_at_call 16; refine (HD.out _ (D.out.on S9.out)).mono ?_; rintro e w10 ⟨A13, c13, rfl, hc13, hs, hg⟩; have P10 := Lib.hid hs; have G10 := Lib.hid hg; have S10 : Hid (W.grownBy w10 none) := Lib.hid (gb_trans S9.out hg); clear hc13 hs hg)
        | (go_at_call 16; refine (HC.out _ (F.out.on S8.out)).mono ?_; rintro e w9 ⟨A12, c12, rfl, hc12, hs, hg⟩; have P9 := Lib.hid hs; have S9 : Hid (W.grownBy w9 none) := Lib.hid (gb_trans S8.out hg); clear hc12 hs hg)
        | (go_at_call 17; refine (eqi_same P7.out (P.out.on S7.out)).mono ?_; rintro e w8 ⟨rfl, hg⟩; have S8 : Hid (W.grownBy w8 none) := Lib.hid (gb_trans S7.out hg); clear hg)
        | (go_at_call 16; refine (HB.out _ (F.out.on S6.out)).mono ?_; rintro e w7 ⟨A11, c11, rfl, hc11, hs, hg⟩; have P7 := Lib.hid hs; have S7 : Hid (W.grownBy w7 none) := Lib.hid (gb_trans S6.out hg); clear hc11 hs hg)
        | (go_at_call 17; refine (eqi_same P5.out (P.out.on S5.out)).mono ?_; rintro e w6 ⟨rfl, hg⟩; have S6 : Hid (W.grownBy w6 none) := Lib.hid (gb_trans S5.out hg); clear hg)
        | (go_at_call 16; refine (HA.out W.drew (F.out.on (gb_drew (gb_refl _ _)))).mono ?_; rintro e w5 ⟨A10, c10, rfl, hc10, hs, hg⟩; have P5 := Lib.hid hs; have S5 : Hid (W.grownBy w5 none) := Lib.hid (gb_trans (gb_drew (gb_refl W none)) hg); clear hc10 hs hg))
    go_wp2_with fail
    go_ret
    exact ⟨rfl, gb_trans G.out S12.out⟩
end fnRollBack
/-! the row's step -/
namespace fnRollBack
set_option maxRecDepth 100000 in
theorem lifted (os : Os) (started : os.Started) (H : Type) (enc : TypeId × Value → H) :
    ReturnsInHanded {} Try.checked os 4 .any (Rows.fnRollBackSpec.pre6 enc Try.prog Try.f4 Rows.fnRollBackRow.domain false) (Rows.fnRollBackSpec.post enc Try.prog Try.f4 false true false false) := by
  refine returnsInHanded_of_change (C := Try.checked) own started (by kernel_rfl) Try.func4
    (ChangeSpec.witness6 (enc := enc) (C := Try.checked) false ⟨#[], #[.slice none 0 0], []⟩ 8 (by kernel_rfl) (by kernel_rfl) (by kernel_rfl) (by kernel_rfl)) ?_
  intro W base args ds gs before hval0 hW hcnd _
  have hval : ∀ (j : Nat) t v, Try.f4.params[j]? = some t → args[j]? = some v → Value.okWide Try.prog W .any base t v := hval0
  have hW' := hW
  obtain ⟨p, q, hA0, hV, rfl, hfz, hnd⟩ := hW
  have hA : DataW.TrodAll enc Try.prog W 0 (fun _ => true) true Try.f4.params.toList args.toList ds p := hA0
  rw [Try.params4] at hA hval
  obtain ⟨v0, vs0, d0, ds0, p0, q0, hargs, rfl, rfl, h0, r0⟩ := trodAll_cons hA
  obtain ⟨rfl, rfl, rfl⟩ := trodAll_nil r0
  obtain rfl : args = #[v0] := by cases args; simp_all
  obtain ⟨rfl, rfl⟩ := trodVars_none hV
  obtain ⟨a0, len0, cap0, rfl⟩ := okWide_slice Try.underlying22 (hval 0 22 v0 rfl rfl)
  have k0 := h0
  have lt0 : ∀ x ∈ p0, x.block < W.heap.size := by obtain ⟨m, hm⟩ := k0; exact DataW.trod_lt m _ _ _ hm
  obtain ⟨L0, rfl, b00, b01, b02⟩ := code_row h0
  clear hA0 hval0
  refine (walk W a0 cap0 L0 b00 b01 b02).mono fun e W' ⟨he, bel0⟩ => ?_
  have bel := gb_below bel0
  subst he
  exact ⟨_, rfl, _, _, _, [], _, [], hW', trodAll_mk1 (shut_bool Try.underlying4 _), (trodAll_cons_mk (Below.trod laidOut (by kernel_rfl) (of_decide_eq_true (by kernel_rfl)) k0 bel lt0) trodAll_mk0), rfl, bel.frame _, fun h => by cases h⟩
set_option maxRecDepth 100000 in
theorem over : Rows.fnRollBackRow.holds Try.pinned (OpenSpec.ofChange Rows.fnRollBackSpec) :=
  OpenClaim.holds_of_wide 4 Try.f4 rfl rfl rfl rfl rfl rfl rfl ⟨rfl, rfl, rfl, rfl, rfl⟩ rfl rfl rfl rfl rfl (by kernel_rfl) Try.func4 (by kernel_rfl)
    (of_decide_eq_true (by kernel_rfl)) (by unfold Func.isWrapper; first | (rw [if_pos (by decide +kernel)]; kernel_rfl) | (rw [if_neg (by decide +kernel)]; exact ⟨rfl, rfl⟩))
    (fun os started H enc _ => lifted os started H enc)
theorem proved : Rows.FnRollBackSaid := over
end fnRollBack
end Go.Proofs.Ythoakomccjjhbaa
