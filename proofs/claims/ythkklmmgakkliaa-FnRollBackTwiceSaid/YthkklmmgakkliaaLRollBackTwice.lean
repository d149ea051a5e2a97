/- FnRollBackTwice: rolling back twice is rolling back once: proved for every input, with no condition. -/
import Derived.Test.YthkklmmgakkliaaFrame
import Derived.Test.YthkklmmgakkliaaHisK
namespace Go.Proofs.Ythkklmmgakkliaa
open Go.ChangeShapes Go.WideShapes Go.ChangeAt Go.RowKit
set_option linter.unusedVariables false
set_option linter.unusedSimpArgs false
namespace fnRollBackTwice
set_option maxRecDepth 100000 in
set_option maxHeartbeats 2000000 in
theorem walk (w : World) (A : Option Addr) (c : Nat) (bs : List Int) (h2 : bs.length ≤ c) (h3 : ∀ x ∈ bs, 0 ≤ x ∧ x ≤ 255) (h4 : Rd w 0 w.heap.size A (bs.map (.int .u8))) :
    Calls Try.prog 7 #[.slice A bs.length c] w fun e w' => e = .returned (.bool true) ∧ w.grownBy w' none := by
  have H2 := Lib.hid h2
  have H3 := Lib.hid h3
  have H4 := Lib.hid h4
  clear h2 h3 h4
  by_cases hb : bs.length ≤ 1048576
  rotate_left
  · have hb' : (1048576 : Int) < bs.length := by omega
    generalize bs.length = L at *
    go_enter Try.func7, Try.ntmps7
    go_wp2
    go_ret
    exact ⟨rfl, gb_refl _ _⟩
  have hb' : (bs.length : Int) ≤ 1048576 := by omega
  go_enter Try.func7, Try.ntmps7
  go_wp2_with fail
  refine (DrawRollBack_any w A c bs H2.out hb H3.out H4.out).mono ?_
  rintro e W ⟨h, A1, B1, c1, d1, t, rfl, hf, hs, hg⟩
  obtain ⟨l, ts⟩ := h
  have HF := Lib.hid hf
  obtain ⟨hlc, hld, hl1, hl2⟩ := hf
  change l.length ≤ c1 at hlc
  change ts.length ≤ d1 at hld
  change l.length ≤ 40 at hl1
  change ts.length ≤ 40 at hl2
  have D0 := Lib.hid (SeesGH.sees hs)
  have G0 := Lib.hid hg
  clear hs hg
  go_wp2_with fail
  refine calls_name (fun V => SeesH V A1 B1 ⟨l, ts⟩ ∧ Row V W.heap.size 30 [.slice A1 l.length c1, .slice B1 ts.length d1] ∧ w.grownBy V none ∧ W.grownBy V none) ⟨D0.out.on (World.grownBy_alloc W _ none), Row.new W _ rfl, gb_alloc G0.out _, World.grownBy_alloc W _ none⟩ ?_
  obtain ⟨hb, hhb⟩ : ∃ hb, hb = W.heap.size := ⟨_, rfl⟩
  rw [← hhb]
  rintro V ⟨hs, hx, hg, hv⟩
  have D := Lib.hid hs
  have X := Lib.hid hx
  have G := Lib.hid hg
  have GV := Lib.hid hv
  clear hs hx hg hv hhb
  obtain ⟨r, hr⟩ : ∃ r, r = M.RollBack ⟨l, ts⟩ t := ⟨_, rfl⟩
  have HR := Lib.hid hr
  have HI : Hid (∀ W, SeesH W A1 B1 ⟨l, ts⟩ → Calls Try.prog 22 #[.agg #[.slice A1 l.length c1, .slice B1 ts.length d1], .int .i64 t] W (GotH W r)) := Lib.hid fun W h => by rw [hr]; exact rb_impl h hld
  have HS : Hid (∀ W, SeesH W A1 B1 ⟨l, ts⟩ → Calls Try.prog 24 #[.agg #[.slice A1 l.length c1, .slice B1 ts.length d1], .int .i64 t] W (GotH W r)) := Lib.hid fun W h => by rw [hr]; exact rb_spec h hld
  clear hr D0 G0 GV
  cases r with
  | none =>
    refine ((HI.out _ D.out).mono (fun _ _ => gotH_none)).mono ?_
    rintro e W ⟨A2, c2, B2, d2, rfl, hs, hg⟩
    replace D := Lib.hid (D.out.on hg)
    replace X := Lib.hid (X.out.on hg)
    replace G := Lib.hid (gb_trans G.out hg)
    clear hg
    have F := Lib.hid hs
    clear hs
    try clear q0 q1
    try clear q0 q1
    have q0 := (X.out.alloc (.cells #[.slice A2 0 c2, .slice B2 0 d2] 30)).cell 0
    have q1 := (X.out.alloc (.cells #[.slice A2 0 c2, .slice B2 0 d2] 30)).cell 1
    simp only [List.getElem?_cons_zero, List.getElem?_cons_succ] at q0 q1
    go_wp2_with fail
    refine calls_name (fun V => W.grownBy V none ∧ Row V W.heap.size 30 [.slice A2 0 c2, .slice B2 0 d2]) ⟨World.grownBy_alloc W _ none, Row.new W _ rfl⟩ ?_
    obtain ⟨hy2, hhy2⟩ : ∃ hy2, hy2 = W.heap.size := ⟨_, rfl⟩
    rw [← hhy2]
    rintro W ⟨hg, hy⟩
    have Y := Lib.hid hy
    replace D := Lib.hid (D.out.on hg)
    replace X := Lib.hid (X.out.on hg)
    replace F := Lib.hid (F.out.on hg)
    replace G := Lib.hid (gb_trans G.out hg)
    clear hg hy hhy2
    refine ((HS.out _ D.out).mono (fun _ _ => gotH_none)).mono ?_
    rintro e W ⟨A3, c3, B3, d3, rfl, hs, hg⟩
    replace D := Lib.hid (D.out.on hg)
    replace X := Lib.hid (X.out.on hg)
    replace F := Lib.hid (F.out.on hg)
    replace Y := Lib.hid (Y.out.on hg)
    replace G := Lib.hid (gb_trans G.out hg)
    clear hg
    have F' := Lib.hid hs
    clear hs
    try clear p0 p1
    try clear p0 p1
    have p0 := (Y.out.alloc (.cells #[.slice A3 0 c3, .slice B3 0 d3] 30)).cell 0
    have p1 := (Y.out.alloc (.cells #[.slice A3 0 c3, .slice B3 0 d3] 30)).cell 1
    simp only [List.getElem?_cons_zero, List.getElem?_cons_succ] at p0 p1
    go_wp2_with fail
    refine calls_name (fun V => W.grownBy V none ∧ Row V W.heap.size 30 [.slice A3 0 c3, .slice B3 0 d3]) ⟨World.grownBy_alloc W _ none, Row.new W _ rfl⟩ ?_
    obtain ⟨hy3, hhy3⟩ : ∃ hy3, hy3 = W.heap.size := ⟨_, rfl⟩
    rw [← hhy3]
    rintro W ⟨hg, hy⟩
    have Z := Lib.hid hy
    replace D := Lib.hid (D.out.on hg)
    replace X := Lib.hid (X.out.on hg)
    replace F := Lib.hid (F.out.on hg)
    replace F' := Lib.hid (F'.out.on hg)
    replace Y := Lib.hid (Y.out.on hg)
    replace G := Lib.hid (gb_trans G.out hg)
    clear hg hy hhy3
    refine (eqh_nil F.out F'.out).mono ?_
    rintro e W ⟨rfl, hg⟩
    replace D := Lib.hid (D.out.on hg)
    replace X := Lib.hid (X.out.on hg)
    replace F := Lib.hid (F.out.on hg)
    replace F' := Lib.hid (F'.out.on hg)
    replace Y := Lib.hid (Y.out.on hg)
    replace Z := Lib.hid (Z.out.on hg)
    replace G := Lib.hid (gb_trans G.out hg)
    clear hg
    try clear q0 q1
    have q0 := X.out.cell 0
    have q1 := X.out.cell 1
    simp only [List.getElem?_cons_zero, List.getElem?_cons_succ] at q0 q1
    try clear p0 p1
    have p0 := Y.out.cell 0
    have p1 := Y.out.cell 1
    simp only [List.getElem?_cons_zero, List.getElem?_cons_succ] at p0 p1
    try clear z0 z1
    have z0 := Z.out.cell 0
    have z1 := Z.out.cell 1
    simp only [List.getElem?_cons_zero, List.getElem?_cons_succ] at z0 z1
    go_wp2_with fail
    refine (eqh_nil F.out F'.out).mono ?_
    rintro e W ⟨rfl, hg⟩
    replace D := Lib.hid (D.out.on hg)
    replace G := Lib.hid (gb_trans G.out hg)
    clear hg
    go_wp2_with fail
    go_ret
    exact ⟨rfl, G.out⟩
  | some g9 =>
    obtain ⟨l2, ts2⟩ := g9
    have HI1 := Lib.hid (fun W h => (HI.out W h).mono (fun _ _ => gotH_some))
    have HS1 := Lib.hid (fun W h => (HS.out W h).mono (fun _ _ => gotH_some))
    clear HI HS
    refine (HI1.out _ D.out).mono ?_
    rintro e W ⟨A2, c2, B2, d2, rfl, hc2, hd2, hs, hg⟩
    replace D := Lib.hid (D.out.on hg)
    replace X := Lib.hid (X.out.on hg)
    replace G := Lib.hid (gb_trans G.out hg)
    clear hg
    have F := Lib.hid hs
    clear hs
    try clear q0 q1
    try clear q0 q1
    have q0 := (X.out.alloc (.cells #[.slice A2 l2.length c2, .slice B2 ts2.length d2] 30)).cell 0
    have q1 := (X.out.alloc (.cells #[.slice A2 l2.length c2, .slice B2 ts2.length d2] 30)).cell 1
    simp only [List.getElem?_cons_zero, List.getElem?_cons_succ] at q0 q1
    go_wp2_with fail
    refine calls_name (fun V => W.grownBy V none ∧ Row V W.heap.size 30 [.slice A2 l2.length c2, .slice B2 ts2.length d2]) ⟨World.grownBy_alloc W _ none, Row.new W _ rfl⟩ ?_
    obtain ⟨hy2, hhy2⟩ : ∃ hy2, hy2 = W.heap.size := ⟨_, rfl⟩
    rw [← hhy2]
    rintro W ⟨hg, hy⟩
    have Y := Lib.hid hy
    replace D := Lib.hid (D.out.on hg)
    replace X := Lib.hid (X.out.on hg)
    replace F := Lib.hid (F.out.on hg)
    replace G := Lib.hid (gb_trans G.out hg)
    clear hg hy hhy2
    refine (HS1.out _ D.out).mono ?_
    rintro e W ⟨A3, c3, B3, d3, rfl, hc3, hd3, hs, hg⟩
    replace D := Lib.hid (D.out.on hg)
    replace X := Lib.hid (X.out.on hg)
    replace F := Lib.hid (F.out.on hg)
    replace Y := Lib.hid (Y.out.on hg)
    replace G := Lib.hid (gb_trans G.out hg)
    clear hg
    have F' := Lib.hid hs
    clear hs HI1 HS1
    try clear p0 p1
    try clear p0 p1
    have p0 := (Y.out.alloc (.cells #[.slice A3 l2.length c3, .slice B3 ts2.length d3] 30)).cell 0
    have p1 := (Y.out.alloc (.cells #[.slice A3 l2.length c3, .slice B3 ts2.length d3] 30)).cell 1
    simp only [List.getElem?_cons_zero, List.getElem?_cons_succ] at p0 p1
    go_wp2_with fail
    refine calls_name (fun V => W.grownBy V none ∧ Row V W.heap.size 30 [.slice A3 l2.length c3, .slice B3 ts2.length d3]) ⟨World.grownBy_alloc W _ none, Row.new W _ rfl⟩ ?_
    obtain ⟨hy3, hhy3⟩ : ∃ hy3, hy3 = W.heap.size := ⟨_, rfl⟩
    rw [← hhy3]
    rintro W ⟨hg, hy⟩
    have Z := Lib.hid hy
    replace D := Lib.hid (D.out.on hg)
    replace X := Lib.hid (X.out.on hg)
    replace F := Lib.hid (F.out.on hg)
    replace F' := Lib.hid (F'.out.on hg)
    replace Y := Lib.hid (Y.out.on hg)
    replace G := Lib.hid (gb_trans G.out hg)
    clear hg hy hhy3
    refine (eqh_same F.out F'.out).mono ?_
    rintro e W ⟨rfl, hg⟩
    replace D := Lib.hid (D.out.on hg)
    replace X := Lib.hid (X.out.on hg)
    replace F := Lib.hid (F.out.on hg)
    replace F' := Lib.hid (F'.out.on hg)
    replace Y := Lib.hid (Y.out.on hg)
    replace Z := Lib.hid (Z.out.on hg)
    replace G := Lib.hid (gb_trans G.out hg)
    clear hg
    try clear q0 q1
    have q0 := X.out.cell 0
    have q1 := X.out.cell 1
    simp only [List.getElem?_cons_zero, List.getElem?_cons_succ] at q0 q1
    try clear p0 p1
    have p0 := Y.out.cell 0
    have p1 := Y.out.cell 1
    simp only [List.getElem?_cons_zero, List.getElem?_cons_succ] at p0 p1
    try clear z0 z1
    have z0 := Z.out.cell 0
    have z1 := Z.out.cell 1
    simp only [List.getElem?_cons_zero, List.getElem?_cons_succ] at z0 z1
    have HT : Hid (∀ W, SeesH W A2 B2 ⟨l2, ts2⟩ → Calls Try.prog 22 #[.agg #[.slice A2 l2.length c2, .slice B2 ts2.length d2], .int .i64 t] W (GotH1 W l2 ts2)) := Lib.hid fun W h => by
      have e := rb_impl (t := t) (c := c2) h hd2
      rw [rb_twice HR.out.symm] at e
      exact e.mono fun _ _ => gotH_some
    have HU : Hid (∀ W, SeesH W A1 B1 ⟨l, ts⟩ → Calls Try.prog 22 #[.agg #[.slice A1 l.length c1, .slice B1 ts.length d1], .int .i64 1000] W (GotH1 W l ts)) := Lib.hid fun W h => by
      have e := rb_impl (t := 1000) (c := c1) h hld
      rw [rb_all (rb_some HR.out.symm).1] at e
      exact e.mono fun _ _ => gotH_some
    go_wp2_with fail
    refine (HT.out _ F.out).mono ?_
    rintro e W ⟨A4, c4, B4, d4, rfl, hc4, hd4, hs, hg⟩
    replace D := Lib.hid (D.out.on hg)
    replace X := Lib.hid (X.out.on hg)
    replace F := Lib.hid (F.out.on hg)
    replace Y := Lib.hid (Y.out.on hg)
    replace G := Lib.hid (gb_trans G.out hg)
    clear hg
    have F4 := Lib.hid hs
    clear hs
    try clear q0 q1
    try clear q0 q1
    have q0 := (X.out.alloc (.cells #[.slice A4 l2.length c4, .slice B4 ts2.length d4] 30)).cell 0
    have q1 := (X.out.alloc (.cells #[.slice A4 l2.length c4, .slice B4 ts2.length d4] 30)).cell 1
    simp only [List.getElem?_cons_zero, List.getElem?_cons_succ] at q0 q1
    go_wp2_with fail
    refine calls_name (fun V => W.grownBy V none ∧ Row V W.heap.size 30 [.slice A4 l2.length c4, .slice B4 ts2.length d4]) ⟨World.grownBy_alloc W _ none, Row.new W _ rfl⟩ ?_
    obtain ⟨hy4, hhy4⟩ : ∃ hy4, hy4 = W.heap.size := ⟨_, rfl⟩
    rw [← hhy4]
    rintro W ⟨hg, hy⟩
    have Z4 := Lib.hid hy
    replace D := Lib.hid (D.out.on hg)
    replace X := Lib.hid (X.out.on hg)
    replace F := Lib.hid (F.out.on hg)
    replace Y := Lib.hid (Y.out.on hg)
    replace F4 := Lib.hid (F4.out.on hg)
    replace G := Lib.hid (gb_trans G.out hg)
    clear hg hy hhy4
    refine (HU.out _ D.out).mono ?_
    rintro e W ⟨A5, c5, B5, d5, rfl, hc5, hd5, hs, hg⟩
    replace D := Lib.hid (D.out.on hg)
    replace X := Lib.hid (X.out.on hg)
    replace F := Lib.hid (F.out.on hg)
    replace Y := Lib.hid (Y.out.on hg)
    replace F4 := Lib.hid (F4.out.on hg)
    replace Z4 := Lib.hid (Z4.out.on hg)
    replace G := Lib.hid (gb_trans G.out hg)
    clear hg
    have F5 := Lib.hid hs
    clear hs
    try clear z0 z1
    try clear z0 z1
    have z0 := (Z4.out.alloc (.cells #[.slice A5 l.length c5, .slice B5 ts.length d5] 30)).cell 0
    have z1 := (Z4.out.alloc (.cells #[.slice A5 l.length c5, .slice B5 ts.length d5] 30)).cell 1
    simp only [List.getElem?_cons_zero, List.getElem?_cons_succ] at z0 z1
    try clear p0 p1
    try clear p0 p1
    have p0 := (Y.out.alloc (.cells #[.slice A5 l.length c5, .slice B5 ts.length d5] 30)).cell 0
    have p1 := (Y.out.alloc (.cells #[.slice A5 l.length c5, .slice B5 ts.length d5] 30)).cell 1
    simp only [List.getElem?_cons_zero, List.getElem?_cons_succ] at p0 p1
    go_wp2_with fail
    refine calls_name (fun V => W.grownBy V none ∧ Row V W.heap.size 30 [.slice A5 l.length c5, .slice B5 ts.length d5]) ⟨World.grownBy_alloc W _ none, Row.new W _ rfl⟩ ?_
    obtain ⟨hy5, hhy5⟩ : ∃ hy5, hy5 = W.heap.size := ⟨_, rfl⟩
    rw [← hhy5]
    rintro W ⟨hg, hy⟩
    have Z5 := Lib.hid hy
    replace D := Lib.hid (D.out.on hg)
    replace X := Lib.hid (X.out.on hg)
    replace F := Lib.hid (F.out.on hg)
    replace Y := Lib.hid (Y.out.on hg)
    replace F4 := Lib.hid (F4.out.on hg)
    replace F5 := Lib.hid (F5.out.on hg)
    replace Z4 := Lib.hid (Z4.out.on hg)
    replace G := Lib.hid (gb_trans G.out hg)
    clear hg hy hhy5
    refine (eqh_same F4.out F.out).mono ?_
    rintro e W ⟨rfl, hg⟩
    replace D := Lib.hid (D.out.on hg)
    replace X := Lib.hid (X.out.on hg)
    replace F := Lib.hid (F.out.on hg)
    replace Y := Lib.hid (Y.out.on hg)
    replace F4 := Lib.hid (F4.out.on hg)
    replace F5 := Lib.hid (F5.out.on hg)
    replace Z4 := Lib.hid (Z4.out.on hg)
    replace Z5 := Lib.hid (Z5.out.on hg)
    replace G := Lib.hid (gb_trans G.out hg)
    clear hg
    try clear q0 q1
    have q0 := X.out.cell 0
    have q1 := X.out.cell 1
    simp only [List.getElem?_cons_zero, List.getElem?_cons_succ] at q0 q1
    try clear z0 z1
    have z0 := Z5.out.cell 0
    have z1 := Z5.out.cell 1
    simp only [List.getElem?_cons_zero, List.getElem?_cons_succ] at z0 z1
    go_wp2_with fail
    refine (eqh_same F5.out D.out).mono ?_
    rintro e W ⟨rfl, hg⟩
    replace D := Lib.hid (D.out.on hg)
    replace G := Lib.hid (gb_trans G.out hg)
    clear hg
    go_wp2_with fail
    go_ret
    exact ⟨rfl, G.out⟩
end fnRollBackTwice
/-! the row's step -/
namespace fnRollBackTwice
set_option maxRecDepth 100000 in
theorem lifted (os : Os) (started : os.Started) (H : Type) (enc : TypeId × Value → H) :
    ReturnsInHanded {} Try.checked os 7 .any (Rows.fnRollBackTwiceSpec.pre6 enc Try.prog Try.f7 Rows.fnRollBackTwiceRow.domain false) (Rows.fnRollBackTwiceSpec.post enc Try.prog Try.f7 false true false false) := by
  refine returnsInHanded_of_change (C := Try.checked) own started (by kernel_rfl) Try.func7
    (ChangeSpec.witness6 (enc := enc) (C := Try.checked) false ⟨#[], #[.slice none 0 0], []⟩ 8 (by kernel_rfl) (by kernel_rfl) (by kernel_rfl) (by kernel_rfl)) ?_
  intro W base args ds gs before hval0 hW hcnd _
  have hval : ∀ (j : Nat) t v, Try.f7.params[j]? = some t → args[j]? = some v → Value.okWide Try.prog W .any base t v := hval0
  have hW' := hW
  obtain ⟨p, q, hA0, hV, rfl, hfz, hnd⟩ := hW
  have hA : DataW.TrodAll enc Try.prog W 0 (fun _ => true) true Try.f7.params.toList args.toList ds p := hA0
  rw [Try.params7] at hA hval
  obtain ⟨v0, vs0, d0, ds0, p0, q0, hargs, rfl, rfl, h0, r0⟩ := trodAll_cons hA
  obtain ⟨rfl, rfl, rfl⟩ := trodAll_nil r0
  obtain rfl : args = #[v0] := by cases args; simp_all
  obtain ⟨rfl, rfl⟩ := trodVars_none hV
  obtain ⟨a0, len0, cap0, rfl⟩ := okWide_slice Try.underlying34 (hval 0 34 v0 rfl rfl)
  have k0 := h0
  have lt0 : ∀ x ∈ p0, x.block < W.heap.size := by obtain ⟨m, hm⟩ := k0; exact DataW.trod_lt m _ _ _ hm
  obtain ⟨L0, rfl, b00, b01, b02⟩ := code_row h0
  clear hA0 hval0
  refine (walk W a0 cap0 L0 b00 b01 b02).mono fun e W' ⟨he, bel0⟩ => ?_
  have bel := gb_below bel0
  subst he
  exact ⟨_, rfl, _, _, _, [], _, [], hW', trodAll_mk1 (shut_bool Try.underlying4 _), (trodAll_cons_mk (Below.trod laidOut (by kernel_rfl) (of_decide_eq_true (by kernel_rfl)) k0 bel lt0) trodAll_mk0), rfl, bel.frame _, fun h => by cases h⟩
set_option maxRecDepth 100000 in
theorem over : Rows.fnRollBackTwiceRow.holds Try.pinned (OpenSpec.ofChange Rows.fnRollBackTwiceSpec) :=
  OpenClaim.holds_of_wide 7 Try.f7 rfl rfl rfl rfl rfl rfl rfl ⟨rfl, rfl, rfl, rfl, rfl⟩ rfl rfl rfl rfl rfl (by kernel_rfl) Try.func7 (by kernel_rfl)
    (of_decide_eq_true (by kernel_rfl)) (by unfold Func.isWrapper; first | (rw [if_pos (by decide +kernel)]; kernel_rfl) | (rw [if_neg (by decide +kernel)]; exact ⟨rfl, rfl⟩))
    (fun os started H enc _ => lifted os started H enc)
theorem proved : Rows.FnRollBackTwiceSaid := over
end fnRollBackTwice
end Go.Proofs.Ythkklmmgakkliaa
