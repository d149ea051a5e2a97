/- FnExactValidHistory: the program's ValidHistory is the reference's: proved for every input, with no condition. -/
import Derived.Test.YthkklmmgakkliaaFrame
import Derived.Test.YthkklmmgakkliaaExH
namespace Go.Proofs.Ythkklmmgakkliaa
open Go.ChangeShapes Go.WideShapes Go.ChangeAt Go.RowKit
set_option linter.unusedVariables false
set_option linter.unusedSimpArgs false
namespace fnExactValidHistory
set_option maxRecDepth 100000 in
set_option maxHeartbeats 4000000 in
theorem walk (w : World) (h : M.Hist) (u : Option Addr × Nat × Option Addr × Nat) (hin : HisIn w u h) :
    Calls Try.prog 3 #[.agg #[.slice u.1 h.log.length u.2.1, .slice u.2.2.1 h.times.length u.2.2.2]] w fun e w' => e = .returned (.bool true) ∧ w.grownBy w' none := by
  obtain ⟨A, c, B, d⟩ := u
  obtain ⟨i1, i2, i3, i4, i5, i6, i7⟩ := hin
  show Calls Try.prog 3 #[.agg #[.slice A h.log.length c, .slice B h.times.length d]] w _
  have HRD : Hid (RdH w w.heap.size A B h) := Lib.hid ⟨i4, i7⟩
  have G0 := Lib.hid (World.grownBy_alloc w (.cells #[.slice A h.log.length c, .slice B h.times.length d] 25) none)
  have B0 := Lib.hid (Row.new w 25 (ca := #[.slice A h.log.length c, .slice B h.times.length d]) rfl)
  have HZ := Lib.hid (szHistory_any (A := A) (B := B) (c := c) (d := d) (left := 1048576) i2 i3 ((i4.keep G0.out (Nat.le_refl _)).wide (Nat.le_refl _) G0.out.size) i6 (by omega) (by omega))
  have HR : Hid (∀ W, w.grownBy W none → RdH W W.heap.size A B h) := Lib.hid fun W hW => (HRD.out.agree (Agree.of_grown hW)).wide hW.size
  have HT : Hid (SmallH h → ∀ W, w.grownBy W none → Calls Try.prog 13 #[.agg #[.slice A h.log.length c, .slice B h.times.length d]] W fun e w' => ∃ v, e = .returned v ∧ HisMade W W.heap.size h v w') := Lib.hid fun hs W hW => toHistory_any (HR.out W hW) hs
  clear i1 i2 i3 i4 i5 i6 i7
  obtain ⟨m, hm⟩ : ∃ m, m = h.log.length := ⟨_, rfl⟩
  obtain ⟨n, hn⟩ : ∃ n, n = h.times.length := ⟨_, rfl⟩
  rw [← hm, ← hn] at B0 G0 HZ HT ⊢
  have HM := Lib.hid hm
  have HN := Lib.hid hn
  clear hm hn
  go_enter Try.func3, Try.ntmps3
  go_wp2_with fail
  refine HZ.out.mono ?_
  rintro e w1 ⟨r, rfl, hr1, hr2, hg⟩
  have G := Lib.hid (gb_trans G0.out hg)
  have R := Lib.hid (B0.out.grown hg (by simp))
  have HS0 := Lib.hid hr2
  clear hg hr2
  have q0 := R.out.cell 0
  have q1 := R.out.cell 1
  simp only [List.getElem?_cons_zero, List.getElem?_cons_succ] at q0 q1
  by_cases hr0 : r < 0
  · go_wp2_with fail
    go_ret
    exact ⟨rfl, G.out⟩
  · have HS := Lib.hid (HS0.out (by omega))
    replace HT := Lib.hid (HT.out HS.out)
    go_wp2_with fail
    refine (HT.out _ G.out).mono ?_
    rintro e w2 ⟨v, rfl, A1, c1, B1, d1, rfl, hc1, hd1, ho, hg⟩
    have G2 := Lib.hid (gb_trans G.out hg)
    have R2 := Lib.hid (R.out.grown hg (by simp))
    have D1 := Lib.hid (OwnH.sees ho HS.out.1 HS.out.2)
    have HC := Lib.hid (ValidHistory_spec (c := c1) (d := d1) D1.out)
    have HC' : Hid (∀ W A B c d, SeesH W A B h → Calls Try.prog 14 #[.agg #[.slice A h.log.length c, .slice B h.times.length d]] W fun e w' => e = .returned (.bool (M.validHist h)) ∧ W.grownBy w' none) := Lib.hid fun W A B c d x => ValidHistory_impl x
    have HQ : Hid (∀ W A B c d A' B' c' d', RdH W W.heap.size A B h → RdH W W.heap.size A' B' h → Calls Try.prog 15 #[.agg #[.slice A h.log.length c, .slice B h.times.length d], .agg #[.slice A' h.log.length c', .slice B' h.times.length d']] W fun e w' => e = .returned (.bool true) ∧ W.grownBy w' none) := Lib.hid fun W A B c d A' B' c' d' x y => eqHistory_same x y HS.out
    obtain ⟨b, hb⟩ : ∃ b, b = M.validHist h := ⟨_, rfl⟩
    rw [← hb] at HC HC'
    rw [← HM.out, ← HN.out] at HC HC' HQ
    rw [← HM.out, ← HN.out]
    clear hc1 hd1 ho hg hb q0 q1
    go_wp2_with fail
    refine HC.out.mono ?_
    rintro e w3 ⟨rfl, hg⟩
    have G3 := Lib.hid (gb_trans G2.out hg)
    have R3 := Lib.hid (R2.out.grown hg (by simp))
    clear hg HC D1 R2
    have q0 := R3.out.cell 0
    have q1 := R3.out.cell 1
    simp only [List.getElem?_cons_zero, List.getElem?_cons_succ] at q0 q1
    go_wp2_with fail
    refine (HT.out _ G3.out).mono ?_
    rintro e w4 ⟨v, rfl, A2, c2, B2, d2, rfl, hc2, hd2, ho, hg⟩
    have D2 := Lib.hid ((OwnH.sees ho HS.out.1 HS.out.2).on (World.grownBy_alloc w4 (.cells #[.slice A2 h.log.length c2, .slice B2 h.times.length d2] 30) none))
    rw [← HM.out, ← HN.out] at D2
    rw [← HM.out, ← HN.out]
    have G4 := Lib.hid (gb_alloc (gb_trans G3.out hg) (.cells #[.slice A2 m c2, .slice B2 n d2] 30))
    have R4 := Lib.hid ((R3.out.grown hg (by simp)).alloc (.cells #[.slice A2 m c2, .slice B2 n d2] 30))
    have X4 := Lib.hid (Row.new w4 30 (ca := #[.slice A2 m c2, .slice B2 n d2]) rfl)
    clear hc2 hd2 ho hg q0 q1 R3
    go_wp2_with fail
    refine (HC'.out _ _ _ _ _ D2.out).mono ?_
    rintro e w5 ⟨rfl, hg⟩
    have G5 := Lib.hid (gb_trans G4.out hg)
    have R5 := Lib.hid (R4.out.grown hg (by simp))
    have X5 := Lib.hid (X4.out.grown hg (by simp))
    have D5 := Lib.hid (D2.out.on hg)
    clear hg D2 X4 R4
    have q0 := R5.out.cell 0
    have q1 := R5.out.cell 1
    have p0 := X5.out.cell 0
    have p1 := X5.out.cell 1
    simp only [List.getElem?_cons_zero, List.getElem?_cons_succ] at q0 q1 p0 p1
    cases b
    all_goals
      go_wp2_with fail
      go_region_law (first | (go_simp; go_at_call 13; refine Calls.mono (HT.out _ (gb_drew G5.out)) ?_; rintro e w6 ⟨v, rfl, A3, c3, B3, d3, rfl, hc3, hd3, ho, hg⟩; have D6 := Lib.hid ((OwnH.sees ho HS.out.1 HS.out.2).rd); have E6 := Lib.hid ((D5.out.on (gb_drew (gb_refl _ _))).on hg).rd; have G6 := Lib.hid (gb_trans (gb_drew G5.out) hg); have X6 := Lib.hid (Row.grown (show Row w5.drew w4.heap.size 30 _ from X5.out) hg (by simp)); have p2 := X6.out.cell 0; have p3 := X6.out.cell 1; simp only [List.getElem?_cons_zero, List.getElem?_cons_succ] at p2 p3; rw [← HM.out, ← HN.out]; clear hc3 hd3 ho hg) | (go_simp; go_at_call 15; refine Calls.mono (HQ.out _ _ _ _ _ _ _ _ _ E6.out D6.out) ?_; rintro e w7 ⟨rfl, hg⟩; have G7 := Lib.hid (gb_trans G6.out hg); clear hg))
      all_goals
        go_wp2_with fail
        go_ret
        exact ⟨rfl, G7.out⟩
end fnExactValidHistory
/-! the row's step -/
namespace fnExactValidHistory
set_option maxRecDepth 100000 in
theorem lifted (os : Os) (started : os.Started) (H : Type) (enc : TypeId × Value → H) :
    ReturnsInHanded {} Try.checked os 3 .any (Rows.fnExactValidHistorySpec.pre6 enc Try.prog Try.f3 Rows.fnExactValidHistoryRow.domain false) (Rows.fnExactValidHistorySpec.post enc Try.prog Try.f3 false true false false) := by
  refine returnsInHanded_of_change (C := Try.checked) own started (by kernel_rfl) Try.func3
    (ChangeSpec.witness6 (enc := enc) (C := Try.checked) false ⟨#[], #[.agg #[.slice none 0 0, .slice none 0 0]], []⟩ 8 (by kernel_rfl) (by kernel_rfl) (by kernel_rfl) (by kernel_rfl)) ?_
  intro W base args ds gs before hval0 hW hcnd _
  have hval : ∀ (j : Nat) t v, Try.f3.params[j]? = some t → args[j]? = some v → Value.okWide Try.prog W .any base t v := hval0
  have hW' := hW
  obtain ⟨p, q, hA0, hV, rfl, hfz, hnd⟩ := hW
  have hA : DataW.TrodAll enc Try.prog W 0 (fun _ => true) true Try.f3.params.toList args.toList ds p := hA0
  rw [Try.params3] at hA hval
  obtain ⟨v0, vs0, d0, ds0, p0, q0, hargs, rfl, rfl, h0, r0⟩ := trodAll_cons hA
  obtain ⟨rfl, rfl, rfl⟩ := trodAll_nil r0
  obtain rfl : args = #[v0] := by cases args; simp_all
  obtain ⟨rfl, rfl⟩ := trodVars_none hV
  have k0 := h0
  have lt0 : ∀ x ∈ p0, x.block < W.heap.size := by obtain ⟨m, hm⟩ := k0; exact DataW.trod_lt m _ _ _ hm
  obtain ⟨L0, u0, rfl, b0⟩ := history_row (hval 0 25 v0 rfl rfl) h0
  clear hA0 hval0
  refine (walk W L0 u0 b0).mono fun e W' ⟨he, bel0⟩ => ?_
  have bel := gb_below bel0
  subst he
  exact ⟨_, rfl, _, _, _, [], _, [], hW', trodAll_mk1 (shut_bool Try.underlying4 _), (trodAll_cons_mk (Below.trod laidOut (by kernel_rfl) (of_decide_eq_true (by kernel_rfl)) k0 bel lt0) trodAll_mk0), rfl, bel.frame _, fun h => by cases h⟩
set_option maxRecDepth 100000 in
theorem over : Rows.fnExactValidHistoryRow.holds Try.pinned (OpenSpec.ofChange Rows.fnExactValidHistorySpec) :=
  OpenClaim.holds_of_wide 3 Try.f3 rfl rfl rfl rfl rfl rfl rfl ⟨rfl, rfl, rfl, rfl, rfl⟩ rfl rfl rfl rfl rfl (by kernel_rfl) Try.func3 (by kernel_rfl)
    (of_decide_eq_true (by kernel_rfl)) (by unfold Func.isWrapper; first | (rw [if_pos (by decide +kernel)]; kernel_rfl) | (rw [if_neg (by decide +kernel)]; exact ⟨rfl, rfl⟩))
    (fun os started H enc _ => lifted os started H enc)
theorem proved : Rows.FnExactValidHistorySaid := over
end fnExactValidHistory
end Go.Proofs.Ythkklmmgakkliaa
