/- FnLogBetweenShort: logs are no longer than needed: proved for every input, with no condition. -/
import Derived.Test.YtilecjaibmglbaaFrame
import Derived.Test.YtilecjaibmglbaaBetL
namespace Go.Proofs.Ytilecjaibmglbaa
open Go.ChangeShapes Go.WideShapes Go.ChangeAt Go.RowKit
set_option linter.unusedVariables false
namespace fnLogBetweenShort
set_option maxRecDepth 100000 in
set_option maxHeartbeats 2000000 in
theorem walk (w : World) (A : Option Addr) (c : Nat) (bs : List Int) (h2 : bs.length ≤ c) (h3 : ∀ x ∈ bs, 0 ≤ x ∧ x ≤ 255) (h4 : Rd w 0 w.heap.size A (bs.map (.int .u8))) :
    Calls Try.prog 5 #[.slice A bs.length c] w fun e w' => e = .returned (.bool true) ∧ w.grownBy w' none := by
  have H2 := Lib.hid h2
  have H3 := Lib.hid h3
  have H4 := Lib.hid h4
  clear h2 h3 h4
  by_cases hb : bs.length ≤ 1048576
  rotate_left
  · have hb' : (1048576 : Int) < bs.length := by omega
    generalize bs.length = L at *
    go_enter Try.func5, Try.ntmps5
    go_wp2
    go_ret
    exact ⟨rfl, gb_refl _ _⟩
  have hb' : (bs.length : Int) ≤ 1048576 := by omega
  go_enter Try.func5, Try.ntmps5
  go_wp2_with fail
  refine (DrawLogBetween_any w A c bs H2.out hb H3.out H4.out).mono ?_
  rintro e W ⟨A1, c1, a, B1, d1, b, rfl, hc1, hd1, hd, he, hg⟩
  have D := Lib.hid hd
  have D' := Lib.hid he
  have G := Lib.hid hg
  clear hd he hg
  obtain ⟨T, hT⟩ : ∃ T, T = M.LogBetween a b := ⟨_, rfl⟩
  have HT := Lib.hid hT
  have HLS : Hid (∀ W, SeesI W A1 a → SeesI W B1 b → Calls Try.prog 10 #[.slice A1 a.length c1, .slice B1 b.length d1] W (GotE W T)) := Lib.hid fun W h h' => hT ▸ lb_spec h h'
  have HLI : Hid (∀ W, SeesI W A1 a → SeesI W B1 b → Calls Try.prog 8 #[.slice A1 a.length c1, .slice B1 b.length d1] W (GotE W T)) := Lib.hid fun W h h' => hT ▸ lb_impl h h'
  clear hT
  go_wp2_with fail
  refine (HLI.out _ D.out D'.out).mono ?_
  rintro e W ⟨A2, c2, rfl, hc2, hd, hg⟩
  replace D := Lib.hid (D.out.on hg)
  replace D' := Lib.hid (D'.out.on hg)
  replace G := Lib.hid (gb_trans G.out hg)
  have E := Lib.hid hd
  have HC2 := Lib.hid hc2
  clear hg hd hc2
  go_wp2_with fail
  refine (HLS.out _ D.out D'.out).mono ?_
  rintro e W ⟨A3, c3, rfl, hc3, hd, hg⟩
  replace D := Lib.hid (D.out.on hg)
  replace D' := Lib.hid (D'.out.on hg)
  replace E := Lib.hid (E.out.on hg)
  replace G := Lib.hid (gb_trans G.out hg)
  have E' := Lib.hid hd
  clear hg hd hc3
  go_wp2_with fail
  refine (eqe_same E.out E'.out).mono ?_
  rintro e W ⟨rfl, hg⟩
  replace D := Lib.hid (D.out.on hg)
  replace D' := Lib.hid (D'.out.on hg)
  replace E := Lib.hid (E.out.on hg)
  replace G := Lib.hid (gb_trans G.out hg)
  clear hg E'
  have HVA := Lib.hid (fun W (h : SeesI W A1 a) => vs_impl (c := c1) h)
  have HVB := Lib.hid (fun W (h : SeesI W B1 b) => vs_impl (c := d1) h)
  cases hva : M.validStore a
  · rw [hva] at HVA
    clear hva
    go_wp2_with fail
    refine (HVA.out _ D.out).mono ?_
    rintro e W ⟨rfl, hg⟩
    replace D := Lib.hid (D.out.on hg)
    replace D' := Lib.hid (D'.out.on hg)
    replace E := Lib.hid (E.out.on hg)
    replace G := Lib.hid (gb_trans G.out hg)
    clear hg
    go_wp2_with fail
    refine (HLS.out _ D.out D'.out).mono ?_
    rintro e W ⟨A3, c3, rfl, hc3, hd, hg⟩
    replace D := Lib.hid (D.out.on hg)
    replace D' := Lib.hid (D'.out.on hg)
    replace E := Lib.hid (E.out.on hg)
    replace G := Lib.hid (gb_trans G.out hg)
    have E' := Lib.hid hd
    clear hg hd hc3
    go_wp2_with fail
    refine (eqe_same E.out E'.out).mono ?_
    rintro e W ⟨rfl, hg⟩
    replace D := Lib.hid (D.out.on hg)
    replace D' := Lib.hid (D'.out.on hg)
    replace E := Lib.hid (E.out.on hg)
    replace G := Lib.hid (gb_trans G.out hg)
    clear hg E'
    go_wp2_with fail
    go_ret
    exact ⟨rfl, G.out⟩
  · cases hvb : M.validStore b
    · rw [hva] at HVA
      rw [hvb] at HVB
      clear hva hvb
      go_wp2_with fail
      refine (HVA.out _ D.out).mono ?_
      rintro e W ⟨rfl, hg⟩
      replace D := Lib.hid (D.out.on hg)
      replace D' := Lib.hid (D'.out.on hg)
      replace E := Lib.hid (E.out.on hg)
      replace G := Lib.hid (gb_trans G.out hg)
      clear hg
      go_wp2_with fail
      refine (HVB.out _ D'.out).mono ?_
      rintro e W ⟨rfl, hg⟩
      replace D := Lib.hid (D.out.on hg)
      replace D' := Lib.hid (D'.out.on hg)
      replace E := Lib.hid (E.out.on hg)
      replace G := Lib.hid (gb_trans G.out hg)
      clear hg
      go_wp2_with fail
      refine (HLS.out _ D.out D'.out).mono ?_
      rintro e W ⟨A3, c3, rfl, hc3, hd, hg⟩
      replace D := Lib.hid (D.out.on hg)
      replace D' := Lib.hid (D'.out.on hg)
      replace E := Lib.hid (E.out.on hg)
      replace G := Lib.hid (gb_trans G.out hg)
      have E' := Lib.hid hd
      clear hg hd hc3
      go_wp2_with fail
      refine (eqe_same E.out E'.out).mono ?_
      rintro e W ⟨rfl, hg⟩
      replace D := Lib.hid (D.out.on hg)
      replace D' := Lib.hid (D'.out.on hg)
      replace E := Lib.hid (E.out.on hg)
      replace G := Lib.hid (gb_trans G.out hg)
      clear hg E'
      go_wp2_with fail
      go_ret
      exact ⟨rfl, G.out⟩
    · rw [hva] at HVA
      rw [hvb] at HVB
      have HVA1 := Lib.hid hva
      have HVB1 := Lib.hid hvb
      clear hva hvb
      go_wp2_with fail
      refine (HVA.out _ D.out).mono ?_
      rintro e W ⟨rfl, hg⟩
      replace D := Lib.hid (D.out.on hg)
      replace D' := Lib.hid (D'.out.on hg)
      replace E := Lib.hid (E.out.on hg)
      replace G := Lib.hid (gb_trans G.out hg)
      clear hg
      go_wp2_with fail
      refine (HVB.out _ D'.out).mono ?_
      rintro e W ⟨rfl, hg⟩
      replace D := Lib.hid (D.out.on hg)
      replace D' := Lib.hid (D'.out.on hg)
      replace E := Lib.hid (E.out.on hg)
      replace G := Lib.hid (gb_trans G.out hg)
      clear hg
      have HSH := Lib.hid (M.between_short HVA1.out HVB1.out)
      have HBK := Lib.hid (M.between_back HVA1.out HVB1.out)
      rw [← HT.out] at HSH HBK
      have HB : Hid (∀ W, SeesI W A1 a → SeesI W B1 b → Calls Try.prog 8 #[.slice B1 b.length d1, .slice A1 a.length c1] W (GotE W (M.LogBetween b a))) := Lib.hid fun W h h' => lb_impl h' h
      have HA : Hid (∀ W, SeesI W A1 a → Calls Try.prog 8 #[.slice A1 a.length c1, .slice A1 a.length c1] W (GotE W [])) := Lib.hid fun W h => M.between_self (a := a) ▸ lb_impl h h
      have HC : Hid (∀ W, SeesE W A2 T → Calls Try.prog 19 #[.slice A2 T.length c2] W (GotE W T)) := Lib.hid fun W h => by
        have e := sl_impl h HC2.out
        rwa [HSH.out] at e
      generalize M.LogBetween b a = T' at *
      have te : ((T'.length : Int) == (T.length : Int)) = true := by rw [HBK.out]; simp
      have te' : ((T.length : Int) == (T.length : Int)) = true := by simp
      go_wp2_with fail
      refine (HB.out _ D.out D'.out).mono ?_
      rintro e W ⟨A4, c4, rfl, hc4, hd, hg⟩
      replace D := Lib.hid (D.out.on hg)
      replace E := Lib.hid (E.out.on hg)
      replace G := Lib.hid (gb_trans G.out hg)
      clear hd hg
      go_wp2_with fail
      refine (HA.out _ D.out).mono ?_
      rintro e W ⟨A5, c5, rfl, hc5, hd, hg⟩
      replace D := Lib.hid (D.out.on hg)
      replace E := Lib.hid (E.out.on hg)
      replace G := Lib.hid (gb_trans G.out hg)
      clear hd hg
      go_wp2_with fail
      refine (HC.out _ E.out).mono ?_
      rintro e W ⟨A6, c6, rfl, hc6, hd, hg⟩
      replace E := Lib.hid (E.out.on hg)
      replace G := Lib.hid (gb_trans G.out hg)
      clear hd hg
      go_wp2_with fail
      go_ret
      exact ⟨rfl, G.out⟩
end fnLogBetweenShort
/-! the row's step -/
namespace fnLogBetweenShort
set_option maxRecDepth 100000 in
theorem lifted (os : Os) (started : os.Started) (H : Type) (enc : TypeId × Value → H) :
    ReturnsInHanded {} Try.checked os 5 .any (Rows.fnLogBetweenShortSpec.pre6 enc Try.prog Try.f5 Rows.fnLogBetweenShortRow.domain false) (Rows.fnLogBetweenShortSpec.post enc Try.prog Try.f5 false true false false) := by
  refine returnsInHanded_of_change (C := Try.checked) own started (by kernel_rfl) Try.func5
    (ChangeSpec.witness6 (enc := enc) (C := Try.checked) false ⟨#[], #[.slice none 0 0], []⟩ 8 (by kernel_rfl) (by kernel_rfl) (by kernel_rfl) (by kernel_rfl)) ?_
  intro W base args ds gs before hval0 hW hcnd _
  have hval : ∀ (j : Nat) t v, Try.f5.params[j]? = some t → args[j]? = some v → Value.okWide Try.prog W .any base t v := hval0
  have hW' := hW
  obtain ⟨p, q, hA0, hV, rfl, hfz, hnd⟩ := hW
  have hA : DataW.TrodAll enc Try.prog W 0 (fun _ => true) true Try.f5.params.toList args.toList ds p := hA0
  rw [Try.params5] at hA hval
  obtain ⟨v0, vs0, d0, ds0, p0, q0, hargs, rfl, rfl, h0, r0⟩ := trodAll_cons hA
  obtain ⟨rfl, rfl, rfl⟩ := trodAll_nil r0
  obtain rfl : args = #[v0] := by cases args; simp_all
  obtain ⟨rfl, rfl⟩ := trodVars_none hV
  obtain ⟨a0, len0, cap0, rfl⟩ := okWide_slice Try.underlying22 (hval 0 22 v0 rfl rfl)
  have k0 := h0
  have lt0 : ∀ x ∈ p0, x.block < W.heap.size := by obtain ⟨m, hm⟩ := k0; exact DataW.trod_lt m _ _ _ hm
  obtain ⟨L0, rfl, b00, b01, b02⟩ := code_row h0
  clear hA0 hval0
  refine (walk W a0 cap0 L0 b00 b01 b02).mono fun e W' ⟨he, bel0⟩ => ?_
  have bel := gb_below bel0
  subst he
  exact ⟨_, rfl, _, _, _, [], _, [], hW', trodAll_mk1 (shut_bool Try.underlying4 _), (trodAll_cons_mk (Below.trod laidOut (by kernel_rfl) (of_decide_eq_true (by kernel_rfl)) k0 bel lt0) trodAll_mk0), rfl, bel.frame _, fun h => by cases h⟩
set_option maxRecDepth 100000 in
theorem over : Rows.fnLogBetweenShortRow.holds Try.pinned (OpenSpec.ofChange Rows.fnLogBetweenShortSpec) :=
  OpenClaim.holds_of_wide 5 Try.f5 rfl rfl rfl rfl rfl rfl rfl ⟨rfl, rfl, rfl, rfl, rfl⟩ rfl rfl rfl rfl rfl (by kernel_rfl) Try.func5 (by kernel_rfl)
    (of_decide_eq_true (by kernel_rfl)) (by unfold Func.isWrapper; first | (rw [if_pos (by decide +kernel)]; kernel_rfl) | (rw [if_neg (by decide +kernel)]; exact ⟨rfl, rfl⟩))
    (fun os started H enc _ => lifted os started H enc)
theorem proved : Rows.FnLogBetweenShortSaid := over
end fnLogBetweenShort
end Go.Proofs.Ytilecjaibmglbaa
