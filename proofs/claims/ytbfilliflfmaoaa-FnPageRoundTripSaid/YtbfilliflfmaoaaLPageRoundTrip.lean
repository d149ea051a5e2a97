/- FnPageRoundTrip: pages lose nothing: proved for every input, with no condition. -/
import Derived.Test.YtbfilliflfmaoaaFrame
import Derived.Test.YtbfilliflfmaoaaPageL
namespace Go.Proofs.Ytbfilliflfmaoaa
open Go.ChangeShapes Go.WideShapes Go.ChangeAt Go.RowKit
set_option linter.unusedVariables false
namespace fnPageRoundTrip
set_option maxHeartbeats 2000000 in
theorem walk (w : World) (A : Option Addr) (c : Nat) (bs : List Int) (h2 : bs.length ≤ c) (h3 : ∀ x ∈ bs, 0 ≤ x ∧ x ≤ 255) (h4 : Rd w 0 w.heap.size A (bs.map (.int .u8))) :
    Calls Try.prog 8 #[.slice A bs.length c] w fun e w' => e = .returned (.bool true) ∧ w.grownBy w' none := by
  have H2 := Lib.hid h2
  have H3 := Lib.hid h3
  have H4 := Lib.hid h4
  clear h2 h3 h4
  by_cases hb : bs.length ≤ 1048576
  rotate_left
  · have hb' : (1048576 : Int) < bs.length := by omega
    generalize bs.length = L at *
    go_enter Try.func8, Try.ntmps8
    go_wp2
    go_ret
    exact ⟨rfl, gb_refl _ _⟩
  have hb' : (bs.length : Int) ≤ 1048576 := by omega
  go_enter Try.func8, Try.ntmps8
  go_wp2_with fail
  refine (DrawFormatPage_any w A c bs H2.out hb H3.out H4.out).mono ?_
  rintro e W ⟨A1, c1, L, rfl, hc1, hd, hg⟩
  have D := Lib.hid hd
  have G := Lib.hid hg
  clear hd hg
  go_wp2_with fail
  refine (fp_impl D.out).mono ?_
  rintro e W ⟨A2, c2, rfl, hc2, hd, hg⟩
  replace D := Lib.hid (D.out.on hg)
  replace G := Lib.hid (gb_trans G.out hg)
  have E := Lib.hid hd
  clear hg hd
  go_wp2_with fail
  refine (fp_spec D.out).mono ?_
  rintro e W ⟨A3, c3, rfl, hc3, hd, hg⟩
  replace D := Lib.hid (D.out.on hg)
  replace E := Lib.hid (E.out.on hg)
  replace G := Lib.hid (gb_trans G.out hg)
  have F := Lib.hid hd
  clear hg hd
  go_wp2_with fail
  refine (eb_any E.out F.out).mono ?_
  rintro e W ⟨rfl, hg⟩
  replace D := Lib.hid (D.out.on hg)
  replace E := Lib.hid (E.out.on hg)
  replace G := Lib.hid (gb_trans G.out hg)
  rw [decide_eq_true rfl]
  clear hg F
  cases hv : M.validStore L
  · have HV : Hid (M.FormatPage L = []) := Lib.hid (by unfold M.FormatPage; rw [hv]; rfl)
    clear hv
    have E0 := Lib.hid (HV.out ▸ E.out : SeesN .u8 _ A2 [])
    rw [HV.out] at hc2 ⊢
    have C1 : Hid (∀ W', SeesI W' A1 L → Calls Try.prog 11 #[.slice A1 L.length c1] W' (GotN .u8 W' [])) := Lib.hid fun W' h => HV.out ▸ fp_spec h
    go_wp2_with fail
    refine (C1.out _ D.out).mono ?_
    rintro e W ⟨A4, c4, rfl, hc4, hd, hg⟩
    replace D := Lib.hid (D.out.on hg)
    replace E0 := Lib.hid (E0.out.on hg)
    replace G := Lib.hid (gb_trans G.out hg)
    have F := Lib.hid hd
    clear hg hd
    go_wp2_with fail
    refine (eb_any (l := []) (m := []) E0.out F.out).mono ?_
    rintro e W ⟨rfl, hg⟩
    replace G := Lib.hid (gb_trans G.out hg)
    clear hg
    go_wp2_with fail
    go_ret
    exact ⟨rfl, G.out⟩
  · have HV := Lib.hid hv
    have HF : Hid (M.FormatPage L = M.page L) := Lib.hid (by unfold M.FormatPage; rw [hv]; rfl)
    have HPL := Lib.hid (M.page_length (M.validStore_of hv).2.1)
    have hl16 := (M.validStore_of hv).1
    clear hv
    rw [HF.out] at hc2 E ⊢
    have HBY : Hid (M.bytes (M.page L)) := Lib.hid (HF.out ▸ M.FormatPage_bytes L)
    have C1 := Lib.hid (pp_some E.out HBY.out hc2 (M.ParsePage_page HV.out))
    rw [HPL.out] at C1 ⊢
    have t0 : (((6 * L.length + 2 : Nat) : Int) == 0) = false := beq_eq_false_iff_ne.2 (by omega)
    go_wp2_with fail
    refine (C1.out).mono ?_
    rintro e W ⟨A4, c4, rfl, hc4, hd, hg⟩
    replace D := Lib.hid (D.out.on hg)
    replace G := Lib.hid (gb_trans G.out hg)
    have F := Lib.hid hd
    clear hg hd C1
    go_wp2_with fail
    refine (eqi_same F.out D.out).mono ?_
    rintro e W ⟨rfl, hg⟩
    replace G := Lib.hid (gb_trans G.out hg)
    clear hg
    go_wp2_with fail
    go_ret
    exact ⟨ret_bool (beq_iff_eq.2 (by omega)), G.out⟩
end fnPageRoundTrip
/-! the row's step -/
namespace fnPageRoundTrip
set_option maxRecDepth 100000 in
theorem lifted (os : Os) (started : os.Started) (H : Type) (enc : TypeId × Value → H) :
    ReturnsInHanded {} Try.checked os 8 .any (Rows.fnPageRoundTripSpec.pre6 enc Try.prog Try.f8 Rows.fnPageRoundTripRow.domain false) (Rows.fnPageRoundTripSpec.post enc Try.prog Try.f8 false true false false) := by
  refine returnsInHanded_of_change (C := Try.checked) own started (by kernel_rfl) Try.func8
    (ChangeSpec.witness6 (enc := enc) (C := Try.checked) false ⟨#[], #[.slice none 0 0], []⟩ 8 (by kernel_rfl) (by kernel_rfl) (by kernel_rfl) (by kernel_rfl)) ?_
  intro W base args ds gs before hval0 hW hcnd _
  have hval : ∀ (j : Nat) t v, Try.f8.params[j]? = some t → args[j]? = some v → Value.okWide Try.prog W .any base t v := hval0
  have hW' := hW
  obtain ⟨p, q, hA0, hV, rfl, hfz, hnd⟩ := hW
  have hA : DataW.TrodAll enc Try.prog W 0 (fun _ => true) true Try.f8.params.toList args.toList ds p := hA0
  rw [Try.params8] at hA hval
  obtain ⟨v0, vs0, d0, ds0, p0, q0, hargs, rfl, rfl, h0, r0⟩ := trodAll_cons hA
  obtain ⟨rfl, rfl, rfl⟩ := trodAll_nil r0
  obtain rfl : args = #[v0] := by cases args; simp_all
  obtain ⟨rfl, rfl⟩ := trodVars_none hV
  obtain ⟨a0, len0, cap0, rfl⟩ := okWide_slice Try.underlying24 (hval 0 24 v0 rfl rfl)
  have k0 := h0
  have lt0 : ∀ x ∈ p0, x.block < W.heap.size := by obtain ⟨m, hm⟩ := k0; exact DataW.trod_lt m _ _ _ hm
  obtain ⟨bs, rfl, b1, b2, b3⟩ := code_row h0
  clear hA0 hval0
  refine (walk W a0 cap0 bs b1 b2 b3).mono fun e W' ⟨he, bel0⟩ => ?_
  have bel := gb_below bel0
  subst he
  exact ⟨_, rfl, _, _, _, [], _, [], hW', trodAll_mk1 (shut_bool Try.underlying4 _), (trodAll_cons_mk (Below.trod laidOut (by kernel_rfl) (of_decide_eq_true (by kernel_rfl)) k0 bel lt0) trodAll_mk0), rfl, bel.frame _, fun h => by cases h⟩
set_option maxRecDepth 100000 in
theorem over : Rows.fnPageRoundTripRow.holds Try.pinned (OpenSpec.ofChange Rows.fnPageRoundTripSpec) :=
  OpenClaim.holds_of_wide 8 Try.f8 rfl rfl rfl rfl rfl rfl rfl ⟨rfl, rfl, rfl, rfl, rfl⟩ rfl rfl rfl rfl rfl (by kernel_rfl) Try.func8 (by kernel_rfl)
    (of_decide_eq_true (by kernel_rfl)) (by unfold Func.isWrapper; first | (rw [if_pos (by decide +kernel)]; kernel_rfl) | (rw [if_neg (by decide +kernel)]; exact ⟨rfl, rfl⟩))
    (fun os started H enc _ => lifted os started H enc)
theorem proved : Rows.FnPageRoundTripSaid := over
end fnPageRoundTrip
end Go.Proofs.Ytbfilliflfmaoaa
