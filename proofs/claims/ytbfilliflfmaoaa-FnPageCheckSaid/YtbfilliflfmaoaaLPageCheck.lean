/- FnPageCheck: pages have checksums: proved for every input, with no condition. -/
import Derived.Test.YtbfilliflfmaoaaFrame
import Derived.Test.YtbfilliflfmaoaaPageL
namespace Go.Proofs.Ytbfilliflfmaoaa
open Go.ChangeShapes Go.WideShapes Go.ChangeAt Go.RowKit
set_option linter.unusedVariables false
namespace fnPageCheck
set_option maxHeartbeats 2000000 in
theorem walk (w : World) (A : Option Addr) (c : Nat) (bs : List Int) (h2 : bs.length ≤ c) (h3 : ∀ x ∈ bs, 0 ≤ x ∧ x ≤ 255) (h4 : Rd w 0 w.heap.size A (bs.map (.int .u8))) :
    Calls Try.prog 6 #[.slice A bs.length c] w fun e w' => e = .returned (.bool true) ∧ w.grownBy w' none := by
  have H2 := Lib.hid h2
  have H3 := Lib.hid h3
  have H4 := Lib.hid h4
  clear h2 h3 h4
  by_cases hb : bs.length ≤ 1048576
  rotate_left
  · have hb' : (1048576 : Int) < bs.length := by omega
    generalize bs.length = L at *
    go_enter Try.func6, Try.ntmps6
    go_wp2
    go_ret
    exact ⟨rfl, gb_refl _ _⟩
  have hb' : (bs.length : Int) ≤ 1048576 := by omega
  go_enter Try.func6, Try.ntmps6
  go_wp2_with fail
  refine (DrawFormatPage_any w A c bs H2.out hb H3.out H4.out).mono ?_
  rintro e W ⟨A1, c1, L, rfl, hc1, hd, hg⟩
  have D := Lib.hid hd
  have G := Lib.hid hg
  clear hd hg
  go_wp2_with fail
  refine (fp_impl D.out).mono ?_
  rintro e W ⟨A2, c2, rfl, hc2, hd, hg⟩
  replace D := Lib.hid (D.out.on hg)
  replace G := Lib.hid (gb_trans G.out hg)
  have E := Lib.hid hd
  clear hg hd
  go_wp2_with fail
  refine (fp_spec D.out).mono ?_
  rintro e W ⟨A3, c3, rfl, hc3, hd, hg⟩
  replace D := Lib.hid (D.out.on hg)
  replace E := Lib.hid (E.out.on hg)
  replace G := Lib.hid (gb_trans G.out hg)
  have F := Lib.hid hd
  clear hg hd
  go_wp2_with fail
  refine (eb_any E.out F.out).mono ?_
  rintro e W ⟨rfl, hg⟩
  replace D := Lib.hid (D.out.on hg)
  replace E := Lib.hid (E.out.on hg)
  replace G := Lib.hid (gb_trans G.out hg)
  rw [decide_eq_true rfl]
  clear hg F
  cases hv : M.validStore L
  · have HV : Hid (M.FormatPage L = []) := Lib.hid (by unfold M.FormatPage; rw [hv]; rfl)
    clear hv
    have E0 := Lib.hid (HV.out ▸ E.out : SeesN .u8 _ A2 [])
    rw [HV.out] at hc2 ⊢
    have C1 : Hid (∀ W', SeesI W' A1 L → Calls Try.prog 11 #[.slice A1 L.length c1] W' (GotN .u8 W' [])) := Lib.hid fun W' h => HV.out ▸ fp_spec h
    go_wp2_with fail
    refine (C1.out _ D.out).mono ?_
    rintro e W ⟨A4, c4, rfl, hc4, hd, hg⟩
    replace D := Lib.hid (D.out.on hg)
    replace E0 := Lib.hid (E0.out.on hg)
    replace G := Lib.hid (gb_trans G.out hg)
    have F := Lib.hid hd
    clear hg hd
    go_wp2_with fail
    refine (eb_any (l := []) (m := []) E0.out F.out).mono ?_
    rintro e W ⟨rfl, hg⟩
    replace G := Lib.hid (gb_trans G.out hg)
    clear hg
    go_wp2_with fail
    go_ret
    exact ⟨rfl, G.out⟩
  · have HV := Lib.hid hv
    have HF : Hid (M.FormatPage L = M.page L) := Lib.hid (by unfold M.FormatPage; rw [hv]; rfl)
    have HPL := Lib.hid (M.page_length (M.validStore_of hv).2.1)
    have hl16 := (M.validStore_of hv).1
    clear hv
    rw [HF.out] at hc2 E ⊢
    have HBY : Hid (M.bytes (M.page L)) := Lib.hid (HF.out ▸ M.FormatPage_bytes L)
    obtain ⟨i0, hi0, hz0, hz1, hz2⟩ := info_parts info_u8'
    have HVI := Lib.hid (M.validStore_of HV.out).2.1
    have HLAST := Lib.hid (M.page_last HVI.out)
    have HTAKE := Lib.hid (M.page_take HVI.out)
    have hck := M.chk_rng (M.body L)
    have hne : M.chk (M.body L) + 1 ≠ M.chk (M.body L) := by omega
    have HPN := Lib.hid (M.ParsePage_last HV.out hne)
    have hbl : (M.body L).length = 6 * L.length + 1 := by rw [← HTAKE.out, List.length_take, HPL.out]; omega
    have HCO : Hid (M.checkOf (M.body L) = M.chk (M.body L)) := Lib.hid (by unfold M.checkOf; rw [if_pos (by rw [hbl]; omega)])
    have HBL := Lib.hid hbl
    have HBB : Hid (M.bytes (M.body L)) := Lib.hid (fun x hx => HBY.out x (by rw [← HTAKE.out] at hx; exact List.mem_of_mem_take hx))
    obtain ⟨ck, hck'⟩ : ∃ ck, ck = M.chk (M.body L) := ⟨_, rfl⟩
    rw [← hck'] at hck HPN HLAST HCO
    have HSB := Lib.hid (bytes_set HBY.out (6 * L.length + 1) (show 0 ≤ ck + 1 by omega) (show ck + 1 ≤ 255 by omega))
    have HSL : Hid (((M.page L).set (6 * L.length + 1) (ck + 1)).length = 6 * L.length + 2) := Lib.hid (by rw [List.length_set, HPL.out])
    clear hne hck' hbl
    rw [HPL.out] at hc2 ⊢
    have t0 : (((6 * L.length + 2 : Nat) : Int) == 0) = false := beq_eq_false_iff_ne.2 (by omega)
    have EA := Lib.hid (E.out.on (World.grownBy_alloc _ (.cells #[] 5) none))
    go_wp2_with (at_builtin; refine wpList_append_rd _ rfl (.tmp 33) (.tmp 34) 24 rfl W.heap.size 5 i0 (.int .u8 0) 1 1 Try.underlying24 hi0 hz0 hz1 hz2 rfl (by decide) (.slice (some ⟨W.heap.size, 0, none⟩) 0 0) 0 [] rfl (World.ownsRow_made W #[] 0 (Nat.le_refl _) (by decide) rfl) A2 (6 * L.length + 2) c2 0 _ ((M.page L).map (.int .u8)) rfl (by rw [List.length_map, HPL.out, Nat.mul_one]) EA.out.1 (ints_oneCell _ _) (by unfold maxLen; omega) (by omega) (by simp) ?_; intro v' w4 hown' hgrow; rw [Nat.zero_add, List.nil_append] at hown'; obtain ⟨A5, c5, hv5, hc5, _⟩ := OwnInts.rd (k := .u8) (t := 5) (l := M.page L) (lo := W.heap.size) (w := w4) (v := v') (by unfold OwnInts; rw [HPL.out]; exact hown'); rw [HPL.out] at hv5 hc5; subst hv5; obtain ⟨g, hA5, hg1, hg2, hg3⟩ := own_form' hown' (by omega); subst hA5; have k1 : w4.cell? ⟨g, 6 * L.length + 1, none⟩ = some (.int .u8 ck) := by { rw [hown'.cellAt _ (by omega), List.getElem?_map, HLAST.out]; rfl }; have f1 : w4.frozen? ⟨g, 6 * L.length + 1, none⟩ = false := hown'.frozenAt _; have T1 := Lib.hid hown'; have T2 := Lib.hid hgrow; clear hown' hgrow hg3)
    have ST := Lib.hid (World.ownsRow.stored T1.out (6 * L.length + 1) (.int .u8 (ck + 1))).1
    rw [← List.map_set] at ST
    have D5 := Lib.hid (dpSees ST.out (by rw [HSL.out]; omega))
    have C2 := Lib.hid (HSL.out ▸ pp_none (c := c5) D5.out HSB.out (by rw [HSL.out]; exact hc5) HPN.out)
    have G4 := Lib.hid (gb_setCell (p := ⟨g, 6 * L.length + 1, none⟩) (gb_new (gb_alloc (gb_refl W none) (.cells #[] 5)) T2.out (fun b hb => .inl (by simp [Value.ownBlock] at hb; omega))) (.inl hg1) (.int .u8 (ck + 1)))
    refine C2.out.mono ?_
    rintro e W9 ⟨A6, c6, rfl, hg⟩
    have G9 := Lib.hid (gb_trans G4.out hg)
    have E9 := Lib.hid (E.out.on G9.out)
    clear hg k1 f1 C2
    obtain ⟨b, o, hA, _, _, e0⟩ := E9.out.1.at_ (j := 6 * L.length + 1) (u := .int .u8 ck) (by rw [List.getElem?_map, HLAST.out]; rfl)
    subst hA
    have HCK : Hid (∀ q, Calls Try.prog 25 #[.slice (some ⟨b, o, none⟩) (6 * L.length + 1) c2] (W9.drewN q) fun e w' => e = .returned (.int .i64 ck) ∧ W9.drewN q = w') := Lib.hid fun q => by
      have h := CheckOf_impl (W9.drewN q) (some ⟨b, o, none⟩) c2 0 W9.heap.size (M.body L) (by rw [HBL.out]; omega) HBB.out (by rw [← HTAKE.out, List.map_take]; exact E9.out.1.take _)
      rw [HCO.out, HBL.out] at h
      exact h
    go_wp2_with fail
    go_quiet ((go_at_call 25; exact quiet_here (HCK.out _)))
    go_wp2_with fail
    go_ret
    exact ⟨by simp, gb_drewN (gb_trans G.out G9.out) _⟩
end fnPageCheck
/-! the row's step -/
namespace fnPageCheck
set_option maxRecDepth 100000 in
theorem lifted (os : Os) (started : os.Started) (H : Type) (enc : TypeId × Value → H) :
    ReturnsInHanded {} Try.checked os 6 .any (Rows.fnPageCheckSpec.pre6 enc Try.prog Try.f6 Rows.fnPageCheckRow.domain false) (Rows.fnPageCheckSpec.post enc Try.prog Try.f6 false true false false) := by
  refine returnsInHanded_of_change (C := Try.checked) own started (by kernel_rfl) Try.func6
    (ChangeSpec.witness6 (enc := enc) (C := Try.checked) false ⟨#[], #[.slice none 0 0], []⟩ 8 (by kernel_rfl) (by kernel_rfl) (by kernel_rfl) (by kernel_rfl)) ?_
  intro W base args ds gs before hval0 hW hcnd _
  have hval : ∀ (j : Nat) t v, Try.f6.params[j]? = some t → args[j]? = some v → Value.okWide Try.prog W .any base t v := hval0
  have hW' := hW
  obtain ⟨p, q, hA0, hV, rfl, hfz, hnd⟩ := hW
  have hA : DataW.TrodAll enc Try.prog W 0 (fun _ => true) true Try.f6.params.toList args.toList ds p := hA0
  rw [Try.params6] at hA hval
  obtain ⟨v0, vs0, d0, ds0, p0, q0, hargs, rfl, rfl, h0, r0⟩ := trodAll_cons hA
  obtain ⟨rfl, rfl, rfl⟩ := trodAll_nil r0
  obtain rfl : args = #[v0] := by cases args; simp_all
  obtain ⟨rfl, rfl⟩ := trodVars_none hV
  obtain ⟨a0, len0, cap0, rfl⟩ := okWide_slice Try.underlying24 (hval 0 24 v0 rfl rfl)
  have k0 := h0
  have lt0 : ∀ x ∈ p0, x.block < W.heap.size := by obtain ⟨m, hm⟩ := k0; exact DataW.trod_lt m _ _ _ hm
  obtain ⟨bs, rfl, b1, b2, b3⟩ := code_row h0
  clear hA0 hval0
  refine (walk W a0 cap0 bs b1 b2 b3).mono fun e W' ⟨he, bel0⟩ => ?_
  have bel := gb_below bel0
  subst he
  exact ⟨_, rfl, _, _, _, [], _, [], hW', trodAll_mk1 (shut_bool Try.underlying4 _), (trodAll_cons_mk (Below.trod laidOut (by kernel_rfl) (of_decide_eq_true (by kernel_rfl)) k0 bel lt0) trodAll_mk0), rfl, bel.frame _, fun h => by cases h⟩
set_option maxRecDepth 100000 in
theorem over : Rows.fnPageCheckRow.holds Try.pinned (OpenSpec.ofChange Rows.fnPageCheckSpec) :=
  OpenClaim.holds_of_wide 6 Try.f6 rfl rfl rfl rfl rfl rfl rfl ⟨rfl, rfl, rfl, rfl, rfl⟩ rfl rfl rfl rfl rfl (by kernel_rfl) Try.func6 (by kernel_rfl)
    (of_decide_eq_true (by kernel_rfl)) (by unfold Func.isWrapper; first | (rw [if_pos (by decide +kernel)]; kernel_rfl) | (rw [if_neg (by decide +kernel)]; exact ⟨rfl, rfl⟩))
    (fun os started H enc _ => lifted os started H enc)
theorem proved : Rows.FnPageCheckSaid := over
end fnPageCheck
end Go.Proofs.Ytbfilliflfmaoaa
