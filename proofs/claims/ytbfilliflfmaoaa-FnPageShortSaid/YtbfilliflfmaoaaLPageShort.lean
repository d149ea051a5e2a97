/- FnPageShort: short pages are no pages: proved for every input, with no condition. -/
import Derived.Test.YtbfilliflfmaoaaFrame
import Derived.Test.YtbfilliflfmaoaaPageL
namespace Go.Proofs.Ytbfilliflfmaoaa
open Go.ChangeShapes Go.WideShapes Go.ChangeAt Go.RowKit
set_option linter.unusedVariables false
namespace fnPageShort
set_option maxHeartbeats 2000000 in
theorem walk (w : World) (A : Option Addr) (c : Nat) (bs : List Int) (h2 : bs.length ≤ c) (h3 : ∀ x ∈ bs, 0 ≤ x ∧ x ≤ 255) (h4 : Rd w 0 w.heap.size A (bs.map (.int .u8))) :
    Calls Try.prog 5 #[.slice A bs.length c] w fun e w' => e = .returned (.bool true) ∧ w.grownBy w' none := by
  have H2 := Lib.hid h2
  have H3 := Lib.hid h3
  have H4 := Lib.hid h4
  clear h2 h3 h4
  by_cases hb : bs.length ≤ 1048576
  rotate_left
  · have hb' : (1048576 : Int) < bs.length := by omega
    generalize bs.length = L at *
    go_enter Try.func5, Try.ntmps5
    go_wp2
    go_ret
    exact ⟨rfl, gb_refl _ _⟩
  have hb' : (bs.length : Int) ≤ 1048576 := by omega
  go_enter Try.func5, Try.ntmps5
  go_wp2_with fail
  refine (DrawFormatPage_any w A c bs H2.out hb H3.out H4.out).mono ?_
  rintro e W ⟨A1, c1, L, rfl, hc1, hd, hg⟩
  have D := Lib.hid hd
  have G := Lib.hid hg
  clear hd hg
  go_wp2_with fail
  refine (fp_impl D.out).mono ?_
  rintro e W ⟨A2, c2, rfl, hc2, hd, hg⟩
  replace D := Lib.hid (D.out.on hg)
  replace G := Lib.hid (gb_trans G.out hg)
  have E := Lib.hid hd
  clear hg hd
  go_wp2_with fail
  refine (fp_spec D.out).mono ?_
  rintro e W ⟨A3, c3, rfl, hc3, hd, hg⟩
  replace D := Lib.hid (D.out.on hg)
  replace E := Lib.hid (E.out.on hg)
  replace G := Lib.hid (gb_trans G.out hg)
  have F := Lib.hid hd
  clear hg hd
  go_wp2_with fail
  refine (eb_any E.out F.out).mono ?_
  rintro e W ⟨rfl, hg⟩
  replace D := Lib.hid (D.out.on hg)
  replace E := Lib.hid (E.out.on hg)
  replace G := Lib.hid (gb_trans G.out hg)
  rw [decide_eq_true rfl]
  clear hg F
  cases hv : M.validStore L
  · have HV : Hid (M.FormatPage L = []) := Lib.hid (by unfold M.FormatPage; rw [hv]; rfl)
    clear hv
    have E0 := Lib.hid (HV.out ▸ E.out : SeesN .u8 _ A2 [])
    rw [HV.out] at hc2 ⊢
    have C1 : Hid (∀ W', SeesI W' A1 L → Calls Try.prog 11 #[.slice A1 L.length c1] W' (GotN .u8 W' [])) := Lib.hid fun W' h => HV.out ▸ fp_spec h
    go_wp2_with fail
    refine (C1.out _ D.out).mono ?_
    rintro e W ⟨A4, c4, rfl, hc4, hd, hg⟩
    replace D := Lib.hid (D.out.on hg)
    replace E0 := Lib.hid (E0.out.on hg)
    replace G := Lib.hid (gb_trans G.out hg)
    have F := Lib.hid hd
    clear hg hd
    go_wp2_with fail
    refine (eb_any (l := []) (m := []) E0.out F.out).mono ?_
    rintro e W ⟨rfl, hg⟩
    replace G := Lib.hid (gb_trans G.out hg)
    clear hg
    go_wp2_with fail
    go_ret
    exact ⟨rfl, G.out⟩
  · have HV := Lib.hid hv
    have HF : Hid (M.FormatPage L = M.page L) := Lib.hid (by unfold M.FormatPage; rw [hv]; rfl)
    have HPL := Lib.hid (M.page_length (M.validStore_of hv).2.1)
    have hl16 := (M.validStore_of hv).1
    clear hv
    rw [HF.out] at hc2 E ⊢
    have HBY : Hid (M.bytes (M.page L)) := Lib.hid (HF.out ▸ M.FormatPage_bytes L)
    obtain ⟨i0, hi0, hz0, hz1, hz2⟩ := info_parts info_u8'
    have TL : Hid (((M.page L).take (6 * L.length + 1)).length = 6 * L.length + 1) := Lib.hid (by rw [List.length_take, HPL.out]; omega)
    have ML : Hid ((M.page L ++ [0]).length = 6 * L.length + 2 + 1) := Lib.hid (by rw [List.length_append, HPL.out]; rfl)
    have MB : Hid (M.bytes (M.page L ++ [0])) := Lib.hid (fun x hx => by rw [List.mem_append] at hx; rcases hx with hx | hx; exact HBY.out x hx; simp at hx; omega)
    have C1 := Lib.hid (pp_none (c := c2) (E.out.take (6 * L.length + 1)) (fun x hx => HBY.out x (List.mem_of_mem_take hx)) (by rw [TL.out]; rw [HPL.out] at hc2; omega) (M.ParsePage_cut HV.out))
    rw [TL.out] at C1
    rw [HPL.out] at hc2 ⊢
    have t0 : (((6 * L.length + 2 : Nat) : Int) == 0) = false := beq_eq_false_iff_ne.2 (by omega)
    go_wp2_with fail
    refine C1.out.mono ?_
    rintro e W ⟨A4, c4, rfl, hg⟩
    replace E := Lib.hid (E.out.on hg)
    replace G := Lib.hid (gb_trans G.out hg)
    clear hg C1
    have EA := Lib.hid (E.out.on (World.grownBy_alloc _ (.cells #[] 5) none))
    go_wp2_with (first | (at_builtin; refine wpList_append_rd _ rfl (.tmp 40) (.tmp 41) 24 rfl W.heap.size 5 i0 (.int .u8 0) 1 1 Try.underlying24 hi0 hz0 hz1 hz2 rfl (by decide) (.slice (some ⟨W.heap.size, 0, none⟩) 0 0) 0 [] rfl (World.ownsRow_made W #[] 0 (Nat.le_refl _) (by decide) rfl) A2 (6 * L.length + 2) c2 0 _ ((M.page L).map (.int .u8)) rfl (by rw [List.length_map, HPL.out, Nat.mul_one]) EA.out.1 (ints_oneCell _ _) (by unfold maxLen; omega) (by omega) (by simp) ?_; intro v' w4 hown' hgrow; have T1 := Lib.hid hown'; have T2 := Lib.hid hgrow; have hsz4 := hgrow.size; simp only [World.size_alloc] at hsz4; clear hown' hgrow) | (at_builtin; refine wpList_append_own _ rfl (.tmp 42) (.tmp 43) 24 rfl W.heap.size 5 i0 (.int .u8 0) 1 1 Try.underlying24 hi0 hz0 hz1 hz2 rfl (by decide) _ (0 + (6 * L.length + 2)) ([] ++ (M.page L).map (.int .u8)) rfl (T1.out.alloc _) ⟨w4.heap.size, 0, none⟩ 1 1 [.int .u8 0] rfl rfl one_cell_new (one_cells rfl) (by unfold maxLen; omega) (by omega) (by simp; omega) ?_; intro v5 w5 hown' hgrow _; have S1 := Lib.hid hown'; have S2 := Lib.hid hgrow; clear hown' hgrow; obtain ⟨A5, c5, hv5, hc5, hr5⟩ := OwnInts.rd (k := .u8) (t := 5) (l := M.page L ++ [0]) (lo := W.heap.size) (w := w5) (v := v5) (by unfold OwnInts; rw [ML.out]; have h := S1.out; rw [Nat.zero_add, List.nil_append] at h; simpa using h); subst hv5; rw [ML.out]; have D5 := Lib.hid (show SeesN .u8 w5 A5 (M.page L ++ [0]) from ⟨hr5.wide (Nat.zero_le _) (Nat.le_refl _), by rw [ML.out]; omega⟩); have C2 := Lib.hid (ML.out ▸ pp_none D5.out MB.out hc5 (M.ParsePage_more HV.out)); clear hr5 hc5))
    refine C2.out.mono ?_
    rintro e W9 ⟨A6, c6, rfl, hg⟩
    have G9 := Lib.hid (gb_trans (gb_new (gb_alloc (gb_new (gb_alloc (gb_refl W none) _) T2.out (fun b hb => .inl (by simp [Value.ownBlock] at hb; omega))) _) S2.out (fun b hb => .inl (T1.out.lt b hb).1)) hg)
    clear hg
    go_wp2_with fail
    go_ret
    exact ⟨rfl, gb_trans G.out G9.out⟩
end fnPageShort
/-! the row's step -/
namespace fnPageShort
set_option maxRecDepth 100000 in
theorem lifted (os : Os) (started : os.Started) (H : Type) (enc : TypeId × Value → H) :
    ReturnsInHanded {} Try.checked os 5 .any (Rows.fnPageShortSpec.pre6 enc Try.prog Try.f5 Rows.fnPageShortRow.domain false) (Rows.fnPageShortSpec.post enc Try.prog Try.f5 false true false false) := by
  refine returnsInHanded_of_change (C := Try.checked) own started (by kernel_rfl) Try.func5
    (ChangeSpec.witness6 (enc := enc) (C := Try.checked) false ⟨#[], #[.slice none 0 0], []⟩ 8 (by kernel_rfl) (by kernel_rfl) (by kernel_rfl) (by kernel_rfl)) ?_
  intro W base args ds gs before hval0 hW hcnd _
  have hval : ∀ (j : Nat) t v, Try.f5.params[j]? = some t → args[j]? = some v → Value.okWide Try.prog W .any base t v := hval0
  have hW' := hW
  obtain ⟨p, q, hA0, hV, rfl, hfz, hnd⟩ := hW
  have hA : DataW.TrodAll enc Try.prog W 0 (fun _ => true) true Try.f5.params.toList args.toList ds p := hA0
  rw [Try.params5] at hA hval
  obtain ⟨v0, vs0, d0, ds0, p0, q0, hargs, rfl, rfl, h0, r0⟩ := trodAll_cons hA
  obtain ⟨rfl, rfl, rfl⟩ := trodAll_nil r0
  obtain rfl : args = #[v0] := by cases args; simp_all
  obtain ⟨rfl, rfl⟩ := trodVars_none hV
  obtain ⟨a0, len0, cap0, rfl⟩ := okWide_slice Try.underlying24 (hval 0 24 v0 rfl rfl)
  have k0 := h0
  have lt0 : ∀ x ∈ p0, x.block < W.heap.size := by obtain ⟨m, hm⟩ := k0; exact DataW.trod_lt m _ _ _ hm
  obtain ⟨bs, rfl, b1, b2, b3⟩ := code_row h0
  clear hA0 hval0
  refine (walk W a0 cap0 bs b1 b2 b3).mono fun e W' ⟨he, bel0⟩ => ?_
  have bel := gb_below bel0
  subst he
  exact ⟨_, rfl, _, _, _, [], _, [], hW', trodAll_mk1 (shut_bool Try.underlying4 _), (trodAll_cons_mk (Below.trod laidOut (by kernel_rfl) (of_decide_eq_true (by kernel_rfl)) k0 bel lt0) trodAll_mk0), rfl, bel.frame _, fun h => by cases h⟩
set_option maxRecDepth 100000 in
theorem over : Rows.fnPageShortRow.holds Try.pinned (OpenSpec.ofChange Rows.fnPageShortSpec) :=
  OpenClaim.holds_of_wide 5 Try.f5 rfl rfl rfl rfl rfl rfl rfl ⟨rfl, rfl, rfl, rfl, rfl⟩ rfl rfl rfl rfl rfl (by kernel_rfl) Try.func5 (by kernel_rfl)
    (of_decide_eq_true (by kernel_rfl)) (by unfold Func.isWrapper; first | (rw [if_pos (by decide +kernel)]; kernel_rfl) | (rw [if_neg (by decide +kernel)]; exact ⟨rfl, rfl⟩))
    (fun os started H enc _ => lifted os started H enc)
theorem proved : Rows.FnPageShortSaid := over
end fnPageShort
end Go.Proofs.Ytbfilliflfmaoaa
