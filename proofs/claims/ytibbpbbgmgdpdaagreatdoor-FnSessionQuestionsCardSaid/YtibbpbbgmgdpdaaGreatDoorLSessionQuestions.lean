/- Questions change nothing: with questions behind all lines, count prints the same. The statement Rows.FnSessionQuestionsCardSaid is proved for every input, with no condition of our own; it is a tied card: the library's tables and errors that the row lists are tied by the given tie. -/
import Derived.Test.YtibbpbbgmgdpdaaGreatDoorCard
import Derived.Test.YtibbpbbgmgdpdaaGreatDoorSesY
namespace Go.Proofs.YtibbpbbgmgdpdaaGreatDoor
open Go.ChangeShapes Go.WideShapes Go.ChangeAt Go.RowKit Go.Deep
set_option linter.unusedVariables false
set_option linter.unusedSimpArgs false
set_option maxRecDepth 100000

namespace fnSessionQuestions
set_option maxRecDepth 100000 in
set_option maxHeartbeats 4000000 in
theorem walk (W : World) (a0 : Option Addr) (cap0 : Nat) (bs : List Int) (b1 : bs.length ≤ cap0) (b2 : ∀ x ∈ bs, 0 ≤ x ∧ x ≤ 255) (b3 : Rd W 0 W.heap.size a0 (bs.map (.int .u8))) (hlib : LibOk W) :
    Calls Tryz.prog 5 #[.slice a0 bs.length cap0] W fun e w' => e = .returned (.bool true) ∧ W.grownBy w' none := by
  by_cases hb : bs.length ≤ 1048576
  rotate_left
  · have hb' : (1048576 : Int) < bs.length := by omega
    generalize bs.length = L at *
    go_enter Tryz.func5, Tryz.ntmps5
    go_wp2
    go_ret
    exact ⟨rfl, gb_refl _ _⟩
  have hb' : (bs.length : Int) ≤ 1048576 := by omega
  have H2 := Lib.hid b1
  have H3 := Lib.hid b2
  have H4 := Lib.hid b3
  have HLIB := Lib.hid hlib
  clear b1 b2 b3 hlib
  go_enter Tryz.func5, Tryz.ntmps5
  go_wp2_with fail
  refine (drawLines_any W a0 cap0 bs H2.out hb H3.out H4.out).mono ?_
  rintro e w1 ⟨ls, A1, c1, rfl, hc1, hn1, hx1, hd, hg⟩
  have D := Lib.hid hd
  have G := Lib.hid hg
  have HX : Hid (∀ x ∈ ls, x.length ≤ 1048576) := Lib.hid (fun x hx => Nat.le_trans (hx1 x hx) (by omega))
  clear hd hg hx1 H2 H3 H4
  go_wp2_with fail
  refine (RunSession_impl (c := c1) (HLIB.out.on G.out) D.out HX.out hc1).mono ?_
  rintro e w2 ⟨rfl, hg⟩
  replace D := Lib.hid (D.out.on hg)
  replace G := Lib.hid (gb_trans G.out hg)
  clear hg
  go_wp2_with fail
  refine (RunSession_spec (c := c1) D.out HX.out (by omega)).mono ?_
  rintro e w3 ⟨rfl, hg⟩
  replace D := Lib.hid (D.out.on hg)
  replace G := Lib.hid (gb_trans G.out hg)
  clear hg
  have HLE := Lib.hid (M.session_le ls)
  obtain ⟨R, hR⟩ : ∃ R, R = tb (M.session ls) := ⟨_, rfl⟩
  rw [← hR]
  have HR := Lib.hid hR
  clear hR
  obtain ⟨i0, hi0, hz0, hz1, hz2⟩ := info_parts info_string
  have hrs : R.size = (M.session ls).length := by rw [HR.out, tb_size]
  have hle := HLE.out
  obtain ⟨r, hr⟩ : ∃ r, r = (M.session ls).length := ⟨_, rfl⟩
  rw [← hr] at hrs hle
  obtain ⟨n, hn⟩ : ∃ n, n = ls.length := ⟨_, rfl⟩
  have HSP : Hid (∀ W', SeesT W' A1 ls → Calls Tryz.prog 11 #[.slice A1 n c1] W' fun e w' => e = .returned (.string (tb (M.session ls))) ∧ W'.grownBy w' none) := Lib.hid (fun W' h => by rw [hn]; exact RunSession_spec (c := c1) h HX.out (by omega))
  rw [← hn] at hn1 hc1 ⊢
  have HN := Lib.hid hn
  have HRL := Lib.hid hr
  clear hr hn
  by_cases hfull : (n : Int) + 3 ≤ 20
  rotate_left
  · have hfull' : (20 : Int) < (n : Int) + 3 := by omega
    have hw20 : IntKind.i64.wrap ((n : Int) + 3) = (n : Int) + 3 := IntWalk.i64_in _ (by omega)
    go_wp2_with fail
    refine (HSP.out _ D.out).mono ?_
    rintro e w4 ⟨rfl, hg⟩
    replace G := Lib.hid (gb_trans G.out hg)
    clear hg
    rw [← HR.out]
    go_wp2_with fail
    go_ret
    exact ⟨rfl, G.out⟩
  have hw20 : IntKind.i64.wrap ((n : Int) + 3) = (n : Int) + 3 := IntWalk.i64_in _ (by omega)
  have hnf : ¬ (20 : Int) < (n : Int) + 3 := by omega
  have hVn : Hid (n ≤ 18) := Lib.hid (by omega)
  go_wp2_with (first | (at_builtin; refine wpList_append_rd _ rfl (.tmp 30) (.tmp 31) 23 rfl w3.heap.size 9 i0 (.string ByteArray.empty) 1 16 Tryz.underlying23 hi0 hz0 hz1 hz2 rfl (by decide) (.slice (some ⟨w3.heap.size, 0, none⟩) 0 0) 0 [] rfl (World.ownsRow_made w3 #[] 0 (Nat.le_refl _) (by decide) rfl) A1 n c1 0 _ (ls.map fun l => Value.string (tb l)) rfl (by rw [List.length_map, HN.out, Nat.mul_one]) (D.out.on (World.grownBy_alloc w3 _ none)) (strs_oneCell _) (by unfold maxLen; omega) (by omega) (by simp) ?_; intro v' w4 hown' hgrow; have T1 := Lib.hid (strs_first hown'); have GV := Lib.hid (gb_new (gb_alloc (gb_refl w3 none) _) hgrow (fun b e => .inl (Nat.le_of_eq (show w3.heap.size = b from Option.some.inj e)))); clear hown' hgrow) | (at_builtin; refine wpList_append_own _ rfl (.tmp 32) (.tmp 33) 23 rfl w3.heap.size 9 i0 (.string ByteArray.empty) 1 16 Tryz.underlying23 hi0 hz0 hz1 hz2 rfl (by decide) _ n (ls.map fun l => Value.string (tb l)) rfl (World.ownsRow.alloc T1.out _) ⟨w4.heap.size, 0, none⟩ 1 1 (([M.tCount]).map fun l => Value.string (tb l)) rfl rfl (lit_cells w4 9 ([M.tCount]) rfl) (strs_oneCell _) (by unfold maxLen; omega) (by omega) (by have := GV.out.size; simp; omega) ?_; intro v2 w5 hown2 hgrow2 _; have GV2 := Lib.hid (gb_new (gb_alloc GV.out _) hgrow2 (fun b hb => .inl ((World.ownsRow.lt T1.out b hb).1))); obtain ⟨A2, c2, rfl, hc2, hd2⟩ := strs_push HN.out rfl hown2; have D2 := Lib.hid hd2; clear hown2 hgrow2 hd2))
  replace D := Lib.hid (D.out.on GV2.out)
  replace G := Lib.hid (gb_trans G.out GV2.out)
  refine (run_at (c := c2) (ls ++ [M.tCount]) (by rw [List.length_append, ← HN.out]) (HLIB.out.on G.out) D2.out (all_app HX.out (by decide)) hc2).mono ?_
  rintro e w6 ⟨rfl, hg⟩
  replace D := Lib.hid (D.out.on hg)
  replace G := Lib.hid (gb_trans G.out hg)
  clear hg T1 GV GV2 D2 hc2 hVn
  obtain ⟨RA, hRA⟩ : ∃ R, R = tb (M.session (ls ++ [M.tCount])) := ⟨_, rfl⟩
  rw [← hRA]
  have HRA := Lib.hid hRA
  clear hRA
  have hVn : Hid (n ≤ 18) := Lib.hid (by omega)
  go_wp2_with (first | (at_builtin; refine wpList_append_rd _ rfl (.tmp 36) (.tmp 37) 23 rfl w6.heap.size 9 i0 (.string ByteArray.empty) 1 16 Tryz.underlying23 hi0 hz0 hz1 hz2 rfl (by decide) (.slice (some ⟨w6.heap.size, 0, none⟩) 0 0) 0 [] rfl (World.ownsRow_made w6 #[] 0 (Nat.le_refl _) (by decide) rfl) A1 n c1 0 _ (ls.map fun l => Value.string (tb l)) rfl (by rw [List.length_map, HN.out, Nat.mul_one]) (D.out.on (World.grownBy_alloc w6 _ none)) (strs_oneCell _) (by unfold maxLen; omega) (by omega) (by simp) ?_; intro v' w4 hown' hgrow; have T1 := Lib.hid (strs_first hown'); have GV := Lib.hid (gb_new (gb_alloc (gb_refl w6 none) _) hgrow (fun b e => .inl (Nat.le_of_eq (show w6.heap.size = b from Option.some.inj e)))); clear hown' hgrow) | (at_builtin; refine wpList_append_own _ rfl (.tmp 38) (.tmp 39) 23 rfl w6.heap.size 9 i0 (.string ByteArray.empty) 1 16 Tryz.underlying23 hi0 hz0 hz1 hz2 rfl (by decide) _ n (ls.map fun l => Value.string (tb l)) rfl (World.ownsRow.alloc T1.out _) ⟨w4.heap.size, 0, none⟩ 3 3 (([M.tPair, M.lNear, M.tCount]).map fun l => Value.string (tb l)) rfl rfl (lit_cells w4 9 ([M.tPair, M.lNear, M.tCount]) rfl) (strs_oneCell _) (by unfold maxLen; omega) (by omega) (by have := GV.out.size; simp; omega) ?_; intro v2 w5 hown2 hgrow2 _; have GV2 := Lib.hid (gb_new (gb_alloc GV.out _) hgrow2 (fun b hb => .inl ((World.ownsRow.lt T1.out b hb).1))); obtain ⟨A2, c2, rfl, hc2, hd2⟩ := strs_push HN.out rfl hown2; have D2 := Lib.hid hd2; clear hown2 hgrow2 hd2))
  replace D := Lib.hid (D.out.on GV2.out)
  replace G := Lib.hid (gb_trans G.out GV2.out)
  refine (run_at (c := c2) (ls ++ [M.tPair, M.lNear, M.tCount]) (by rw [List.length_append, ← HN.out]) (HLIB.out.on G.out) D2.out (all_app HX.out (by decide)) hc2).mono ?_
  rintro e w8 ⟨rfl, hg⟩
  replace D := Lib.hid (D.out.on hg)
  replace G := Lib.hid (gb_trans G.out hg)
  clear hg T1 GV GV2 D2 hc2 hVn
  obtain ⟨RB, hRB⟩ : ∃ R, R = tb (M.session (ls ++ [M.tPair, M.lNear, M.tCount])) := ⟨_, rfl⟩
  rw [← hRB]
  have HRB := Lib.hid hRB
  clear hRB
  obtain ⟨x, y0, e1, e2, h0⟩ := M.questions ls (by have := HN.out; omega)
  have hRA : RA.size = (M.session (ls ++ [M.tCount])).length := by rw [HRA.out, tb_size]
  obtain ⟨sA, hsRA⟩ : ∃ s, s = (M.session (ls ++ [M.tCount])).length := ⟨_, rfl⟩
  rw [← hsRA] at hRA
  have nRA : sA = r + (x).length := by rw [hsRA, e1, List.length_append, HRL.out]
  have leRA : sA ≤ 14100 := by rw [hsRA]; exact M.session_le _
  have exRA : RA.extract r sA = tb (x) := by rw [HRA.out]; exact ext_drop e1 r sA HRL.out hsRA
  clear hsRA
  have hRB : RB.size = (M.session (ls ++ [M.tPair, M.lNear, M.tCount])).length := by rw [HRB.out, tb_size]
  obtain ⟨sB, hsRB⟩ : ∃ s, s = (M.session (ls ++ [M.tPair, M.lNear, M.tCount])).length := ⟨_, rfl⟩
  rw [← hsRB] at hRB
  have nRB : sB = r + (y0 ++ x).length := by rw [hsRB, e2, List.length_append, HRL.out]
  have leRB : sB ≤ 14100 := by rw [hsRB]; exact M.session_le _
  have exRB : RB.extract r sB = tb (y0 ++ x) := by rw [HRB.out]; exact ext_drop e2 r sB HRL.out hsRB
  clear hsRB
  have hX : (tb x).size = x.length := tb_size x
  have hY : (tb (y0 ++ x)).size = y0.length + x.length := by rw [tb_size, List.length_append]
  have hex : (tb (y0 ++ x)).extract y0.length (y0.length + x.length) = tb x := ext_drop (l := y0 ++ x) rfl _ _ rfl (by rw [List.length_append])
  rw [List.length_append] at nRB
  generalize tb (y0 ++ x) = Y at *
  generalize tb x = X at *
  obtain ⟨sX, hsX⟩ : ∃ s, s = x.length := ⟨_, rfl⟩
  obtain ⟨d, hd⟩ : ∃ s, s = y0.length := ⟨_, rfl⟩
  rw [← hsX] at hX hY hex nRA nRB
  rw [← hd] at hY hex nRB h0
  obtain ⟨sY, hsY⟩ : ∃ s, s = d + sX := ⟨_, rfl⟩
  rw [← hsY] at hY hex
  clear e1 e2 hsX hd HRA HRB HRL HR HLE
  have l1 : ¬ (sA : Int) < r := by omega
  have l2 : ¬ (sB : Int) < r := by omega
  have l3 : (r : Int) ≤ sA := by omega
  have l4 : (r : Int) ≤ sB := by omega
  have l5 : (sX : Int) < sY := by omega
  have l6 : IntKind.i64.wrap ((sY : Int) - sX) = (d : Int) := by rw [IntWalk.i64_in _ (by omega)]; omega
  have l7 : (d : Int) ≤ sY := by omega
  clear nRA nRB hsY
  go_wp2_with fail
  go_ret
  exact ⟨rfl, G.out⟩
end fnSessionQuestions
/-! the row's step, and the card -/
namespace fnSessionQuestions
set_option maxRecDepth 100000 in
theorem lifted (os : Os) (started : os.Started) (H : Type) (enc : TypeId × Value → H) :
    ReturnsInHanded {} Tryz.checked os 5 .any (fun w args => (Rows.fnSessionQuestionsSpec.pre enc Tryz.prog Tryz.f5 [] false w args ∧ laidMetH Tryz.prog Rows.fnSessionQuestionsRow.laid w) ∧ sizedMet enc Tryz.prog Tryz.f5 (OpenSpec.ofChange Rows.fnSessionQuestionsSpec) false w args)
      (Rows.fnSessionQuestionsSpec.post enc Tryz.prog Tryz.f5 false true false false) := by
  refine returns_laid_shaped (C := Tryz.checked) (X := fun w _ => laidMetH Tryz.prog Rows.fnSessionQuestionsRow.laid w) (fun _ _ _ hh h => h.of_heap hh) own started (by kernel_rfl) Tryz.func5
    (ChangeSpec.witness_shaped (enc := enc) (C := Tryz.checked) (os := os) (X := fun w _ => laidMetH Tryz.prog Rows.fnSessionQuestionsRow.laid w) false (World.laidAll Tryz.prog os Rows.fnSessionQuestionsRow.laid) #[.slice none 0 0] 8 (World.laidAll_os _ _ _)
      (World.shaped_of_ZipB (by kernel_rfl) (by kernel_rfl)) (by kernel_rfl) (by kernel_rfl) (by kernel_rfl)
      (by rw [MakeChecks.laidMetH_plain _ _ _ (by kernel_rfl)]; exact laidMet_laidAll _ (by kernel_rfl) (by kernel_rfl))) ?_
  intro W base args ds gs before hval0 hW hL hsh
  have hval : ∀ (j : Nat) t v, Tryz.f5.params[j]? = some t → args[j]? = some v → Value.okWide Tryz.prog W .any base t v := hval0
  have hW' := hW
  obtain ⟨p, q, hA0, hV, rfl, hfz, hnd⟩ := hW
  have hA : DataW.TrodAll enc Tryz.prog W 0 (fun _ => true) true Tryz.f5.params.toList args.toList ds p := hA0
  rw [Tryz.params5] at hA hval
  obtain ⟨v0, vs0, d0, ds0, p0, q0, hargs, rfl, rfl, h0, r0⟩ := trodAll_cons hA
  obtain ⟨rfl, rfl, rfl⟩ := trodAll_nil r0
  obtain rfl : args = #[v0] := by cases args; simp_all
  obtain ⟨rfl, rfl⟩ := trodVars_none hV
  obtain ⟨a0, len0, cap0, rfl⟩ := okWide_slice Tryz.underlying22 (hval 0 22 v0 rfl rfl)
  have k0 := h0
  have lt0 : ∀ x ∈ p0, x.block < W.heap.size := by obtain ⟨m, hm⟩ := k0; exact DataW.trod_lt m _ _ _ hm
  obtain ⟨bs, rfl, b1, b2, b3⟩ := code_row h0
  rw [MakeChecks.laidMetH_plain _ _ _ (by kernel_rfl)] at hL
  have hlib : LibOk W := libOk_of hL hsh
  clear hA0 hval0
  refine (walk W a0 cap0 bs b1 b2 b3 hlib).mono fun e W' ⟨he, bel0⟩ => ?_
  have bel := gb_below bel0
  subst he
  exact ⟨_, rfl, _, _, _, [], _, [], hW', trodAll_mk1 (shut_bool Tryz.underlying4 _), (trodAll_cons_mk (Below.trod laidOut (by kernel_rfl) (of_decide_eq_true (by kernel_rfl)) k0 bel lt0) trodAll_mk0), rfl, bel.frame _, fun h => by cases h⟩
set_option maxRecDepth 100000 in
theorem over : Rows.fnSessionQuestionsRow.holds Tryz.pinned (OpenSpec.ofChange Rows.fnSessionQuestionsSpec) :=
  OpenClaim.holds_of_wide 5 Tryz.f5 rfl rfl rfl rfl rfl rfl rfl ⟨rfl, rfl, rfl, rfl, rfl⟩ rfl rfl rfl rfl rfl (by kernel_rfl) Tryz.func5 (by kernel_rfl)
    (of_decide_eq_true (by kernel_rfl)) (by unfold Func.isWrapper; first | (rw [if_pos (by decide +kernel)]; kernel_rfl) | (rw [if_neg (by decide +kernel)]; exact ⟨rfl, rfl⟩))
    (fun os started H enc _ => lifted os started H enc)
set_option maxRecDepth 100000 in
theorem proved : Rows.FnSessionQuestionsCardSaid :=
  Claim7.holds_tied_plain_at .later [] [.data, .data, .data, .data, .sentinel, .sentinel, .pinned] true (true, "ec18b42cbbaa372bb440bb6ac51bb759f5cce2bc3979719b94ad816ce137e71c") true
    over (fun _ h => by cases h) (by kernel_rfl) (fun _ h => by cases h) fnSessionQuestions_row_tie rfl ⟨rfl, rfl⟩ (by kernel_rfl) rfl
    (fun f fn hf hfn => by
      obtain rfl : f = 5 := Option.some.inj ((show Tryz.prog.funcNamed Rows.fnSessionQuestionsRow.func = some 5 by kernel_rfl).symm.trans hf) |>.symm
      obtain rfl : fn = Tryz.f5 := (Option.some.inj (Tryz.func5.symm.trans hfn)).symm
      exact ⟨by kernel_rfl, fun j t ht => by
        rw [Tryz.params5] at ht
        have hm : t ∈ [22] := by simpa using Array.mem_of_getElem? ht
        have hall : ([22].all fun u => !Tryz.prog.wantsStandIn u) = true := by kernel_rfl
        exact (show Tryz.prog.wantsStandIn t = false by simpa using List.all_eq_true.1 hall t hm)⟩)
    (by kernel_rfl)
end fnSessionQuestions
end Go.Proofs.YtibbpbbgmgdpdaaGreatDoor
