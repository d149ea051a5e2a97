/- What is put can be dropped: with an item put and dropped behind all lines, count prints the same, if its key was free. The statement Rows.FnSessionPutDropCardSaid is proved for every input, with no condition of our own; it is a tied card: the library's tables and errors that the row lists are tied by the given tie. -/
import Derived.Test.YtibbpbbgmgdpdaaGreatDoorCard
import Derived.Test.YtibbpbbgmgdpdaaGreatDoorSesY
namespace Go.Proofs.YtibbpbbgmgdpdaaGreatDoor
open Go.ChangeShapes Go.WideShapes Go.ChangeAt Go.RowKit Go.Deep
set_option linter.unusedVariables false
set_option linter.unusedSimpArgs false
set_option maxRecDepth 100000

namespace fnSessionPutDrop
set_option maxRecDepth 100000 in
set_option maxHeartbeats 4000000 in
theorem walk (W : World) (a0 : Option Addr) (cap0 : Nat) (bs : List Int) (b1 : bs.length ≤ cap0) (b2 : ∀ x ∈ bs, 0 ≤ x ∧ x ≤ 255) (b3 : Rd W 0 W.heap.size a0 (bs.map (.int .u8))) (hlib : LibOk W) :
    Calls Tryz.prog 4 #[.slice a0 bs.length cap0] W fun e w' => e = .returned (.bool true) ∧ W.grownBy w' none := by
  by_cases hb : bs.length ≤ 1048576
  rotate_left
  · have hb' : (1048576 : Int) < bs.length := by omega
    generalize bs.length = L at *
    go_enter Tryz.func4, Tryz.ntmps4
    go_wp2
    go_ret
    exact ⟨rfl, gb_refl _ _⟩
  have hb' : (bs.length : Int) ≤ 1048576 := by omega
  have H2 := Lib.hid b1
  have H3 := Lib.hid b2
  have H4 := Lib.hid b3
  have HLIB := Lib.hid hlib
  clear b1 b2 b3 hlib
  go_enter Tryz.func4, Tryz.ntmps4
  go_wp2_with fail
  refine (drawLines_any W a0 cap0 bs H2.out hb H3.out H4.out).mono ?_
  rintro e w1 ⟨ls, A1, c1, rfl, hc1, hn1, hx1, hd, hg⟩
  have D := Lib.hid hd
  have G := Lib.hid hg
  have HX : Hid (∀ x ∈ ls, x.length ≤ 1048576) := Lib.hid (fun x hx => Nat.le_trans (hx1 x hx) (by omega))
  clear hd hg hx1 H2 H3 H4
  go_wp2_with fail
  refine (RunSession_impl (c := c1) (HLIB.out.on G.out) D.out HX.out hc1).mono ?_
  rintro e w2 ⟨rfl, hg⟩
  replace D := Lib.hid (D.out.on hg)
  replace G := Lib.hid (gb_trans G.out hg)
  clear hg
  go_wp2_with fail
  refine (RunSession_spec (c := c1) D.out HX.out (by omega)).mono ?_
  rintro e w3 ⟨rfl, hg⟩
  replace D := Lib.hid (D.out.on hg)
  replace G := Lib.hid (gb_trans G.out hg)
  clear hg
  have HLE := Lib.hid (M.session_le ls)
  obtain ⟨R, hR⟩ : ∃ R, R = tb (M.session ls) := ⟨_, rfl⟩
  rw [← hR]
  have HR := Lib.hid hR
  clear hR
  obtain ⟨i0, hi0, hz0, hz1, hz2⟩ := info_parts info_string
  have hrs : R.size = (M.session ls).length := by rw [HR.out, tb_size]
  have hle := HLE.out
  obtain ⟨r, hr⟩ : ∃ r, r = (M.session ls).length := ⟨_, rfl⟩
  rw [← hr] at hrs hle
  obtain ⟨n, hn⟩ : ∃ n, n = ls.length := ⟨_, rfl⟩
  have HSP : Hid (∀ W', SeesT W' A1 ls → Calls Tryz.prog 11 #[.slice A1 n c1] W' fun e w' => e = .returned (.string (tb (M.session ls))) ∧ W'.grownBy w' none) := Lib.hid (fun W' h => by rw [hn]; exact RunSession_spec (c := c1) h HX.out (by omega))
  rw [← hn] at hn1 hc1 ⊢
  have HN := Lib.hid hn
  have HRL := Lib.hid hr
  clear hr hn
  by_cases hfull : (n : Int) + 3 ≤ 20
  rotate_left
  · have hfull' : (20 : Int) < (n : Int) + 3 := by omega
    have hw20 : IntKind.i64.wrap ((n : Int) + 3) = (n : Int) + 3 := IntWalk.i64_in _ (by omega)
    go_wp2_with fail
    refine (HSP.out _ D.out).mono ?_
    rintro e w4 ⟨rfl, hg⟩
    replace G := Lib.hid (gb_trans G.out hg)
    clear hg
    rw [← HR.out]
    go_wp2_with fail
    go_ret
    exact ⟨rfl, G.out⟩
  have hw20 : IntKind.i64.wrap ((n : Int) + 3) = (n : Int) + 3 := IntWalk.i64_in _ (by omega)
  have hnf : ¬ (20 : Int) < (n : Int) + 3 := by omega
  have hVn : Hid (n ≤ 18) := Lib.hid (by omega)
  go_wp2_with (first | (at_builtin; refine wpList_append_rd _ rfl (.tmp 31) (.tmp 32) 23 rfl w3.heap.size 9 i0 (.string ByteArray.empty) 1 16 Tryz.underlying23 hi0 hz0 hz1 hz2 rfl (by decide) (.slice (some ⟨w3.heap.size, 0, none⟩) 0 0) 0 [] rfl (World.ownsRow_made w3 #[] 0 (Nat.le_refl _) (by decide) rfl) A1 n c1 0 _ (ls.map fun l => Value.string (tb l)) rfl (by rw [List.length_map, HN.out, Nat.mul_one]) (D.out.on (World.grownBy_alloc w3 _ none)) (strs_oneCell _) (by unfold maxLen; omega) (by omega) (by simp) ?_; intro v' w4 hown' hgrow; have T1 := Lib.hid (strs_first hown'); have GV := Lib.hid (gb_new (gb_alloc (gb_refl w3 none) _) hgrow (fun b e => .inl (Nat.le_of_eq (show w3.heap.size = b from Option.some.inj e)))); clear hown' hgrow) | (at_builtin; refine wpList_append_own _ rfl (.tmp 33) (.tmp 34) 23 rfl w3.heap.size 9 i0 (.string ByteArray.empty) 1 16 Tryz.underlying23 hi0 hz0 hz1 hz2 rfl (by decide) _ n (ls.map fun l => Value.string (tb l)) rfl (World.ownsRow.alloc T1.out _) ⟨w4.heap.size, 0, none⟩ 1 1 (([M.lDrop]).map fun l => Value.string (tb l)) rfl rfl (lit_cells w4 9 ([M.lDrop]) rfl) (strs_oneCell _) (by unfold maxLen; omega) (by omega) (by have := GV.out.size; simp; omega) ?_; intro v2 w5 hown2 hgrow2 _; have GV2 := Lib.hid (gb_new (gb_alloc GV.out _) hgrow2 (fun b hb => .inl ((World.ownsRow.lt T1.out b hb).1))); obtain ⟨A2, c2, rfl, hc2, hd2⟩ := strs_push HN.out rfl hown2; have D2 := Lib.hid hd2; clear hown2 hgrow2 hd2))
  replace D := Lib.hid (D.out.on GV2.out)
  replace G := Lib.hid (gb_trans G.out GV2.out)
  refine (run_at (c := c2) (ls ++ [M.lDrop]) (by rw [List.length_append, ← HN.out]) (HLIB.out.on G.out) D2.out (all_app HX.out (by decide)) hc2).mono ?_
  rintro e w6 ⟨rfl, hg⟩
  replace D := Lib.hid (D.out.on hg)
  replace G := Lib.hid (gb_trans G.out hg)
  clear hg T1 GV GV2 D2 hc2 hVn
  obtain ⟨RT, hRT⟩ : ∃ R, R = tb (M.session (ls ++ [M.lDrop])) := ⟨_, rfl⟩
  rw [← hRT]
  have HRT := Lib.hid hRT
  clear hRT
  have hVn : Hid (n ≤ 18) := Lib.hid (by omega)
  go_wp2_with (first | (at_builtin; refine wpList_append_rd _ rfl (.tmp 37) (.tmp 38) 23 rfl w6.heap.size 9 i0 (.string ByteArray.empty) 1 16 Tryz.underlying23 hi0 hz0 hz1 hz2 rfl (by decide) (.slice (some ⟨w6.heap.size, 0, none⟩) 0 0) 0 [] rfl (World.ownsRow_made w6 #[] 0 (Nat.le_refl _) (by decide) rfl) A1 n c1 0 _ (ls.map fun l => Value.string (tb l)) rfl (by rw [List.length_map, HN.out, Nat.mul_one]) (D.out.on (World.grownBy_alloc w6 _ none)) (strs_oneCell _) (by unfold maxLen; omega) (by omega) (by simp) ?_; intro v' w4 hown' hgrow; have T1 := Lib.hid (strs_first hown'); have GV := Lib.hid (gb_new (gb_alloc (gb_refl w6 none) _) hgrow (fun b e => .inl (Nat.le_of_eq (show w6.heap.size = b from Option.some.inj e)))); clear hown' hgrow) | (at_builtin; refine wpList_append_own _ rfl (.tmp 39) (.tmp 40) 23 rfl w6.heap.size 9 i0 (.string ByteArray.empty) 1 16 Tryz.underlying23 hi0 hz0 hz1 hz2 rfl (by decide) _ n (ls.map fun l => Value.string (tb l)) rfl (World.ownsRow.alloc T1.out _) ⟨w4.heap.size, 0, none⟩ 1 1 (([M.tCount]).map fun l => Value.string (tb l)) rfl rfl (lit_cells w4 9 ([M.tCount]) rfl) (strs_oneCell _) (by unfold maxLen; omega) (by omega) (by have := GV.out.size; simp; omega) ?_; intro v2 w5 hown2 hgrow2 _; have GV2 := Lib.hid (gb_new (gb_alloc GV.out _) hgrow2 (fun b hb => .inl ((World.ownsRow.lt T1.out b hb).1))); obtain ⟨A2, c2, rfl, hc2, hd2⟩ := strs_push HN.out rfl hown2; have D2 := Lib.hid hd2; clear hown2 hgrow2 hd2))
  replace D := Lib.hid (D.out.on GV2.out)
  replace G := Lib.hid (gb_trans G.out GV2.out)
  refine (run_at (c := c2) (ls ++ [M.tCount]) (by rw [List.length_append, ← HN.out]) (HLIB.out.on G.out) D2.out (all_app HX.out (by decide)) hc2).mono ?_
  rintro e w8 ⟨rfl, hg⟩
  replace D := Lib.hid (D.out.on hg)
  replace G := Lib.hid (gb_trans G.out hg)
  clear hg T1 GV GV2 D2 hc2 hVn
  obtain ⟨RA, hRA⟩ : ∃ R, R = tb (M.session (ls ++ [M.tCount])) := ⟨_, rfl⟩
  rw [← hRA]
  have HRA := Lib.hid hRA
  clear hRA
  have hVn : Hid (n ≤ 18) := Lib.hid (by omega)
  go_wp2_with (first | (at_builtin; refine wpList_append_rd _ rfl (.tmp 43) (.tmp 44) 23 rfl w8.heap.size 9 i0 (.string ByteArray.empty) 1 16 Tryz.underlying23 hi0 hz0 hz1 hz2 rfl (by decide) (.slice (some ⟨w8.heap.size, 0, none⟩) 0 0) 0 [] rfl (World.ownsRow_made w8 #[] 0 (Nat.le_refl _) (by decide) rfl) A1 n c1 0 _ (ls.map fun l => Value.string (tb l)) rfl (by rw [List.length_map, HN.out, Nat.mul_one]) (D.out.on (World.grownBy_alloc w8 _ none)) (strs_oneCell _) (by unfold maxLen; omega) (by omega) (by simp) ?_; intro v' w4 hown' hgrow; have T1 := Lib.hid (strs_first hown'); have GV := Lib.hid (gb_new (gb_alloc (gb_refl w8 none) _) hgrow (fun b e => .inl (Nat.le_of_eq (show w8.heap.size = b from Option.some.inj e)))); clear hown' hgrow) | (at_builtin; refine wpList_append_own _ rfl (.tmp 45) (.tmp 46) 23 rfl w8.heap.size 9 i0 (.string ByteArray.empty) 1 16 Tryz.underlying23 hi0 hz0 hz1 hz2 rfl (by decide) _ n (ls.map fun l => Value.string (tb l)) rfl (World.ownsRow.alloc T1.out _) ⟨w4.heap.size, 0, none⟩ 3 3 (([M.lPut, M.lDrop, M.tCount]).map fun l => Value.string (tb l)) rfl rfl (lit_cells w4 9 ([M.lPut, M.lDrop, M.tCount]) rfl) (strs_oneCell _) (by unfold maxLen; omega) (by omega) (by have := GV.out.size; simp; omega) ?_; intro v2 w5 hown2 hgrow2 _; have GV2 := Lib.hid (gb_new (gb_alloc GV.out _) hgrow2 (fun b hb => .inl ((World.ownsRow.lt T1.out b hb).1))); obtain ⟨A2, c2, rfl, hc2, hd2⟩ := strs_push HN.out rfl hown2; have D2 := Lib.hid hd2; clear hown2 hgrow2 hd2))
  replace D := Lib.hid (D.out.on GV2.out)
  replace G := Lib.hid (gb_trans G.out GV2.out)
  refine (run_at (c := c2) (ls ++ [M.lPut, M.lDrop, M.tCount]) (by rw [List.length_append, ← HN.out]) (HLIB.out.on G.out) D2.out (all_app HX.out (by decide)) hc2).mono ?_
  rintro e w9 ⟨rfl, hg⟩
  replace D := Lib.hid (D.out.on hg)
  replace G := Lib.hid (gb_trans G.out hg)
  clear hg T1 GV GV2 D2 hc2 hVn
  obtain ⟨RB, hRB⟩ : ∃ R, R = tb (M.session (ls ++ [M.lPut, M.lDrop, M.tCount])) := ⟨_, rfl⟩
  rw [← hRB]
  have HRB := Lib.hid hRB
  clear hRB
  obtain ⟨d, x, y, hd3, e0, e1, e2, hy3, himp⟩ := M.putdrop ls (by have := HN.out; omega)
  have hRT : RT.size = (M.session (ls ++ [M.lDrop])).length := by rw [HRT.out, tb_size]
  obtain ⟨sT, hsRT⟩ : ∃ s, s = (M.session (ls ++ [M.lDrop])).length := ⟨_, rfl⟩
  rw [← hsRT] at hRT
  have nRT : sT = r + (d).length := by rw [hsRT, e0, List.length_append, HRL.out]
  have leRT : sT ≤ 14100 := by rw [hsRT]; exact M.session_le _
  have exRT : RT.extract r sT = tb (d) := by rw [HRT.out]; exact ext_drop e0 r sT HRL.out hsRT
  clear hsRT
  have hRA : RA.size = (M.session (ls ++ [M.tCount])).length := by rw [HRA.out, tb_size]
  obtain ⟨sA, hsRA⟩ : ∃ s, s = (M.session (ls ++ [M.tCount])).length := ⟨_, rfl⟩
  rw [← hsRA] at hRA
  have nRA : sA = r + (x).length := by rw [hsRA, e1, List.length_append, HRL.out]
  have leRA : sA ≤ 14100 := by rw [hsRA]; exact M.session_le _
  have exRA : RA.extract r sA = tb (x) := by rw [HRA.out]; exact ext_drop e1 r sA HRL.out hsRA
  clear hsRA
  have hRB : RB.size = (M.session (ls ++ [M.lPut, M.lDrop, M.tCount])).length := by rw [HRB.out, tb_size]
  obtain ⟨sB, hsRB⟩ : ∃ s, s = (M.session (ls ++ [M.lPut, M.lDrop, M.tCount])).length := ⟨_, rfl⟩
  rw [← hsRB] at hRB
  have nRB : sB = r + (y).length := by rw [hsRB, e2, List.length_append, HRL.out]
  have leRB : sB ≤ 14100 := by rw [hsRB]; exact M.session_le _
  have exRB : RB.extract r sB = tb (y) := by rw [HRB.out]; exact ext_drop e2 r sB HRL.out hsRB
  clear hsRB
  have hsT : (sT : Int) = (r : Int) + 3 := by omega
  have lw : IntKind.i64.wrap ((r : Int) + 3) = (r : Int) + 3 := IntWalk.i64_in _ (by omega)
  have lT : (r : Int) ≤ sT := by omega
  have lT' : (r : Int) ≤ (r : Int) + 3 := by omega
  have lt3 : ((r : Int) + 3).toNat = sT := by omega
  have l1 : ¬ (sA : Int) < r := by omega
  have l2 : ¬ (sB : Int) < (r : Int) + 3 := by omega
  have l3 : (r : Int) ≤ sA := by omega
  have l4 : (r : Int) ≤ sB := by omega
  by_cases hd : d = M.noL
  · have hor := himp hd
    rw [hd, show tb M.noL = (⟨#[110, 111, 10]⟩ : ByteArray) from rfl] at exRT
    have hX : (tb x).size = x.length := tb_size x
    have hY : (tb y).size = y.length := tb_size y
    have hpart : (tb y).extract 0 3 = tb (y.take 3) := by rw [tb_extract, List.drop_zero]
    obtain ⟨sX, hsX⟩ : ∃ s, s = x.length := ⟨_, rfl⟩
    obtain ⟨sY, hsY⟩ : ∃ s, s = y.length := ⟨_, rfl⟩
    rw [← hsX] at hX nRA
    rw [← hsY] at hY nRB hy3
    have y3 : (3 : Int) ≤ sY := by omega
    rcases hor with hno | ⟨y0, h0, hyx⟩
    · rw [hno, show tb M.noL = (⟨#[110, 111, 10]⟩ : ByteArray) from rfl] at hpart
      clear hno himp e0 e1 e2 HRT HRA HRB HRL HR HLE hsX hsY hd hd3 nRT nRA nRB
      generalize tb y = Y at *
      generalize tb x = X at *
      go_wp2_with fail
      go_ret
      exact ⟨rfl, G.out⟩
    · have hex : (tb y).extract y0.length sY = tb x := ext_drop hyx _ _ rfl hsY
      have hlen : sY = y0.length + sX := by rw [hsY, hyx, List.length_append, hsX]
      obtain ⟨b, hb⟩ : ∃ s, s = y0.length := ⟨_, rfl⟩
      rw [← hb] at hex hlen h0
      have l5 : (sX : Int) < sY := by omega
      have l6 : IntKind.i64.wrap ((sY : Int) - sX) = (b : Int) := by rw [IntWalk.i64_in _ (by omega)]; omega
      have l7 : (b : Int) ≤ sY := by omega
      by_cases hno : y.take 3 = M.noL
      · rw [hno, show tb M.noL = (⟨#[110, 111, 10]⟩ : ByteArray) from rfl] at hpart
        clear hno himp e0 e1 e2 HRT HRA HRB HRL HR HLE hsX hsY hd hd3 hyx hb nRT nRA nRB hlen
        generalize tb y = Y at *
        generalize tb x = X at *
        go_wp2_with fail
        go_ret
        exact ⟨rfl, G.out⟩
      · have t1 : ((tb (y.take 3)).toList == [110, 111, 10]) = false := by
          rw [tb_toList]
          exact beq_eq_false_iff_ne.2 hno
        clear hno himp e0 e1 e2 HRT HRA HRB HRL HR HLE hsX hsY hd hd3 hyx hb nRT nRA nRB hlen
        generalize tb (y.take 3) = Z at *
        generalize tb y = Y at *
        generalize tb x = X at *
        go_wp2_with fail
        go_ret
        exact ⟨rfl, G.out⟩
  · have t1 : ((tb d).toList == [110, 111, 10]) = false := by
      rw [tb_toList]
      exact beq_eq_false_iff_ne.2 hd
    clear himp e0 e1 e2 HRT HRA HRB HRL HR HLE hd hd3 nRT nRA nRB
    generalize tb d = Dd at *
    go_wp2_with fail
    go_ret
    exact ⟨rfl, G.out⟩
end fnSessionPutDrop
/-! the row's step, and the card -/
namespace fnSessionPutDrop
set_option maxRecDepth 100000 in
theorem lifted (os : Os) (started : os.Started) (H : Type) (enc : TypeId × Value → H) :
    ReturnsInHanded {} Tryz.checked os 4 .any (fun w args => (Rows.fnSessionPutDropSpec.pre enc Tryz.prog Tryz.f4 [] false w args ∧ laidMetH Tryz.prog Rows.fnSessionPutDropRow.laid w) ∧ sizedMet enc Tryz.prog Tryz.f4 (OpenSpec.ofChange Rows.fnSessionPutDropSpec) false w args)
      (Rows.fnSessionPutDropSpec.post enc Tryz.prog Tryz.f4 false true false false) := by
  refine returns_laid_shaped (C := Tryz.checked) (X := fun w _ => laidMetH Tryz.prog Rows.fnSessionPutDropRow.laid w) (fun _ _ _ hh h => h.of_heap hh) own started (by kernel_rfl) Tryz.func4
    (ChangeSpec.witness_shaped (enc := enc) (C := Tryz.checked) (os := os) (X := fun w _ => laidMetH Tryz.prog Rows.fnSessionPutDropRow.laid w) false (World.laidAll Tryz.prog os Rows.fnSessionPutDropRow.laid) #[.slice none 0 0] 8 (World.laidAll_os _ _ _)
      (World.shaped_of_ZipB (by kernel_rfl) (by kernel_rfl)) (by kernel_rfl) (by kernel_rfl) (by kernel_rfl)
      (by rw [MakeChecks.laidMetH_plain _ _ _ (by kernel_rfl)]; exact laidMet_laidAll _ (by kernel_rfl) (by kernel_rfl))) ?_
  intro W base args ds gs before hval0 hW hL hsh
  have hval : ∀ (j : Nat) t v, Tryz.f4.params[j]? = some t → args[j]? = some v → Value.okWide Tryz.prog W .any base t v := hval0
  have hW' := hW
  obtain ⟨p, q, hA0, hV, rfl, hfz, hnd⟩ := hW
  have hA : DataW.TrodAll enc Tryz.prog W 0 (fun _ => true) true Tryz.f4.params.toList args.toList ds p := hA0
  rw [Tryz.params4] at hA hval
  obtain ⟨v0, vs0, d0, ds0, p0, q0, hargs, rfl, rfl, h0, r0⟩ := trodAll_cons hA
  obtain ⟨rfl, rfl, rfl⟩ := trodAll_nil r0
  obtain rfl : args = #[v0] := by cases args; simp_all
  obtain ⟨rfl, rfl⟩ := trodVars_none hV
  obtain ⟨a0, len0, cap0, rfl⟩ := okWide_slice Tryz.underlying22 (hval 0 22 v0 rfl rfl)
  have k0 := h0
  have lt0 : ∀ x ∈ p0, x.block < W.heap.size := by obtain ⟨m, hm⟩ := k0; exact DataW.trod_lt m _ _ _ hm
  obtain ⟨bs, rfl, b1, b2, b3⟩ := code_row h0
  rw [MakeChecks.laidMetH_plain _ _ _ (by kernel_rfl)] at hL
  have hlib : LibOk W := libOk_of hL hsh
  clear hA0 hval0
  refine (walk W a0 cap0 bs b1 b2 b3 hlib).mono fun e W' ⟨he, bel0⟩ => ?_
  have bel := gb_below bel0
  subst he
  exact ⟨_, rfl, _, _, _, [], _, [], hW', trodAll_mk1 (shut_bool Tryz.underlying4 _), (trodAll_cons_mk (Below.trod laidOut (by kernel_rfl) (of_decide_eq_true (by kernel_rfl)) k0 bel lt0) trodAll_mk0), rfl, bel.frame _, fun h => by cases h⟩
set_option maxRecDepth 100000 in
theorem over : Rows.fnSessionPutDropRow.holds Tryz.pinned (OpenSpec.ofChange Rows.fnSessionPutDropSpec) :=
  OpenClaim.holds_of_wide 4 Tryz.f4 rfl rfl rfl rfl rfl rfl rfl ⟨rfl, rfl, rfl, rfl, rfl⟩ rfl rfl rfl rfl rfl (by kernel_rfl) Tryz.func4 (by kernel_rfl)
    (of_decide_eq_true (by kernel_rfl)) (by unfold Func.isWrapper; first | (rw [if_pos (by decide +kernel)]; kernel_rfl) | (rw [if_neg (by decide +kernel)]; exact ⟨rfl, rfl⟩))
    (fun os started H enc _ => lifted os started H enc)
set_option maxRecDepth 100000 in
theorem proved : Rows.FnSessionPutDropCardSaid :=
  Claim7.holds_tied_plain_at .later [] [.data, .data, .data, .data, .sentinel, .sentinel, .pinned] true (true, "ec18b42cbbaa372bb440bb6ac51bb759f5cce2bc3979719b94ad816ce137e71c") true
    over (fun _ h => by cases h) (by kernel_rfl) (fun _ h => by cases h) fnSessionPutDrop_row_tie rfl ⟨rfl, rfl⟩ (by kernel_rfl) rfl
    (fun f fn hf hfn => by
      obtain rfl : f = 4 := Option.some.inj ((show Tryz.prog.funcNamed Rows.fnSessionPutDropRow.func = some 4 by kernel_rfl).symm.trans hf) |>.symm
      obtain rfl : fn = Tryz.f4 := (Option.some.inj (Tryz.func4.symm.trans hfn)).symm
      exact ⟨by kernel_rfl, fun j t ht => by
        rw [Tryz.params4] at ht
        have hm : t ∈ [22] := by simpa using Array.mem_of_getElem? ht
        have hall : ([22].all fun u => !Tryz.prog.wantsStandIn u) = true := by kernel_rfl
        exact (show Tryz.prog.wantsStandIn t = false by simpa using List.all_eq_true.1 hall t hm)⟩)
    (by kernel_rfl)
end fnSessionPutDrop
end Go.Proofs.YtibbpbbgmgdpdaaGreatDoor
