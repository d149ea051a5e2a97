/- FnExactFormatPage: the program's FormatPage is the reference's: proved for every input, with no condition. -/
import Derived.Test.YtbfilliflfmaoaaFrameI
import Derived.Test.YtbfilliflfmaoaaPageW
import Derived.Test.YtbfilliflfmaoaaExK
namespace Go.Proofs.Ytbfilliflfmaoaa
open Go.ChangeShapes Go.WideShapes Go.ChangeAt Go.RowKit
set_option linter.unusedVariables false
namespace fnExactFormatPage
set_option maxHeartbeats 2000000 in
theorem walk (w : World) (A : Option Addr) (c : Nat) (L : List M.Item) (hl : L.length ≤ maxLen) (hp : ∀ x ∈ L, x.pos.length ≤ maxLen) (hr : RdI w 0 w.heap.size A L) :
    Calls Try.prog 3 #[.slice A L.length c] w fun e w' => e = .returned (.bool true) ∧ w.grownBy w' none := by
  have HR := Lib.hid hr
  have HP := Lib.hid hp
  clear hr hp
  go_enter Try.func3, Try.ntmps3
  go_wp2_with fail
  refine (szItemS_any w A c _ _ L 1048576 hl HP.out HR.out (Nat.le_refl _) (by omega) (by omega)).mono ?_
  rintro e W ⟨r, rfl, hr1, hr2, hg⟩
  have G := Lib.hid hg
  have HZ := Lib.hid hr2
  by_cases hr0 : r < 0
  · go_wp2_with fail
    go_ret
    exact ⟨rfl, G.out⟩
  · have HS := Lib.hid (show Small L from hr2 (by omega))
    have KA := Lib.hid (Held.on (Held.now (lo := 0) (Nat.le_refl w.heap.size)) hg)
    have hsz := hg.size
    clear hg hr2 hl HZ
    have hL1 := HS.out.1
    obtain ⟨K, hK⟩ : ∃ K, K = M.FormatPage L := ⟨_, rfl⟩
    have hKl : K.length ≤ 98 := by rw [hK]; exact M.FormatPage_le L
    have HK := Lib.hid hK
    clear hK
    have HRd : Hid (∀ W, Held 0 w.heap.size w W → RdI W 0 W.heap.size A L) := Lib.hid fun W h => (HR.out.agree h.1).wide (Nat.le_refl _) h.2
    -- the reference's answer
    go_wp2_with fail
    refine (tis_any (HRd.out _ KA.out) HS.out).mono ?_
    rintro e W ⟨A1, c1, LV1, lo1, hi1, rfl, hm1, a1, a2, a3, ho, hg⟩
    replace KA := Lib.hid (KA.out.on hg)
    replace G := Lib.hid (gb_trans G.out hg)
    have hz := hg.size
    clear hg
    have R1 := Lib.hid (ho.rdI.wide (Nat.zero_le _) (Nat.le_refl _))
    rw [hm1] at R1
    clear ho hm1
    have HC := Lib.hid (FormatPage_spec (c := c1) HS.out.1 HS.out.2 R1.out)
    rw [← HK.out] at HC
    go_wp2_with fail
    refine (HC.out.mono (fun _ _ h => madeN_own h)).mono ?_
    rintro e W ⟨A2, c2, lo2, hi2, rfl, hc2, b1, b2, b3, ho, hg⟩
    replace KA := Lib.hid (KA.out.on hg)
    replace G := Lib.hid (gb_trans G.out hg)
    have hz := hg.size
    clear hg
    have OW := Lib.hid ho
    have KW := Lib.hid (Held.now (lo := lo2) b3)
    clear ho HC R1
    -- the argument
    go_wp2_with fail
    refine (tis_any (HRd.out _ KA.out) HS.out).mono ?_
    rintro e W ⟨A3, c3, LV, lo3, hi3, rfl, hm3, d1, d2, d3, ho, hg⟩
    replace KA := Lib.hid (KA.out.on hg)
    replace KW := Lib.hid (KW.out.on hg)
    replace G := Lib.hid (gb_trans G.out hg)
    have hz := hg.size
    clear hg
    have OX := Lib.hid ho
    have KX := Lib.hid (Held.now (lo := lo3) d3)
    have HM := Lib.hid hm3
    have R1 := Lib.hid (ho.rdI.wide (Nat.zero_le _) (Nat.le_refl _))
    rw [hm3] at R1
    clear ho hm3
    -- the answer
    have HC := Lib.hid (FormatPage_impl (c := c3) HS.out.1 HS.out.2 R1.out)
    rw [← HK.out] at HC
    go_wp2_with fail
    refine (HC.out.mono (fun _ _ h => madeN_own h)).mono ?_
    rintro e W ⟨A4, c4, lo4, hi4, rfl, hc4, e1, e2, e3, ho, hg⟩
    replace KA := Lib.hid (KA.out.on hg)
    replace KW := Lib.hid (KW.out.on hg)
    replace KX := Lib.hid (KX.out.on hg)
    replace G := Lib.hid (gb_trans G.out hg)
    have hz := hg.size
    clear hg
    have OG := Lib.hid ho
    have KG := Lib.hid (Held.now (lo := lo4) e3)
    clear ho HC R1
    -- they are equal, the argument is as it was
    go_wp2_with fail
    refine (ebs_any (c := c4) (d := c2) (by omega) (OG.out.agree KG.out.1).rd (OW.out.agree KW.out.1).rd).mono ?_
    rintro e W ⟨rfl, hg⟩
    replace KA := Lib.hid (KA.out.on hg)
    replace KW := Lib.hid (KW.out.on hg)
    replace KX := Lib.hid (KX.out.on hg)
    replace KG := Lib.hid (KG.out.on hg)
    replace G := Lib.hid (gb_trans G.out hg)
    have hz := hg.size
    clear hg
    rw [decide_eq_true rfl]
    go_wp2_with fail
    refine (tis_any (HRd.out _ KA.out) HS.out).mono ?_
    rintro e W ⟨A5, c5, LV5, lo5, hi5, rfl, hm5, f1, f2, f3, ho, hg⟩
    replace KA := Lib.hid (KA.out.on hg)
    replace KW := Lib.hid (KW.out.on hg)
    replace KX := Lib.hid (KX.out.on hg)
    replace KG := Lib.hid (KG.out.on hg)
    replace G := Lib.hid (gb_trans G.out hg)
    have hz := hg.size
    clear hg
    have R5 := Lib.hid ho.rdI
    have R3 := Lib.hid (OX.out.agree KX.out.1).rdI
    rw [hm5] at R5
    rw [HM.out] at R3
    clear ho hm5
    go_wp2_with fail
    refine (eqItemS_same _ A3 A5 c3 c5 _ _ _ _ L HS.out.1 HS.out.2 R3.out R5.out (Nat.le_refl _) (Nat.le_refl _)).mono ?_
    rintro e W ⟨rfl, hg⟩
    replace KA := Lib.hid (KA.out.on hg)
    replace KW := Lib.hid (KW.out.on hg)
    replace KX := Lib.hid (KX.out.on hg)
    replace KG := Lib.hid (KG.out.on hg)
    replace G := Lib.hid (gb_trans G.out hg)
    have hz := hg.size
    clear hg
    clear R3 R5
    -- the argument is marked
    have HN : Hid (L.length = LV.length) := Lib.hid (by rw [← HM.out, List.length_map])
    have HSV : Hid (Small (LV.map (·.1))) := Lib.hid (by rw [HM.out]; exact HS.out)
    have hsb := szI_small HSV.out
    go_wp2_with fail
    refine (mis_any HN.out HSV.out (OX.out.agree KX.out.1) (by omega) (by omega)).mono ?_
    rintro e W ⟨rfl, _, hw⟩
    replace KA := Lib.hid (KA.out.wrote hw (by omega))
    replace KW := Lib.hid (KW.out.wrote hw (by omega))
    replace KG := Lib.hid (KG.out.wrote hw (by omega))
    replace G := Lib.hid (Wrote.gb G.out hw (by omega))
    have hz := hw.size
    clear hw
    obtain ⟨q, hq⟩ : ∃ q, q = (1 : Int) + szI LV := ⟨_, rfl⟩
    have hq0 : 0 ≤ q := by omega
    rw [← hq]
    clear hq KX OX
    go_wp2_with fail
    refine (ebs_any (c := c4) (d := c2) (by omega) (OG.out.agree KG.out.1).rd (OW.out.agree KW.out.1).rd).mono ?_
    rintro e W ⟨rfl, hg⟩
    replace KA := Lib.hid (KA.out.on hg)
    replace KW := Lib.hid (KW.out.on hg)
    replace KG := Lib.hid (KG.out.on hg)
    replace G := Lib.hid (gb_trans G.out hg)
    have hz := hg.size
    clear hg
    rw [decide_eq_true rfl]
    -- the answer is marked
    go_wp2_with fail
    refine (markByteS_any _ A4 c4 lo4 hi4 K 1 (by omega) (OG.out.agree KG.out.1).1 OG.out.2 (by omega) (by omega)).mono ?_
    rintro e W ⟨rfl, ho, hw⟩
    replace KA := Lib.hid (KA.out.wrote hw (by omega))
    replace KW := Lib.hid (KW.out.wrote hw (by omega))
    replace G := Lib.hid (Wrote.gb G.out hw (by omega))
    have hz := hw.size
    clear hw
    have OM := Lib.hid (show OwnIn .u8 5 W lo4 hi4 (.slice A4 K.length c4) (ren8 1 K.length) from ⟨ho, OG.out.2⟩)
    have KM := Lib.hid (Held.now (lo := lo4) (show hi4 ≤ W.heap.size by omega))
    clear ho KG OG
    go_wp2_with fail
    refine (heldByteS_any W A4 c4 _ _ K.length 1 (by omega) (OM.out.agree KM.out.1).rd (by omega) (by omega)).mono ?_
    rintro e w' ⟨rfl, rfl⟩
    have tq : ((1 : Int) + K.length != 1 + K.length) = false := by simp
    -- another call leaves it as it is
    go_wp2_with fail
    refine (tis_any (HRd.out _ KA.out) HS.out).mono ?_
    rintro e W ⟨A7, c7, LV7, lo7, hi7, rfl, hm7, g1, g2, g3, ho, hg⟩
    replace KA := Lib.hid (KA.out.on hg)
    replace KW := Lib.hid (KW.out.on hg)
    replace KM := Lib.hid (KM.out.on hg)
    replace G := Lib.hid (gb_trans G.out hg)
    have hz := hg.size
    clear hg
    have R7 := Lib.hid (ho.rdI.wide (Nat.zero_le _) (Nat.le_refl _))
    rw [hm7] at R7
    clear ho hm7
    have HC := Lib.hid (FormatPage_impl (c := c7) HS.out.1 HS.out.2 R7.out)
    rw [← HK.out] at HC
    go_wp2_with fail
    refine (HC.out.mono (fun _ _ h => madeN_own h)).mono ?_
    rintro e W ⟨A8, c8, lo8, hi8, rfl, hc8, i1, i2, i3, ho, hg⟩
    replace KA := Lib.hid (KA.out.on hg)
    replace KW := Lib.hid (KW.out.on hg)
    replace KM := Lib.hid (KM.out.on hg)
    replace G := Lib.hid (gb_trans G.out hg)
    have hz := hg.size
    clear hg
    have OH := Lib.hid ho
    clear ho HC R7
    go_wp2_with fail
    refine (ebs_any (c := c8) (d := c2) (by omega) OH.out.rd (OW.out.agree KW.out.1).rd).mono ?_
    rintro e W ⟨rfl, hg⟩
    replace KA := Lib.hid (KA.out.on hg)
    replace KM := Lib.hid (KM.out.on hg)
    replace G := Lib.hid (gb_trans G.out hg)
    have hz := hg.size
    clear hg
    rw [decide_eq_true rfl]
    go_wp2_with fail
    refine (heldByteS_any W A4 c4 _ _ K.length 1 (by omega) (OM.out.agree KM.out.1).rd (by omega) (by omega)).mono ?_
    rintro e w' ⟨rfl, rfl⟩
    go_wp2_with fail
    go_ret
    exact ⟨rfl, G.out⟩
end fnExactFormatPage
/-! the row's step -/
namespace fnExactFormatPage
set_option maxRecDepth 100000 in
theorem lifted (os : Os) (started : os.Started) (H : Type) (enc : TypeId × Value → H) :
    ReturnsInHanded {} Try.checked os 3 .any (Rows.fnExactFormatPageSpec.pre6 enc Try.prog Try.f3 Rows.fnExactFormatPageRow.domain false) (Rows.fnExactFormatPageSpec.post enc Try.prog Try.f3 false true false false) := by
  refine returnsInHanded_of_change (C := Try.checked) own started (by kernel_rfl) Try.func3
    (ChangeSpec.witness6 (enc := enc) (C := Try.checked) false ⟨#[], #[.slice none 0 0], []⟩ 8 (by kernel_rfl) (by kernel_rfl) (by kernel_rfl) (by kernel_rfl)) ?_
  intro W base args ds gs before hval0 hW hcnd _
  have hval : ∀ (j : Nat) t v, Try.f3.params[j]? = some t → args[j]? = some v → Value.okWide Try.prog W .any base t v := hval0
  have hW' := hW
  obtain ⟨p, q, hA0, hV, rfl, hfz, hnd⟩ := hW
  have hA : DataW.TrodAll enc Try.prog W 0 (fun _ => true) true Try.f3.params.toList args.toList ds p := hA0
  rw [Try.params3] at hA hval
  obtain ⟨v0, vs0, d0, ds0, p0, q0, hargs, rfl, rfl, h0, r0⟩ := trodAll_cons hA
  obtain ⟨rfl, rfl, rfl⟩ := trodAll_nil r0
  obtain rfl : args = #[v0] := by cases args; simp_all
  obtain ⟨rfl, rfl⟩ := trodVars_none hV
  obtain ⟨a0, len0, cap0, rfl⟩ := okWide_slice Try.underlying22 (hval 0 22 v0 rfl rfl)
  have k0 := h0
  have lt0 : ∀ x ∈ p0, x.block < W.heap.size := by obtain ⟨m, hm⟩ := k0; exact DataW.trod_lt m _ _ _ hm
  obtain ⟨L, rfl, b1, b2, b3, b4⟩ := items_row h0
  clear hA0 hval0
  refine (walk W a0 cap0 L b2 b3 b4).mono fun e W' ⟨he, bel0⟩ => ?_
  have bel := gb_below bel0
  subst he
  exact ⟨_, rfl, _, _, _, [], _, [], hW', trodAll_mk1 (shut_bool Try.underlying4 _), (trodAll_cons_mk (Below.trod laidOut (by kernel_rfl) (of_decide_eq_true (by kernel_rfl)) k0 bel lt0) trodAll_mk0), rfl, bel.frame _, fun h => by cases h⟩
set_option maxRecDepth 100000 in
theorem over : Rows.fnExactFormatPageRow.holds Try.pinned (OpenSpec.ofChange Rows.fnExactFormatPageSpec) :=
  OpenClaim.holds_of_wide 3 Try.f3 rfl rfl rfl rfl rfl rfl rfl ⟨rfl, rfl, rfl, rfl, rfl⟩ rfl rfl rfl rfl rfl (by kernel_rfl) Try.func3 (by kernel_rfl)
    (of_decide_eq_true (by kernel_rfl)) (by unfold Func.isWrapper; first | (rw [if_pos (by decide +kernel)]; kernel_rfl) | (rw [if_neg (by decide +kernel)]; exact ⟨rfl, rfl⟩))
    (fun os started H enc _ => lifted os started H enc)
theorem proved : Rows.FnExactFormatPageSaid := over
end fnExactFormatPage
end Go.Proofs.Ytbfilliflfmaoaa
