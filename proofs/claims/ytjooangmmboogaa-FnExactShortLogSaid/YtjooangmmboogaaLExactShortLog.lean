/- FnExactShortLog: the program's ShortLog is the reference's: proved for every input, with no condition. -/
import Derived.Test.YtjooangmmboogaaFrame
import Derived.Test.YtjooangmmboogaaLogL
import Derived.Test.YtjooangmmboogaaExE
namespace Go.Proofs.Ytjooangmmboogaa
open Go.ChangeShapes Go.WideShapes Go.ChangeAt Go.RowKit
set_option linter.unusedVariables false
namespace fnExactShortLog
set_option maxRecDepth 100000 in
set_option maxHeartbeats 2000000 in
theorem walk (w : World) (A : Option Addr) (c : Nat) (L : List M.Entry) (hl : L.length ≤ maxLen) (hp : ∀ x ∈ L, x.item.pos.length ≤ maxLen) (hr : RdE w 0 w.heap.size A L) :
    Calls Try.prog 4 #[.slice A L.length c] w fun e w' => e = .returned (.bool true) ∧ w.grownBy w' none := by
  have HR := Lib.hid hr
  have HP := Lib.hid hp
  clear hr hp
  go_enter Try.func4, Try.ntmps4
  go_wp2_with fail
  refine (szEntryS_any w A c _ _ L 1048576 hl HP.out HR.out (Nat.le_refl _) (by omega) (by omega)).mono ?_
  rintro e W ⟨r, rfl, hr1, hr2, hg⟩
  have G := Lib.hid hg
  have HZ := Lib.hid hr2
  by_cases hr0 : r < 0
  · go_wp2_with fail
    go_ret
    exact ⟨rfl, G.out⟩
  · have HS := Lib.hid (show SmallE L from hr2 (by omega))
    have KA := Lib.hid (Held.on (Held.now (lo := 0) (Nat.le_refl w.heap.size)) hg)
    have hsz := hg.size
    clear hg hr2 hl HZ
    have hL1 := HS.out.1
    obtain ⟨K, hK⟩ : ∃ K, K = M.ShortLog L := ⟨_, rfl⟩
    have HSK : Hid (SmallE K) := Lib.hid (by rw [hK]; exact small_short HS.out)
    have hKl := HSK.out.1
    have HK := Lib.hid hK
    clear hK
    have HRd : Hid (∀ W, Held 0 w.heap.size w W → RdE W 0 W.heap.size A L) := Lib.hid fun W h => (HR.out.agree h.1).wide (Nat.le_refl _) h.2
    -- the reference's answer
    go_wp2_with fail
    refine (tes_any (HRd.out _ KA.out) HS.out).mono ?_
    rintro e W ⟨A1, c1, LV1, lo1, hi1, rfl, hc1, hm1, a1, a2, a3, ho, hg⟩
    replace KA := Lib.hid (KA.out.on hg)
    replace G := Lib.hid (gb_trans G.out hg)
    have hz := hg.size
    clear hg
    have R1 := Lib.hid (ho.rdE.wide (Nat.zero_le _) (Nat.le_refl _))
    rw [hm1] at R1
    clear ho hm1
    have HC := Lib.hid (ShortLog_spec (c := c1) ⟨R1.out, HS.out⟩)
    rw [← HK.out] at HC
    go_wp2_with fail
    refine (HC.out.mono (fun _ _ h => madeE_own h)).mono ?_
    rintro e W ⟨A2, c2, LW, lo2, hi2, rfl, hc2, hm2, b1, b2, b3, ho, hg⟩
    replace KA := Lib.hid (KA.out.on hg)
    replace G := Lib.hid (gb_trans G.out hg)
    have hz := hg.size
    clear hg
    have OW := Lib.hid ho
    have HMW := Lib.hid hm2
    have KW := Lib.hid (Held.now (lo := lo2) b3)
    clear ho HC R1 hm2
    -- the argument
    go_wp2_with fail
    refine (tes_any (HRd.out _ KA.out) HS.out).mono ?_
    rintro e W ⟨A3, c3, LV, lo3, hi3, rfl, hc3, hm3, d1, d2, d3, ho, hg⟩
    replace KA := Lib.hid (KA.out.on hg)
    replace KW := Lib.hid (KW.out.on hg)
    replace G := Lib.hid (gb_trans G.out hg)
    have hz := hg.size
    clear hg
    have OX := Lib.hid ho
    have KX := Lib.hid (Held.now (lo := lo3) d3)
    have HM := Lib.hid hm3
    have R1 := Lib.hid (ho.rdE.wide (Nat.zero_le _) (Nat.le_refl _))
    rw [hm3] at R1
    clear ho hm3
    -- the answer
    have HC := Lib.hid (ShortLog_impl (c := c3) ⟨R1.out, HS.out⟩ hc3)
    rw [← HK.out] at HC
    go_wp2_with fail
    refine (HC.out.mono (fun _ _ h => madeE_own h)).mono ?_
    rintro e W ⟨A4, c4, LG, lo4, hi4, rfl, hc4, hm4, e1, e2, e3, ho, hg⟩
    replace KA := Lib.hid (KA.out.on hg)
    replace KW := Lib.hid (KW.out.on hg)
    replace KX := Lib.hid (KX.out.on hg)
    replace G := Lib.hid (gb_trans G.out hg)
    have hz := hg.size
    clear hg
    have OG := Lib.hid ho
    have HMG := Lib.hid hm4
    have KG := Lib.hid (Held.now (lo := lo4) e3)
    clear ho HC R1 hm4
    have HEQ : Hid (∀ W, Held lo4 hi4 _ W → Held lo2 hi2 _ W → Calls Try.prog 19 #[.slice A4 K.length c4, .slice A2 K.length c2] W fun e w' => e = .returned (.bool true) ∧ W.grownBy w' none) := Lib.hid fun W h h' =>
      eqEntryS_same W A4 A2 c4 c2 _ _ _ _ K HSK.out.1 HSK.out.2 (HMG.out ▸ (OG.out.agree h.1).rdE) (HMW.out ▸ (OW.out.agree h'.1).rdE) (Nat.le_refl _) (Nat.le_refl _)
    go_wp2_with fail
    refine (HEQ.out _ KG.out KW.out).mono ?_
    rintro e W ⟨rfl, hg⟩
    replace KA := Lib.hid (KA.out.on hg)
    replace KW := Lib.hid (KW.out.on hg)
    replace KX := Lib.hid (KX.out.on hg)
    replace KG := Lib.hid (KG.out.on hg)
    replace G := Lib.hid (gb_trans G.out hg)
    have hz := hg.size
    clear hg
    go_wp2_with fail
    refine (tes_any (HRd.out _ KA.out) HS.out).mono ?_
    rintro e W ⟨A5, c5, LV5, lo5, hi5, rfl, hc5, hm5, f1, f2, f3, ho, hg⟩
    replace KA := Lib.hid (KA.out.on hg)
    replace KW := Lib.hid (KW.out.on hg)
    replace KX := Lib.hid (KX.out.on hg)
    replace KG := Lib.hid (KG.out.on hg)
    replace G := Lib.hid (gb_trans G.out hg)
    have hz := hg.size
    clear hg
    have R5 := Lib.hid ho.rdE
    have R3 := Lib.hid (OX.out.agree KX.out.1).rdE
    rw [hm5] at R5
    rw [HM.out] at R3
    clear ho hm5
    go_wp2_with fail
    refine (eqEntryS_same _ A3 A5 c3 c5 _ _ _ _ L HS.out.1 HS.out.2 R3.out R5.out (Nat.le_refl _) (Nat.le_refl _)).mono ?_
    rintro e W ⟨rfl, hg⟩
    replace KA := Lib.hid (KA.out.on hg)
    replace KW := Lib.hid (KW.out.on hg)
    replace KX := Lib.hid (KX.out.on hg)
    replace KG := Lib.hid (KG.out.on hg)
    replace G := Lib.hid (gb_trans G.out hg)
    have hz := hg.size
    clear hg
    clear R3 R5
    -- the argument is marked
    have HN : Hid (L.length = LV.length) := Lib.hid (by rw [← HM.out, List.length_map])
    have HSV : Hid (SmallE (LV.map (·.1))) := Lib.hid (by rw [HM.out]; exact HS.out)
    have hsb := szE_small HSV.out
    go_wp2_with fail
    refine (mes_any HN.out HSV.out (OX.out.agree KX.out.1) (by omega) (by omega)).mono ?_
    rintro e W ⟨rfl, _, hw⟩
    replace KA := Lib.hid (KA.out.wrote hw (by omega))
    replace KW := Lib.hid (KW.out.wrote hw (by omega))
    replace KG := Lib.hid (KG.out.wrote hw (by omega))
    replace G := Lib.hid (Wrote.gb G.out hw (by omega))
    have hz := hw.size
    clear hw
    obtain ⟨q, hq⟩ : ∃ q, q = (1 : Int) + szE LV := ⟨_, rfl⟩
    have hq0 : 0 ≤ q := by omega
    rw [← hq]
    clear hq KX OX
    go_wp2_with fail
    refine (HEQ.out _ KG.out KW.out).mono ?_
    rintro e W ⟨rfl, hg⟩
    replace KA := Lib.hid (KA.out.on hg)
    replace KW := Lib.hid (KW.out.on hg)
    replace KG := Lib.hid (KG.out.on hg)
    replace G := Lib.hid (gb_trans G.out hg)
    have hz := hg.size
    clear hg
    -- the answer is marked
    have HNG : Hid (K.length = LG.length) := Lib.hid (by rw [← HMG.out, List.length_map])
    have HSG : Hid (SmallE (LG.map (·.1))) := Lib.hid (by rw [HMG.out]; exact HSK.out)
    have hsg := szE_small HSG.out
    go_wp2_with fail
    refine (mes_any HNG.out HSG.out (OG.out.agree KG.out.1) (by omega) (by omega)).mono ?_
    rintro e W ⟨rfl, ho, hw⟩
    replace KA := Lib.hid (KA.out.wrote hw (by omega))
    replace KW := Lib.hid (KW.out.wrote hw (by omega))
    replace G := Lib.hid (Wrote.gb G.out hw (by omega))
    have hz := hw.size
    clear hw
    have OM := Lib.hid ho
    have KM := Lib.hid (Held.now (lo := lo4) (show hi4 ≤ W.heap.size by omega))
    obtain ⟨q2, hq2⟩ : ∃ q, q = (1 : Int) + szE LG := ⟨_, rfl⟩
    have hq20 : 0 ≤ q2 := by omega
    rw [← hq2]
    have HH : Hid (∀ W, Held lo4 hi4 _ W → Calls Try.prog 21 #[.slice A4 K.length c4, .int .i64 1] W fun e w' => e = .returned (.int .i64 q2) ∧ W = w') := Lib.hid fun W h => by
      rw [hq2]
      exact hes_any HNG.out HSG.out (OM.out.agree h.1) (by omega) (by omega)
    have tq : (q2 != q2) = false := by simp
    clear ho KG OG hq2
    go_wp2_with fail
    refine (HH.out _ KM.out).mono ?_
    rintro e w' ⟨rfl, rfl⟩
    -- another call leaves it as it is
    go_wp2_with fail
    refine (tes_any (HRd.out _ KA.out) HS.out).mono ?_
    rintro e W ⟨A7, c7, LV7, lo7, hi7, rfl, hc7, hm7, g1, g2, g3, ho, hg⟩
    replace KA := Lib.hid (KA.out.on hg)
    replace KW := Lib.hid (KW.out.on hg)
    replace KM := Lib.hid (KM.out.on hg)
    replace G := Lib.hid (gb_trans G.out hg)
    have hz := hg.size
    clear hg
    have R7 := Lib.hid (ho.rdE.wide (Nat.zero_le _) (Nat.le_refl _))
    rw [hm7] at R7
    clear ho hm7
    have HC := Lib.hid (ShortLog_impl (c := c7) ⟨R7.out, HS.out⟩ hc7)
    rw [← HK.out] at HC
    go_wp2_with fail
    refine (HC.out.mono (fun _ _ h => madeE_own h)).mono ?_
    rintro e W ⟨A8, c8, LH, lo8, hi8, rfl, hc8, hm8, i1, i2, i3, ho, hg⟩
    replace KA := Lib.hid (KA.out.on hg)
    replace KW := Lib.hid (KW.out.on hg)
    replace KM := Lib.hid (KM.out.on hg)
    replace G := Lib.hid (gb_trans G.out hg)
    have hz := hg.size
    clear hg
    have R8 := Lib.hid (hm8 ▸ ho.rdE)
    clear ho HC R7 hm8
    go_wp2_with fail
    refine (eqEntryS_same _ A8 A2 c8 c2 _ _ _ _ K HSK.out.1 HSK.out.2 R8.out (HMW.out ▸ (OW.out.agree KW.out.1).rdE) (Nat.le_refl _) (Nat.le_refl _)).mono ?_
    rintro e W ⟨rfl, hg⟩
    replace KM := Lib.hid (KM.out.on hg)
    replace G := Lib.hid (gb_trans G.out hg)
    have hz := hg.size
    clear hg
    go_wp2_with fail
    refine (HH.out _ KM.out).mono ?_
    rintro e w' ⟨rfl, rfl⟩
    go_wp2_with fail
    go_ret
    exact ⟨rfl, G.out⟩
end fnExactShortLog
/-! the row's step -/
namespace fnExactShortLog
set_option maxRecDepth 100000 in
theorem lifted (os : Os) (started : os.Started) (H : Type) (enc : TypeId × Value → H) :
    ReturnsInHanded {} Try.checked os 4 .any (Rows.fnExactShortLogSpec.pre6 enc Try.prog Try.f4 Rows.fnExactShortLogRow.domain false) (Rows.fnExactShortLogSpec.post enc Try.prog Try.f4 false true false false) := by
  refine returnsInHanded_of_change (C := Try.checked) own started (by kernel_rfl) Try.func4
    (ChangeSpec.witness6 (enc := enc) (C := Try.checked) false ⟨#[], #[.slice none 0 0], []⟩ 8 (by kernel_rfl) (by kernel_rfl) (by kernel_rfl) (by kernel_rfl)) ?_
  intro W base args ds gs before hval0 hW hcnd _
  have hval : ∀ (j : Nat) t v, Try.f4.params[j]? = some t → args[j]? = some v → Value.okWide Try.prog W .any base t v := hval0
  have hW' := hW
  obtain ⟨p, q, hA0, hV, rfl, hfz, hnd⟩ := hW
  have hA : DataW.TrodAll enc Try.prog W 0 (fun _ => true) true Try.f4.params.toList args.toList ds p := hA0
  rw [Try.params4] at hA hval
  obtain ⟨v0, vs0, d0, ds0, p0, q0, hargs, rfl, rfl, h0, r0⟩ := trodAll_cons hA
  obtain ⟨rfl, rfl, rfl⟩ := trodAll_nil r0
  obtain rfl : args = #[v0] := by cases args; simp_all
  obtain ⟨rfl, rfl⟩ := trodVars_none hV
  obtain ⟨a0, len0, cap0, rfl⟩ := okWide_slice Try.underlying35 (hval 0 35 v0 rfl rfl)
  have k0 := h0
  have lt0 : ∀ x ∈ p0, x.block < W.heap.size := by obtain ⟨m, hm⟩ := k0; exact DataW.trod_lt m _ _ _ hm
  obtain ⟨L, rfl, b1, b2, b3, b4⟩ := entries_row h0
  clear hA0 hval0
  refine (walk W a0 cap0 L b2 b3 b4).mono fun e W' ⟨he, bel0⟩ => ?_
  have bel := gb_below bel0
  subst he
  exact ⟨_, rfl, _, _, _, [], _, [], hW', trodAll_mk1 (shut_bool Try.underlying4 _), (trodAll_cons_mk (Below.trod laidOut (by kernel_rfl) (of_decide_eq_true (by kernel_rfl)) k0 bel lt0) trodAll_mk0), rfl, bel.frame _, fun h => by cases h⟩
set_option maxRecDepth 100000 in
theorem over : Rows.fnExactShortLogRow.holds Try.pinned (OpenSpec.ofChange Rows.fnExactShortLogSpec) :=
  OpenClaim.holds_of_wide 4 Try.f4 rfl rfl rfl rfl rfl rfl rfl ⟨rfl, rfl, rfl, rfl, rfl⟩ rfl rfl rfl rfl rfl (by kernel_rfl) Try.func4 (by kernel_rfl)
    (of_decide_eq_true (by kernel_rfl)) (by unfold Func.isWrapper; first | (rw [if_pos (by decide +kernel)]; kernel_rfl) | (rw [if_neg (by decide +kernel)]; exact ⟨rfl, rfl⟩))
    (fun os started H enc _ => lifted os started H enc)
theorem proved : Rows.FnExactShortLogSaid := over
end fnExactShortLog
end Go.Proofs.Ytjooangmmboogaa
