/- FnExactParsePage: the program's ParsePage is the reference's: proved for every input, with no condition. -/
import Derived.Test.YtbfilliflfmaoaaFrame
import Derived.Test.YtbfilliflfmaoaaPageL
import Derived.Test.YtbfilliflfmaoaaExK
namespace Go.Proofs.Ytbfilliflfmaoaa
open Go.ChangeShapes Go.WideShapes Go.ChangeAt Go.RowKit
set_option linter.unusedVariables false
namespace fnExactParsePage
theorem tbs_any {w : World} {A : Option Addr} {c : Nat} {l : List Int} (hl : l.length ≤ 1048576) (hr : Rd w 0 w.heap.size A (l.map (.int .u8))) : Calls Try.prog 20 #[.slice A l.length c] w (MadeN .u8 5 w l) :=
  (toByteS_any w A c l hl hr).mono fun _ _ h => madeN_own h
set_option maxHeartbeats 2000000 in
theorem walk (w : World) (A : Option Addr) (c : Nat) (bs : List Int) (h2 : bs.length ≤ c) (h3 : ∀ x ∈ bs, 0 ≤ x ∧ x ≤ 255) (h4 : Rd w 0 w.heap.size A (bs.map (.int .u8))) :
    Calls Try.prog 4 #[.slice A bs.length c] w fun e w' => e = .returned (.bool true) ∧ w.grownBy w' none := by
  have H2 := Lib.hid h2
  have H3 := Lib.hid (show M.bytes bs from h3)
  have HR := Lib.hid h4
  clear h2 h3 h4
  by_cases hb : bs.length ≤ 1048576
  rotate_left
  · have hb' : (1048576 : Int) < bs.length := by omega
    generalize bs.length = L at *
    go_enter Try.func4, Try.ntmps4
    go_wp2
    go_ret
    exact ⟨rfl, gb_refl _ _⟩
  have hb' : (bs.length : Int) ≤ 1048576 := by omega
  obtain ⟨K, hK⟩ : ∃ K, K = (M.ParsePage bs).getD [] := ⟨_, rfl⟩
  obtain ⟨p, hp⟩ : ∃ p, p = (M.ParsePage bs).isSome := ⟨_, rfl⟩
  have HSK : Hid (Small K) := Lib.hid (by
    rw [hK]
    cases h : M.ParsePage bs with
    | none => exact Small.nil_
    | some L => exact small_parse H3.out L h)
  have HK := Lib.hid hK
  have HP := Lib.hid hp
  have tp : (p != p) = false := by simp
  have hK1 := HSK.out.1
  clear hK hp
  have HRd : Hid (∀ W, Held 0 w.heap.size w W → Rd W 0 W.heap.size A (bs.map (.int .u8))) := Lib.hid fun W h => (HR.out.agree h.1).wide (Nat.le_refl _) h.2
  have KA := Lib.hid (Held.now (lo := 0) (Nat.le_refl w.heap.size))
  have G := Lib.hid (gb_refl w none)
  go_enter Try.func4, Try.ntmps4
  -- the reference's answer
  go_wp2_with fail
  refine (tbs_any hb (HRd.out _ KA.out)).mono ?_
  rintro e W ⟨A1, c1, lo1, hi1, rfl, hc1, a1, a2, a3, ho, hg⟩
  replace KA := Lib.hid (KA.out.on hg)
  replace G := Lib.hid (gb_trans G.out hg)
  have hz := hg.size
  clear hg
  have HC : Hid (Calls Try.prog 19 #[.slice A1 bs.length c1] W (MadeP W (M.ParsePage bs))) := Lib.hid ((ParsePage_spec W A1 c1 bs hc1 hb H3.out (ho.rd.wide (Nat.zero_le _) (Nat.le_refl _))).mono fun _ _ h => madeP_ans h)
  clear ho hc1
  go_wp2_with fail
  refine (HC.out).mono ?_
  rintro e W ⟨A2, c2, LW, lo2, hi2, rfl, hm2, b1, b2, b3, ho, hg⟩
  replace KA := Lib.hid (KA.out.on hg)
  replace G := Lib.hid (gb_trans G.out hg)
  have hz := hg.size
  clear hg
  rw [← HK.out] at ho hm2 ⊢
  rw [← HP.out]
  have OW := Lib.hid ho
  have HMW := Lib.hid hm2
  have KW := Lib.hid (Held.now (lo := lo2) b3)
  clear ho HC hm2
  -- the argument
  go_wp2_with fail
  refine (tbs_any hb (HRd.out _ KA.out)).mono ?_
  rintro e W ⟨A3, c3, lo3, hi3, rfl, hc3, d1, d2, d3, ho, hg⟩
  replace KA := Lib.hid (KA.out.on hg)
  replace KW := Lib.hid (KW.out.on hg)
  replace G := Lib.hid (gb_trans G.out hg)
  have hz := hg.size
  clear hg
  have OX := Lib.hid ho
  have KX := Lib.hid (Held.now (lo := lo3) d3)
  have HC : Hid (Calls Try.prog 21 #[.slice A3 bs.length c3] W (MadeP W (M.ParsePage bs))) := Lib.hid ((ParsePage_impl W A3 c3 bs hc3 hb H3.out (ho.rd.wide (Nat.zero_le _) (Nat.le_refl _))).mono fun _ _ h => madeP_ans h)
  clear ho hc3
  -- the answer
  go_wp2_with fail
  refine (HC.out).mono ?_
  rintro e W ⟨A4, c4, LG, lo4, hi4, rfl, hm4, e1, e2, e3, ho, hg⟩
  replace KA := Lib.hid (KA.out.on hg)
  replace KW := Lib.hid (KW.out.on hg)
  replace KX := Lib.hid (KX.out.on hg)
  replace G := Lib.hid (gb_trans G.out hg)
  have hz := hg.size
  clear hg
  rw [← HK.out] at ho hm4 ⊢
  rw [← HP.out]
  have OG := Lib.hid ho
  have HMG := Lib.hid hm4
  have KG := Lib.hid (Held.now (lo := lo4) e3)
  clear ho HC hm4
  have HEQ : Hid (∀ W, Held lo4 hi4 _ W → Held lo2 hi2 _ W → Calls Try.prog 15 #[.slice A4 K.length c4, .slice A2 K.length c2] W fun e w' => e = .returned (.bool true) ∧ W.grownBy w' none) := Lib.hid fun W h h' =>
    eqItemS_same W A4 A2 c4 c2 _ _ _ _ K HSK.out.1 HSK.out.2 (HMG.out ▸ (OG.out.agree h.1).rdI) (HMW.out ▸ (OW.out.agree h'.1).rdI) (Nat.le_refl _) (Nat.le_refl _)
  go_wp2_with fail
  refine (HEQ.out _ KG.out KW.out).mono ?_
  rintro e W ⟨rfl, hg⟩
  replace KA := Lib.hid (KA.out.on hg)
  replace KW := Lib.hid (KW.out.on hg)
  replace KX := Lib.hid (KX.out.on hg)
  replace KG := Lib.hid (KG.out.on hg)
  replace G := Lib.hid (gb_trans G.out hg)
  have hz := hg.size
  clear hg
  go_wp2_with fail
  refine (tbs_any hb (HRd.out _ KA.out)).mono ?_
  rintro e W ⟨A5, c5, lo5, hi5, rfl, hc5, f1, f2, f3, ho, hg⟩
  replace KA := Lib.hid (KA.out.on hg)
  replace KW := Lib.hid (KW.out.on hg)
  replace KX := Lib.hid (KX.out.on hg)
  replace KG := Lib.hid (KG.out.on hg)
  replace G := Lib.hid (gb_trans G.out hg)
  have hz := hg.size
  clear hg
  have O5 := Lib.hid ho
  clear ho
  go_wp2_with fail
  refine (ebs_any (c := c3) (d := c5) (by omega) (OX.out.agree KX.out.1).rd O5.out.rd).mono ?_
  rintro e W ⟨rfl, hg⟩
  replace KA := Lib.hid (KA.out.on hg)
  replace KW := Lib.hid (KW.out.on hg)
  replace KX := Lib.hid (KX.out.on hg)
  replace KG := Lib.hid (KG.out.on hg)
  replace G := Lib.hid (gb_trans G.out hg)
  have hz := hg.size
  clear hg
  rw [decide_eq_true rfl]
  clear O5
  -- the argument is marked
  go_wp2_with fail
  refine (markByteS_any _ A3 c3 lo3 hi3 bs 1 (by omega) (OX.out.agree KX.out.1).1 OX.out.2 (by omega) (by omega)).mono ?_
  rintro e W ⟨rfl, _, hw⟩
  replace KA := Lib.hid (KA.out.wrote hw (by omega))
  replace KW := Lib.hid (KW.out.wrote hw (by omega))
  replace KG := Lib.hid (KG.out.wrote hw (by omega))
  replace G := Lib.hid (Wrote.gb G.out hw (by omega))
  have hz := hw.size
  clear hw
  clear KX OX
  go_wp2_with fail
  refine (HEQ.out _ KG.out KW.out).mono ?_
  rintro e W ⟨rfl, hg⟩
  replace KA := Lib.hid (KA.out.on hg)
  replace KW := Lib.hid (KW.out.on hg)
  replace KG := Lib.hid (KG.out.on hg)
  replace G := Lib.hid (gb_trans G.out hg)
  have hz := hg.size
  clear hg
  -- the answer is marked
  have HN : Hid (K.length = LG.length) := Lib.hid (by rw [← HMG.out, List.length_map])
  have HSG : Hid (Small (LG.map (·.1))) := Lib.hid (by rw [HMG.out]; exact HSK.out)
  have hsg := szI_small HSG.out
  go_wp2_with fail
  refine (mis_any HN.out HSG.out (OG.out.agree KG.out.1) (by omega) (by omega)).mono ?_
  rintro e W ⟨rfl, ho, hw⟩
  replace KA := Lib.hid (KA.out.wrote hw (by omega))
  replace KW := Lib.hid (KW.out.wrote hw (by omega))
  replace G := Lib.hid (Wrote.gb G.out hw (by omega))
  have hz := hw.size
  clear hw
  have OM := Lib.hid ho
  have KM := Lib.hid (Held.now (lo := lo4) (show hi4 ≤ W.heap.size by omega))
  obtain ⟨q, hq⟩ : ∃ q, q = (1 : Int) + szI LG := ⟨_, rfl⟩
  have hq0 : 0 ≤ q := by omega
  rw [← hq]
  have HH : Hid (∀ W, Held lo4 hi4 _ W → Calls Try.prog 22 #[.slice A4 K.length c4, .int .i64 1] W fun e w' => e = .returned (.int .i64 q) ∧ W = w') := Lib.hid fun W h => by
    rw [hq]
    exact his_any HN.out HSG.out (OM.out.agree h.1) (by omega) (by omega)
  have tq : (q != q) = false := by simp
  clear ho KG OG hq
  go_wp2_with fail
  refine (HH.out _ KM.out).mono ?_
  rintro e w' ⟨rfl, rfl⟩
  -- another call leaves it as it is
  go_wp2_with fail
  refine (tbs_any hb (HRd.out _ KA.out)).mono ?_
  rintro e W ⟨A7, c7, lo7, hi7, rfl, hc7, g1, g2, g3, ho, hg⟩
  replace KA := Lib.hid (KA.out.on hg)
  replace KW := Lib.hid (KW.out.on hg)
  replace KM := Lib.hid (KM.out.on hg)
  replace G := Lib.hid (gb_trans G.out hg)
  have hz := hg.size
  clear hg
  have HC : Hid (Calls Try.prog 21 #[.slice A7 bs.length c7] W (MadeP W (M.ParsePage bs))) := Lib.hid ((ParsePage_impl W A7 c7 bs hc7 hb H3.out (ho.rd.wide (Nat.zero_le _) (Nat.le_refl _))).mono fun _ _ h => madeP_ans h)
  clear ho hc7
  go_wp2_with fail
  refine (HC.out).mono ?_
  rintro e W ⟨A8, c8, LH, lo8, hi8, rfl, hm8, i1, i2, i3, ho, hg⟩
  replace KA := Lib.hid (KA.out.on hg)
  replace KW := Lib.hid (KW.out.on hg)
  replace KM := Lib.hid (KM.out.on hg)
  replace G := Lib.hid (gb_trans G.out hg)
  have hz := hg.size
  clear hg
  rw [← HK.out] at ho hm8 ⊢
  rw [← HP.out]
  have R8 := Lib.hid (hm8 ▸ ho.rdI)
  clear ho HC hm8
  go_wp2_with fail
  refine (eqItemS_same _ A8 A2 c8 c2 _ _ _ _ K HSK.out.1 HSK.out.2 R8.out (HMW.out ▸ (OW.out.agree KW.out.1).rdI) (Nat.le_refl _) (Nat.le_refl _)).mono ?_
  rintro e W ⟨rfl, hg⟩
  replace KM := Lib.hid (KM.out.on hg)
  replace G := Lib.hid (gb_trans G.out hg)
  have hz := hg.size
  clear hg
  go_wp2_with fail
  refine (HH.out _ KM.out).mono ?_
  rintro e w' ⟨rfl, rfl⟩
  go_wp2_with fail
  go_ret
  exact ⟨rfl, G.out⟩
end fnExactParsePage
/-! the row's step -/
namespace fnExactParsePage
set_option maxRecDepth 100000 in
theorem lifted (os : Os) (started : os.Started) (H : Type) (enc : TypeId × Value → H) :
    ReturnsInHanded {} Try.checked os 4 .any (Rows.fnExactParsePageSpec.pre6 enc Try.prog Try.f4 Rows.fnExactParsePageRow.domain false) (Rows.fnExactParsePageSpec.post enc Try.prog Try.f4 false true false false) := by
  refine returnsInHanded_of_change (C := Try.checked) own started (by kernel_rfl) Try.func4
    (ChangeSpec.witness6 (enc := enc) (C := Try.checked) false ⟨#[], #[.slice none 0 0], []⟩ 8 (by kernel_rfl) (by kernel_rfl) (by kernel_rfl) (by kernel_rfl)) ?_
  intro W base args ds gs before hval0 hW hcnd _
  have hval : ∀ (j : Nat) t v, Try.f4.params[j]? = some t → args[j]? = some v → Value.okWide Try.prog W .any base t v := hval0
  have hW' := hW
  obtain ⟨p, q, hA0, hV, rfl, hfz, hnd⟩ := hW
  have hA : DataW.TrodAll enc Try.prog W 0 (fun _ => true) true Try.f4.params.toList args.toList ds p := hA0
  rw [Try.params4] at hA hval
  obtain ⟨v0, vs0, d0, ds0, p0, q0, hargs, rfl, rfl, h0, r0⟩ := trodAll_cons hA
  obtain ⟨rfl, rfl, rfl⟩ := trodAll_nil r0
  obtain rfl : args = #[v0] := by cases args; simp_all
  obtain ⟨rfl, rfl⟩ := trodVars_none hV
  obtain ⟨a0, len0, cap0, rfl⟩ := okWide_slice Try.underlying24 (hval 0 24 v0 rfl rfl)
  have k0 := h0
  have lt0 : ∀ x ∈ p0, x.block < W.heap.size := by obtain ⟨m, hm⟩ := k0; exact DataW.trod_lt m _ _ _ hm
  obtain ⟨bs, rfl, b1, b2, b3⟩ := code_row h0
  clear hA0 hval0
  refine (walk W a0 cap0 bs b1 b2 b3).mono fun e W' ⟨he, bel0⟩ => ?_
  have bel := gb_below bel0
  subst he
  exact ⟨_, rfl, _, _, _, [], _, [], hW', trodAll_mk1 (shut_bool Try.underlying4 _), (trodAll_cons_mk (Below.trod laidOut (by kernel_rfl) (of_decide_eq_true (by kernel_rfl)) k0 bel lt0) trodAll_mk0), rfl, bel.frame _, fun h => by cases h⟩
set_option maxRecDepth 100000 in
theorem over : Rows.fnExactParsePageRow.holds Try.pinned (OpenSpec.ofChange Rows.fnExactParsePageSpec) :=
  OpenClaim.holds_of_wide 4 Try.f4 rfl rfl rfl rfl rfl rfl rfl ⟨rfl, rfl, rfl, rfl, rfl⟩ rfl rfl rfl rfl rfl (by kernel_rfl) Try.func4 (by kernel_rfl)
    (of_decide_eq_true (by kernel_rfl)) (by unfold Func.isWrapper; first | (rw [if_pos (by decide +kernel)]; kernel_rfl) | (rw [if_neg (by decide +kernel)]; exact ⟨rfl, rfl⟩))
    (fun os started H enc _ => lifted os started H enc)
theorem proved : Rows.FnExactParsePageSaid := over
end fnExactParsePage
end Go.Proofs.Ytbfilliflfmaoaa
