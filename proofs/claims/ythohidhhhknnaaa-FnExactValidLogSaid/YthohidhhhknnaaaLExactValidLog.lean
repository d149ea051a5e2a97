/- FnExactValidLog: the program's ValidLog is the reference's: proved for every input, with no condition. -/
import Derived.Test.YthohidhhhknnaaaFrame
import Derived.Test.YthohidhhhknnaaaExactE
import Derived.Test.YthohidhhhknnaaaEntW
namespace Go.Proofs.Ythohidhhhknnaaa
open Go.ChangeShapes Go.WideShapes Go.ChangeAt Go.RowKit
set_option linter.unusedVariables false
namespace fnExactValidLog
set_option maxHeartbeats 1000000 in
theorem walk (w : World) (A : Option Addr) (c : Nat) (L : List M.Entry) (hl : L.length ≤ maxLen) (hp : ∀ x ∈ L, x.item.pos.length ≤ maxLen) (hr : RdE w 0 w.heap.size A L) :
    Calls Try.prog 4 #[.slice A L.length c] w fun e w' => e = .returned (.bool true) ∧ w.grownBy w' none := by
  have HR := Lib.hid hr
  have HP := Lib.hid hp
  clear hr hp
  go_enter Try.func4, Try.ntmps4
  go_wp2_with fail
  refine (szEntryS_any w A c _ _ L 1048576 hl HP.out HR.out (Nat.le_refl _) (by omega) (by omega)).mono ?_
  rintro e W ⟨r, rfl, hr1, hr2, hg1⟩
  have G := Lib.hid hg1
  have HZ := Lib.hid hr2
  by_cases hr0 : r < 0
  · go_wp2_with fail
    go_ret
    exact ⟨rfl, G.out⟩
  · have D := Lib.hid (SeesE.on (show SeesE w A L from ⟨HR.out, hr2 (by omega)⟩) hg1)
    clear hg1 hr2 hl HZ
    go_wp2_with fail
    refine (tes D.out).mono ?_
    rintro e W ⟨A1, c1, rfl, hc1, hd, hg⟩
    replace D := Lib.hid (D.out.on hg)
    replace G := Lib.hid (gb_trans G.out hg)
    have E := Lib.hid hd
    clear hg hd
    go_wp2_with fail
    refine (ValidLog_spec E.out).mono ?_
    rintro e W ⟨rfl, hg⟩
    replace D := Lib.hid (D.out.on hg)
    replace G := Lib.hid (gb_trans G.out hg)
    clear hg E
    go_wp2_with fail
    refine (tes D.out).mono ?_
    rintro e W ⟨A2, c2, rfl, hc2, hd, hg⟩
    replace D := Lib.hid (D.out.on hg)
    replace G := Lib.hid (gb_trans G.out hg)
    have E := Lib.hid hd
    clear hg hd
    go_wp2_with fail
    refine (ValidLog_impl E.out).mono ?_
    rintro e W ⟨rfl, hg⟩
    replace D := Lib.hid (D.out.on hg)
    replace E := Lib.hid (E.out.on hg)
    replace G := Lib.hid (gb_trans G.out hg)
    clear hg
    have tb : (M.validLog L != M.validLog L) = false := by simp
    go_wp2_with fail
    refine (tes D.out).mono ?_
    rintro e W ⟨A3, c3, rfl, hc3, hd, hg⟩
    replace D := Lib.hid (D.out.on hg)
    replace E := Lib.hid (E.out.on hg)
    replace G := Lib.hid (gb_trans G.out hg)
    have F := Lib.hid hd
    clear hg hd
    go_wp2_with fail
    refine (ees E.out F.out).mono ?_
    rintro e W ⟨rfl, hg⟩
    replace G := Lib.hid (gb_trans G.out hg)
    clear hg
    go_wp2_with fail
    go_ret
    exact ⟨rfl, G.out⟩
end fnExactValidLog
/-! the row's step -/
namespace fnExactValidLog
set_option maxRecDepth 100000 in
theorem lifted (os : Os) (started : os.Started) (H : Type) (enc : TypeId × Value → H) :
    ReturnsInHanded {} Try.checked os 4 .any (Rows.fnExactValidLogSpec.pre6 enc Try.prog Try.f4 Rows.fnExactValidLogRow.domain false) (Rows.fnExactValidLogSpec.post enc Try.prog Try.f4 false true false false) := by
  refine returnsInHanded_of_change (C := Try.checked) own started (by kernel_rfl) Try.func4
    (ChangeSpec.witness6 (enc := enc) (C := Try.checked) false ⟨#[], #[.slice none 0 0], []⟩ 8 (by kernel_rfl) (by kernel_rfl) (by kernel_rfl) (by kernel_rfl)) ?_
  intro W base args ds gs before hval0 hW hcnd _
  have hval : ∀ (j : Nat) t v, Try.f4.params[j]? = some t → args[j]? = some v → Value.okWide Try.prog W .any base t v := hval0
  have hW' := hW
  obtain ⟨p, q, hA0, hV, rfl, hfz, hnd⟩ := hW
  have hA : DataW.TrodAll enc Try.prog W 0 (fun _ => true) true Try.f4.params.toList args.toList ds p := hA0
  rw [Try.params4] at hA hval
  obtain ⟨v0, vs0, d0, ds0, p0, q0, hargs, rfl, rfl, h0, r0⟩ := trodAll_cons hA
  obtain ⟨rfl, rfl, rfl⟩ := trodAll_nil r0
  obtain rfl : args = #[v0] := by cases args; simp_all
  obtain ⟨rfl, rfl⟩ := trodVars_none hV
  obtain ⟨a0, len0, cap0, rfl⟩ := okWide_slice Try.underlying27 (hval 0 27 v0 rfl rfl)
  have k0 := h0
  have lt0 : ∀ x ∈ p0, x.block < W.heap.size := by obtain ⟨m, hm⟩ := k0; exact DataW.trod_lt m _ _ _ hm
  obtain ⟨L, rfl, b1, b2, b3, b4⟩ := entries_row h0
  clear hA0 hval0
  refine (walk W a0 cap0 L b2 b3 b4).mono fun e W' ⟨he, bel0⟩ => ?_
  have bel := gb_below bel0
  subst he
  exact ⟨_, rfl, _, _, _, [], _, [], hW', trodAll_mk1 (shut_bool Try.underlying4 _), (trodAll_cons_mk (Below.trod laidOut (by kernel_rfl) (of_decide_eq_true (by kernel_rfl)) k0 bel lt0) trodAll_mk0), rfl, bel.frame _, fun h => by cases h⟩
set_option maxRecDepth 100000 in
theorem over : Rows.fnExactValidLogRow.holds Try.pinned (OpenSpec.ofChange Rows.fnExactValidLogSpec) :=
  OpenClaim.holds_of_wide 4 Try.f4 rfl rfl rfl rfl rfl rfl rfl ⟨rfl, rfl, rfl, rfl, rfl⟩ rfl rfl rfl rfl rfl (by kernel_rfl) Try.func4 (by kernel_rfl)
    (of_decide_eq_true (by kernel_rfl)) (by unfold Func.isWrapper; first | (rw [if_pos (by decide +kernel)]; kernel_rfl) | (rw [if_neg (by decide +kernel)]; exact ⟨rfl, rfl⟩))
    (fun os started H enc _ => lifted os started H enc)
theorem proved : Rows.FnExactValidLogSaid := over
end fnExactValidLog
end Go.Proofs.Ythohidhhhknnaaa
