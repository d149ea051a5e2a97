/- FnExactCheckOf: the program's CheckOf is the reference's: proved for every input, with no condition. -/
import Derived.Test.YtopapnbhnknpiaaFrame
import Derived.Test.YtopapnbhnknpiaaByteW
import Derived.Test.YtopapnbhnknpiaaCheckW
namespace Go.Proofs.Ytopapnbhnknpiaa
open Go.ChangeShapes Go.WideShapes Go.ChangeAt Go.RowKit
set_option linter.unusedVariables false
namespace fnExactCheckOf
theorem walk (w : World) (A : Option Addr) (c : Nat) (bs : List Int) (h1 : bs.length ≤ c) (h2 : ∀ x ∈ bs, 0 ≤ x ∧ x ≤ 255) (h3 : Rd w 0 w.heap.size A (bs.map (.int .u8))) :
    Calls Try.prog 4 #[.slice A bs.length c] w fun e w' => e = .returned (.bool true) ∧ w.grownBy w' none := by
  have H1 := Lib.hid h1
  have H2 := Lib.hid h2
  have H3 := Lib.hid h3
  clear h1 h2 h3
  by_cases hb : bs.length ≤ 1048576
  · go_enter Try.func4, Try.ntmps4
    go_wp2_with fail
    refine (toByteS_any _ A c bs hb H3.out).mono ?_
    rintro e w1 ⟨v1, rfl, ho1, hg1⟩
    obtain ⟨A1, c1, rfl, hc1, hr1⟩ := ho1.rd
    have G1 := Lib.hid hg1
    have R1 := Lib.hid hr1
    clear hg1 hr1 ho1
    go_wp2_with fail
    refine (CheckOf_spec _ A1 c1 _ _ bs (by omega) H2.out R1.out).mono ?_
    rintro e w' ⟨rfl, rfl⟩
    go_wp2_with fail
    have R2 := Lib.hid ((H3.out.agree (Agree.of_grown G1.out)).wide (Nat.le_refl _) G1.out.size)
    refine (toByteS_any _ A c bs hb R2.out).mono ?_
    rintro e w2 ⟨v2, rfl, ho2, hg2⟩
    obtain ⟨A2, c2, rfl, hc2, hr2⟩ := ho2.rd
    have G2 := Lib.hid (gb_trans G1.out hg2)
    have R3 := Lib.hid hr2
    clear hg2 hr2 ho2
    go_wp2_with fail
    refine (CheckOf_impl _ A2 c2 _ _ bs (by omega) H2.out R3.out).mono ?_
    rintro e w' ⟨rfl, rfl⟩
    generalize hm : M.checkOf bs = m
    clear hm
    have t : (m != m) = false := by simp
    go_wp2_with fail
    have R4 := Lib.hid ((H3.out.agree (Agree.of_grown G2.out)).wide (Nat.le_refl _) G2.out.size)
    refine (toByteS_any _ A c bs hb R4.out).mono ?_
    rintro e w3 ⟨v3, rfl, ho3, hg3⟩
    obtain ⟨A3, c3, rfl, hc3, hr3⟩ := ho3.rd
    have G3 := Lib.hid (gb_trans G2.out hg3)
    have R5 := Lib.hid hr3
    have R6 := Lib.hid (R3.out.agree (fun b h1 h2 => (Agree.of_grown hg3) b (Nat.zero_le _) h2))
    clear hg3 hr3 ho3
    go_wp2_with fail
    refine (eqByteS_any _ A2 A3 c2 c3 bs bs _ _ _ _ (by omega) R6.out R5.out).mono ?_
    rintro e w4 ⟨rfl, hd⟩
    have G4 := Lib.hid (gb_trans G3.out (gb_of_drewN hd))
    clear hd
    have t2 : decide (bs = bs) = true := by simp
    go_wp2_with fail
    go_ret
    exact ⟨rfl, G4.out⟩
  · have hb' : (1048576 : Int) < bs.length := by omega
    generalize bs.length = L at *
    go_enter Try.func4, Try.ntmps4
    go_wp2
    go_ret
    exact ⟨rfl, gb_refl _ _⟩
end fnExactCheckOf
/-! the row's step -/
namespace fnExactCheckOf
set_option maxRecDepth 100000 in
theorem lifted (os : Os) (started : os.Started) (H : Type) (enc : TypeId × Value → H) :
    ReturnsInHanded {} Try.checked os 4 .any (Rows.fnExactCheckOfSpec.pre6 enc Try.prog Try.f4 Rows.fnExactCheckOfRow.domain false) (Rows.fnExactCheckOfSpec.post enc Try.prog Try.f4 false true false false) := by
  refine returnsInHanded_of_change (C := Try.checked) own started (by kernel_rfl) Try.func4
    (ChangeSpec.witness6 (enc := enc) (C := Try.checked) false ⟨#[], #[.slice none 0 0], []⟩ 8 (by kernel_rfl) (by kernel_rfl) (by kernel_rfl) (by kernel_rfl)) ?_
  intro W base args ds gs before hval0 hW hcnd _
  have hval : ∀ (j : Nat) t v, Try.f4.params[j]? = some t → args[j]? = some v → Value.okWide Try.prog W .any base t v := hval0
  have hW' := hW
  obtain ⟨p, q, hA0, hV, rfl, hfz, hnd⟩ := hW
  have hA : DataW.TrodAll enc Try.prog W 0 (fun _ => true) true Try.f4.params.toList args.toList ds p := hA0
  rw [Try.params4] at hA hval
  obtain ⟨v0, vs0, d0, ds0, p0, q0, hargs, rfl, rfl, h0, r0⟩ := trodAll_cons hA
  obtain ⟨rfl, rfl, rfl⟩ := trodAll_nil r0
  obtain rfl : args = #[v0] := by cases args; simp_all
  obtain ⟨rfl, rfl⟩ := trodVars_none hV
  obtain ⟨a0, len0, cap0, rfl⟩ := okWide_slice Try.underlying24 (hval 0 24 v0 rfl rfl)
  have k0 := h0
  have lt0 : ∀ x ∈ p0, x.block < W.heap.size := by obtain ⟨m, hm⟩ := k0; exact DataW.trod_lt m _ _ _ hm
  obtain ⟨bs, rfl, b1, b2, b3⟩ := code_row h0
  clear hA0 hval0
  refine (walk W a0 cap0 bs b1 b2 b3).mono fun e W' ⟨he, bel0⟩ => ?_
  have bel := gb_below bel0
  subst he
  exact ⟨_, rfl, _, _, _, [], _, [], hW', trodAll_mk1 (shut_bool Try.underlying4 _), (trodAll_cons_mk (Below.trod laidOut (by kernel_rfl) (of_decide_eq_true (by kernel_rfl)) k0 bel lt0) trodAll_mk0), rfl, bel.frame _, fun h => by cases h⟩
set_option maxRecDepth 100000 in
theorem over : Rows.fnExactCheckOfRow.holds Try.pinned (OpenSpec.ofChange Rows.fnExactCheckOfSpec) :=
  OpenClaim.holds_of_wide 4 Try.f4 rfl rfl rfl rfl rfl rfl rfl ⟨rfl, rfl, rfl, rfl, rfl⟩ rfl rfl rfl rfl rfl (by kernel_rfl) Try.func4 (by kernel_rfl)
    (of_decide_eq_true (by kernel_rfl)) (by unfold Func.isWrapper; first | (rw [if_pos (by decide +kernel)]; kernel_rfl) | (rw [if_neg (by decide +kernel)]; exact ⟨rfl, rfl⟩))
    (fun os started H enc _ => lifted os started H enc)
theorem proved : Rows.FnExactCheckOfSaid := over
end fnExactCheckOf
end Go.Proofs.Ytopapnbhnknpiaa
