/- FnCheckOfRange: checksums are small: proved for every input, with no condition. -/
import Derived.Test.YtopapnbhnknpiaaFrame
import Derived.Test.YtopapnbhnknpiaaCheckW
import Derived.Test.YtopapnbhnknpiaaDrawCW
namespace Go.Proofs.Ytopapnbhnknpiaa
open Go.ChangeShapes Go.WideShapes Go.ChangeAt Go.RowKit
set_option linter.unusedVariables false
namespace fnCheckOfRange
theorem walk (w : World) (A : Option Addr) (c : Nat) (bs : List Int) (h1 : bs.length ≤ c) (h2 : ∀ x ∈ bs, 0 ≤ x ∧ x ≤ 255) (h3 : Rd w 0 w.heap.size A (bs.map (.int .u8))) :
    Calls Try.prog 10 #[.slice A bs.length c] w fun e w' => e = .returned (.bool true) ∧ w.grownBy w' none := by
  have H1 := Lib.hid h1
  have H2 := Lib.hid h2
  have H3 := Lib.hid h3
  clear h1 h2 h3
  by_cases hb : bs.length ≤ 1048576
  · go_enter Try.func10, Try.ntmps10
    go_wp2_with fail
    refine (drawCheckOf_any _ A c bs H1.out hb H2.out H3.out).mono ?_
    rintro e w1 ⟨v, l, rfl, ho, hl, hby, hg⟩
    have hor := ho.rd
    obtain ⟨A1, c1, rfl, hc1, hr1⟩ := hor
    have G := Lib.hid hg
    have R := Lib.hid hr1
    have B := Lib.hid hby
    have O := Lib.hid ho
    have H1B := Lib.hid hb
    clear hg hr1 hby ho hb
    obtain ⟨m1, m2, m3⟩ := checkOf_range l
    obtain ⟨m, hm⟩ : ∃ m, M.checkOf l = m := ⟨_, rfl⟩
    have HM := Lib.hid hm
    rw [hm] at m1 m2
    clear hm m3
    have t : (m != m) = false := by simp
    have t' : (m == m) = true := by simp
    by_cases hn : 0 ≤ m
    · have h2 : l.length ≤ 200 := m2.1 hn
      clear m2
      have t2 : decide ((l.length : Int) ≤ 200) = true := by simp; omega
      go_wp2_with (first | (go_at_call 15; refine (CheckOf_impl _ A1 c1 _ _ l (by omega) B.out R.out).mono ?_; rintro e w' ⟨rfl, rfl⟩; rw [HM.out]) | (go_at_call 13; refine (CheckOf_spec _ A1 c1 _ _ l (by omega) B.out R.out).mono ?_; rintro e w' ⟨rfl, rfl⟩; rw [HM.out]))
      go_ret
      exact ⟨rfl, G.out⟩
    · clear m2
      go_wp2_with (first | (go_at_call 15; refine (CheckOf_impl _ A1 c1 _ _ l (by omega) B.out R.out).mono ?_; rintro e w' ⟨rfl, rfl⟩; rw [HM.out]) | (go_at_call 13; refine (CheckOf_spec _ A1 c1 _ _ l (by omega) B.out R.out).mono ?_; rintro e w' ⟨rfl, rfl⟩; rw [HM.out]))
      go_ret
      exact ⟨rfl, G.out⟩
  · have hb' : (1048576 : Int) < bs.length := by omega
    generalize bs.length = L at *
    go_enter Try.func10, Try.ntmps10
    go_wp2
    go_ret
    exact ⟨rfl, gb_refl _ _⟩
end fnCheckOfRange
/-! the row's step -/
namespace fnCheckOfRange
set_option maxRecDepth 100000 in
theorem lifted (os : Os) (started : os.Started) (H : Type) (enc : TypeId × Value → H) :
    ReturnsInHanded {} Try.checked os 10 .any (Rows.fnCheckOfRangeSpec.pre6 enc Try.prog Try.f10 Rows.fnCheckOfRangeRow.domain false) (Rows.fnCheckOfRangeSpec.post enc Try.prog Try.f10 false true false false) := by
  refine returnsInHanded_of_change (C := Try.checked) own started (by kernel_rfl) Try.func10
    (ChangeSpec.witness6 (enc := enc) (C := Try.checked) false ⟨#[], #[.slice none 0 0], []⟩ 8 (by kernel_rfl) (by kernel_rfl) (by kernel_rfl) (by kernel_rfl)) ?_
  intro W base args ds gs before hval0 hW hcnd _
  have hval : ∀ (j : Nat) t v, Try.f10.params[j]? = some t → args[j]? = some v → Value.okWide Try.prog W .any base t v := hval0
  have hW' := hW
  obtain ⟨p, q, hA0, hV, rfl, hfz, hnd⟩ := hW
  have hA : DataW.TrodAll enc Try.prog W 0 (fun _ => true) true Try.f10.params.toList args.toList ds p := hA0
  rw [Try.params10] at hA hval
  obtain ⟨v0, vs0, d0, ds0, p0, q0, hargs, rfl, rfl, h0, r0⟩ := trodAll_cons hA
  obtain ⟨rfl, rfl, rfl⟩ := trodAll_nil r0
  obtain rfl : args = #[v0] := by cases args; simp_all
  obtain ⟨rfl, rfl⟩ := trodVars_none hV
  obtain ⟨a0, len0, cap0, rfl⟩ := okWide_slice Try.underlying24 (hval 0 24 v0 rfl rfl)
  have k0 := h0
  have lt0 : ∀ x ∈ p0, x.block < W.heap.size := by obtain ⟨m, hm⟩ := k0; exact DataW.trod_lt m _ _ _ hm
  obtain ⟨bs, rfl, b1, b2, b3⟩ := code_row h0
  clear hA0 hval0
  refine (walk W a0 cap0 bs b1 b2 b3).mono fun e W' ⟨he, bel0⟩ => ?_
  have bel := gb_below bel0
  subst he
  exact ⟨_, rfl, _, _, _, [], _, [], hW', trodAll_mk1 (shut_bool Try.underlying4 _), (trodAll_cons_mk (Below.trod laidOut (by kernel_rfl) (of_decide_eq_true (by kernel_rfl)) k0 bel lt0) trodAll_mk0), rfl, bel.frame _, fun h => by cases h⟩
set_option maxRecDepth 100000 in
theorem over : Rows.fnCheckOfRangeRow.holds Try.pinned (OpenSpec.ofChange Rows.fnCheckOfRangeSpec) :=
  OpenClaim.holds_of_wide 10 Try.f10 rfl rfl rfl rfl rfl rfl rfl ⟨rfl, rfl, rfl, rfl, rfl⟩ rfl rfl rfl rfl rfl (by kernel_rfl) Try.func10 (by kernel_rfl)
    (of_decide_eq_true (by kernel_rfl)) (by unfold Func.isWrapper; first | (rw [if_pos (by decide +kernel)]; kernel_rfl) | (rw [if_neg (by decide +kernel)]; exact ⟨rfl, rfl⟩))
    (fun os started H enc _ => lifted os started H enc)
theorem proved : Rows.FnCheckOfRangeSaid := over
end fnCheckOfRange
end Go.Proofs.Ytopapnbhnknpiaa
