/- FnPageEmpty: empty stores have short pages: proved for every input, with no condition. -/
import Derived.Test.YtbfilliflfmaoaaFrame
import Derived.Test.YtbfilliflfmaoaaPageL
namespace Go.Proofs.Ytbfilliflfmaoaa
open Go.ChangeShapes Go.WideShapes Go.ChangeAt Go.RowKit
set_option linter.unusedVariables false
theorem page_nil : M.FormatPage [] = [0, 31] := by decide
theorem parse_nil : M.ParsePage [0, 31] = some [] := by
  have h := M.ParsePage_page (L := []) (by decide)
  rwa [show M.page [] = [0, 31] by decide] at h
theorem check_nil : M.checkOf [0] = 31 := by decide
namespace fnPageEmpty
set_option maxHeartbeats 2000000 in
theorem walk (w : World) (A : Option Addr) (c : Nat) (bs : List Int) (h2 : bs.length ≤ c) (h3 : ∀ x ∈ bs, 0 ≤ x ∧ x ≤ 255) (h4 : Rd w 0 w.heap.size A (bs.map (.int .u8))) :
    Calls Try.prog 7 #[.slice A bs.length c] w fun e w' => e = .returned (.bool true) ∧ w.grownBy w' none := by
  have H2 := Lib.hid h2
  have H3 := Lib.hid h3
  have H4 := Lib.hid h4
  clear h2 h3 h4
  by_cases hb : bs.length ≤ 1048576
  rotate_left
  · have hb' : (1048576 : Int) < bs.length := by omega
    generalize bs.length = L at *
    go_enter Try.func7, Try.ntmps7
    go_wp2
    go_ret
    exact ⟨rfl, gb_refl _ _⟩
  have hb' : (bs.length : Int) ≤ 1048576 := by omega
  go_enter Try.func7, Try.ntmps7
  go_wp2_with fail
  refine (DrawFormatPage_any w A c bs H2.out hb H3.out H4.out).mono ?_
  rintro e W ⟨A1, c1, L, rfl, hc1, hd, hg⟩
  have D := Lib.hid hd
  have G := Lib.hid hg
  clear hd hg
  go_wp2_with fail
  refine (fp_impl D.out).mono ?_
  rintro e W ⟨A2, c2, rfl, hc2, hd, hg⟩
  replace D := Lib.hid (D.out.on hg)
  replace G := Lib.hid (gb_trans G.out hg)
  have E := Lib.hid hd
  clear hg hd
  go_wp2_with fail
  refine (fp_spec D.out).mono ?_
  rintro e W ⟨A3, c3, rfl, hc3, hd, hg⟩
  replace D := Lib.hid (D.out.on hg)
  replace E := Lib.hid (E.out.on hg)
  replace G := Lib.hid (gb_trans G.out hg)
  have F := Lib.hid hd
  clear hg hd
  go_wp2_with fail
  refine (eb_any E.out F.out).mono ?_
  rintro e W ⟨rfl, hg⟩
  replace D := Lib.hid (D.out.on hg)
  replace E := Lib.hid (E.out.on hg)
  replace G := Lib.hid (gb_trans G.out hg)
  rw [decide_eq_true rfl]
  clear hg F
  have N0 : ∀ W : World, SeesI W none [] := fun W => ⟨RdI.nil_ _ _ _ _, Small.nil_⟩
  have C1 : Hid (∀ W : World, Calls Try.prog 13 #[.slice none 0 0] W (GotN .u8 W [0, 31])) := Lib.hid fun W => page_nil ▸ fp_impl (c := 0) (N0 W)
  clear N0
  go_wp2_with fail
  refine (C1.out _).mono ?_
  rintro e W ⟨A4, c4, rfl, hc4, hd, hg⟩
  replace G := Lib.hid (gb_trans G.out hg)
  have F := Lib.hid hd
  have hby : M.bytes [0, 31] := fun x hx => by simp at hx; omega
  have C2 := Lib.hid (pp_some F.out hby hc4 parse_nil)
  clear hg hd C1 hby
  go_wp2_with fail
  refine C2.out.mono ?_
  rintro e W ⟨A5, c5, rfl, hc5, hd, hg⟩
  replace G := Lib.hid (gb_trans G.out hg)
  replace F := Lib.hid (F.out.on hg)
  clear hg hd C2 hc5
  obtain ⟨b, o, hA, _, hb2, e0⟩ := F.out.1.at_ (j := 0) (u := .int .u8 0) rfl
  obtain ⟨_, _, hA', _, _, e1⟩ := F.out.1.at_ (j := 1) (u := .int .u8 31) rfl
  subst hA
  injection hA' with hA'
  injection hA' with h8 h9
  subst h8 h9
  rw [Nat.add_zero] at e0
  have hc4' : 2 ≤ c4 := hc4
  have HCK : Hid (∀ q, Calls Try.prog 25 #[.slice (some ⟨b, o, none⟩) 1 c4] (W.drewN q) fun e w' => e = .returned (.int .i64 31) ∧ W.drewN q = w') := Lib.hid fun q => by
    have h := CheckOf_impl (W.drewN q) (some ⟨b, o, none⟩) c4 0 W.heap.size [0] (by simp) (fun x hx => by simp at hx; omega) (by have h := F.out.1.take 1; exact h)
    rw [check_nil] at h
    exact h
  clear hc4 hb2
  go_wp2_with fail
  go_quiet ((go_at_call 25; exact quiet_here (HCK.out _)))
  go_wp2_with fail
  go_ret
  exact ⟨rfl, gb_drewN G.out _⟩
end fnPageEmpty
/-! the row's step -/
namespace fnPageEmpty
set_option maxRecDepth 100000 in
theorem lifted (os : Os) (started : os.Started) (H : Type) (enc : TypeId × Value → H) :
    ReturnsInHanded {} Try.checked os 7 .any (Rows.fnPageEmptySpec.pre6 enc Try.prog Try.f7 Rows.fnPageEmptyRow.domain false) (Rows.fnPageEmptySpec.post enc Try.prog Try.f7 false true false false) := by
  refine returnsInHanded_of_change (C := Try.checked) own started (by kernel_rfl) Try.func7
    (ChangeSpec.witness6 (enc := enc) (C := Try.checked) false ⟨#[], #[.slice none 0 0], []⟩ 8 (by kernel_rfl) (by kernel_rfl) (by kernel_rfl) (by kernel_rfl)) ?_
  intro W base args ds gs before hval0 hW hcnd _
  have hval : ∀ (j : Nat) t v, Try.f7.params[j]? = some t → args[j]? = some v → Value.okWide Try.prog W .any base t v := hval0
  have hW' := hW
  obtain ⟨p, q, hA0, hV, rfl, hfz, hnd⟩ := hW
  have hA : DataW.TrodAll enc Try.prog W 0 (fun _ => true) true Try.f7.params.toList args.toList ds p := hA0
  rw [Try.params7] at hA hval
  obtain ⟨v0, vs0, d0, ds0, p0, q0, hargs, rfl, rfl, h0, r0⟩ := trodAll_cons hA
  obtain ⟨rfl, rfl, rfl⟩ := trodAll_nil r0
  obtain rfl : args = #[v0] := by cases args; simp_all
  obtain ⟨rfl, rfl⟩ := trodVars_none hV
  obtain ⟨a0, len0, cap0, rfl⟩ := okWide_slice Try.underlying24 (hval 0 24 v0 rfl rfl)
  have k0 := h0
  have lt0 : ∀ x ∈ p0, x.block < W.heap.size := by obtain ⟨m, hm⟩ := k0; exact DataW.trod_lt m _ _ _ hm
  obtain ⟨bs, rfl, b1, b2, b3⟩ := code_row h0
  clear hA0 hval0
  refine (walk W a0 cap0 bs b1 b2 b3).mono fun e W' ⟨he, bel0⟩ => ?_
  have bel := gb_below bel0
  subst he
  exact ⟨_, rfl, _, _, _, [], _, [], hW', trodAll_mk1 (shut_bool Try.underlying4 _), (trodAll_cons_mk (Below.trod laidOut (by kernel_rfl) (of_decide_eq_true (by kernel_rfl)) k0 bel lt0) trodAll_mk0), rfl, bel.frame _, fun h => by cases h⟩
set_option maxRecDepth 100000 in
theorem over : Rows.fnPageEmptyRow.holds Try.pinned (OpenSpec.ofChange Rows.fnPageEmptySpec) :=
  OpenClaim.holds_of_wide 7 Try.f7 rfl rfl rfl rfl rfl rfl rfl ⟨rfl, rfl, rfl, rfl, rfl⟩ rfl rfl rfl rfl rfl (by kernel_rfl) Try.func7 (by kernel_rfl)
    (of_decide_eq_true (by kernel_rfl)) (by unfold Func.isWrapper; first | (rw [if_pos (by decide +kernel)]; kernel_rfl) | (rw [if_neg (by decide +kernel)]; exact ⟨rfl, rfl⟩))
    (fun os started H enc _ => lifted os started H enc)
theorem proved : Rows.FnPageEmptySaid := over
end fnPageEmpty
end Go.Proofs.Ytbfilliflfmaoaa
