/- The output for the first lines is the beginning of the output for all. The statement Rows.FnSessionPrefixCardSaid is proved for every input, with no condition of our own; it is a tied card: the library's tables and errors that the row lists are tied by the given tie. -/
import Derived.Test.YtibbpbbgmgdpdaaGreatDoorCard
import Derived.Test.YtibbpbbgmgdpdaaGreatDoorSesY
namespace Go.Proofs.YtibbpbbgmgdpdaaGreatDoor
open Go.ChangeShapes Go.WideShapes Go.ChangeAt Go.RowKit Go.Deep
set_option linter.unusedVariables false
set_option linter.unusedSimpArgs false
set_option maxRecDepth 100000

namespace fnSessionPrefix
set_option maxRecDepth 100000 in
set_option maxHeartbeats 4000000 in
theorem walk (W : World) (a0 : Option Addr) (cap0 : Nat) (bs : List Int) (b1 : bs.length ≤ cap0) (b2 : ∀ x ∈ bs, 0 ≤ x ∧ x ≤ 255) (b3 : Rd W 0 W.heap.size a0 (bs.map (.int .u8))) (hlib : LibOk W) :
    Calls Tryz.prog 3 #[.slice a0 bs.length cap0] W fun e w' => e = .returned (.bool true) ∧ W.grownBy w' none := by
  by_cases hb : bs.length ≤ 1048576
  rotate_left
  · have hb' : (1048576 : Int) < bs.length := by omega
    generalize bs.length = L at *
    go_enter Tryz.func3, Tryz.ntmps3
    go_wp2
    go_ret
    exact ⟨rfl, gb_refl _ _⟩
  have hb' : (bs.length : Int) ≤ 1048576 := by omega
  have H2 := Lib.hid b1
  have H3 := Lib.hid b2
  have H4 := Lib.hid b3
  have HLIB := Lib.hid hlib
  clear b1 b2 b3 hlib
  go_enter Tryz.func3, Tryz.ntmps3
  go_wp2_with fail
  refine (drawLines_any W a0 cap0 bs H2.out hb H3.out H4.out).mono ?_
  rintro e w1 ⟨ls, A1, c1, rfl, hc1, hn1, hx1, hd, hg⟩
  have D := Lib.hid hd
  have G := Lib.hid hg
  have HX : Hid (∀ x ∈ ls, x.length ≤ 1048576) := Lib.hid (fun x hx => Nat.le_trans (hx1 x hx) (by omega))
  clear hd hg hx1 H2 H3 H4
  go_wp2_with fail
  refine (RunSession_impl (c := c1) (HLIB.out.on G.out) D.out HX.out hc1).mono ?_
  rintro e w2 ⟨rfl, hg⟩
  replace D := Lib.hid (D.out.on hg)
  replace G := Lib.hid (gb_trans G.out hg)
  clear hg
  go_wp2_with fail
  refine (RunSession_spec (c := c1) D.out HX.out (by omega)).mono ?_
  rintro e w3 ⟨rfl, hg⟩
  replace D := Lib.hid (D.out.on hg)
  replace G := Lib.hid (gb_trans G.out hg)
  clear hg
  have HLE := Lib.hid (M.session_le ls)
  obtain ⟨R, hR⟩ : ∃ R, R = tb (M.session ls) := ⟨_, rfl⟩
  rw [← hR]
  have HR := Lib.hid hR
  clear hR
  have hrs : R.size = (M.session ls).length := by rw [HR.out, tb_size]
  have hle := HLE.out
  obtain ⟨r, hr⟩ : ∃ r, r = (M.session ls).length := ⟨_, rfl⟩
  rw [← hr] at hrs hle
  obtain ⟨n, hn⟩ : ∃ n, n = ls.length := ⟨_, rfl⟩
  rw [← hn] at hn1 hc1 ⊢
  have HN := Lib.hid hn
  have HRL := Lib.hid hr
  clear hr hn
  go_wp2_with fail
  go_loopw [5] (fun iv wr => ∃ k : Nat, iv = .int .i64 k ∧ k ≤ n ∧ W.grownBy wr none ∧ SeesT wr A1 ls) (fun iv _ => n - (intOf iv).toNat)
  case atStart => exact ⟨0, rfl, Nat.zero_le _, G.out, D.out⟩
  case round =>
    obtain ⟨k, rfl, hk, hg, hd⟩ := hrel
    replace G := Lib.hid hg
    replace D := Lib.hid hd
    clear hg hd
    by_cases hlt : k < n
    · have kn : (k : Int) < n := by omega
      have k0 : (0 : Int) ≤ k := by omega
      have hkl : k ≤ ls.length := by rw [← HN.out]; omega
      have HTX : Hid (∀ x ∈ ls.take k, x.length ≤ 1048576) := Lib.hid (fun x hx => HX.out x (List.mem_of_mem_take hx))
      have HTL : Hid (k = (ls.take k).length) := Lib.hid (by rw [List.length_take]; omega)
      have HTD : Hid (∀ W', SeesT W' A1 ls → SeesT W' A1 (ls.take k)) := Lib.hid (fun W' h => by
        have := Rd.take h k
        rw [← List.map_take] at this
        exact this)
      have HTS := Lib.hid (M.session_take ls k)
      generalize ls.take k = es at *
      clear hkl
      go_wp2_with fail
      refine (run_at (c := c1) es HTL.out (HLIB.out.on G.out) (HTD.out _ D.out) HTX.out (by omega)).mono ?_
      rintro e w4 ⟨rfl, hg⟩
      replace D := Lib.hid (D.out.on hg)
      replace G := Lib.hid (gb_trans G.out hg)
      clear hg
      obtain ⟨q, hq⟩ := HTS.out
      have hps : (tb (M.session es)).size = (M.session es).length := tb_size _
      obtain ⟨p, hp⟩ : ∃ p, p = (M.session es).length := ⟨_, rfl⟩
      rw [← hp] at hps
      have hpr : p ≤ r := by rw [HRL.out, hp, hq, List.length_append]; omega
      have hex : R.extract 0 p = tb (M.session es) := by rw [HR.out, tb_extract, hq, hp, List.take_left, List.drop_zero]
      have hnle : ¬ (r : Int) < p := by omega
      have HP := Lib.hid hp
      clear hp hq
      generalize tb (M.session es) = P at *
      go_wp2_with fail
      go_roundw
      case rel => exact ⟨k + 1, by go_num, by omega, G.out, D.out⟩
      case measure => simp [intOf]; omega
    · obtain rfl : k = n := by omega
      go_wp2_with fail
      go_ret
      exact ⟨rfl, G.out⟩
end fnSessionPrefix
/-! the row's step, and the card -/
namespace fnSessionPrefix
set_option maxRecDepth 100000 in
theorem lifted (os : Os) (started : os.Started) (H : Type) (enc : TypeId × Value → H) :
    ReturnsInHanded {} Tryz.checked os 3 .any (fun w args => (Rows.fnSessionPrefixSpec.pre enc Tryz.prog Tryz.f3 [] false w args ∧ laidMetH Tryz.prog Rows.fnSessionPrefixRow.laid w) ∧ sizedMet enc Tryz.prog Tryz.f3 (OpenSpec.ofChange Rows.fnSessionPrefixSpec) false w args)
      (Rows.fnSessionPrefixSpec.post enc Tryz.prog Tryz.f3 false true false false) := by
  refine returns_laid_shaped (C := Tryz.checked) (X := fun w _ => laidMetH Tryz.prog Rows.fnSessionPrefixRow.laid w) (fun _ _ _ hh h => h.of_heap hh) own started (by kernel_rfl) Tryz.func3
    (ChangeSpec.witness_shaped (enc := enc) (C := Tryz.checked) (os := os) (X := fun w _ => laidMetH Tryz.prog Rows.fnSessionPrefixRow.laid w) false (World.laidAll Tryz.prog os Rows.fnSessionPrefixRow.laid) #[.slice none 0 0] 8 (World.laidAll_os _ _ _)
      (World.shaped_of_ZipB (by kernel_rfl) (by kernel_rfl)) (by kernel_rfl) (by kernel_rfl) (by kernel_rfl)
      (by rw [MakeChecks.laidMetH_plain _ _ _ (by kernel_rfl)]; exact laidMet_laidAll _ (by kernel_rfl) (by kernel_rfl))) ?_
  intro W base args ds gs before hval0 hW hL hsh
  have hval : ∀ (j : Nat) t v, Tryz.f3.params[j]? = some t → args[j]? = some v → Value.okWide Tryz.prog W .any base t v := hval0
  have hW' := hW
  obtain ⟨p, q, hA0, hV, rfl, hfz, hnd⟩ := hW
  have hA : DataW.TrodAll enc Tryz.prog W 0 (fun _ => true) true Tryz.f3.params.toList args.toList ds p := hA0
  rw [Tryz.params3] at hA hval
  obtain ⟨v0, vs0, d0, ds0, p0, q0, hargs, rfl, rfl, h0, r0⟩ := trodAll_cons hA
  obtain ⟨rfl, rfl, rfl⟩ := trodAll_nil r0
  obtain rfl : args = #[v0] := by cases args; simp_all
  obtain ⟨rfl, rfl⟩ := trodVars_none hV
  obtain ⟨a0, len0, cap0, rfl⟩ := okWide_slice Tryz.underlying22 (hval 0 22 v0 rfl rfl)
  have k0 := h0
  have lt0 : ∀ x ∈ p0, x.block < W.heap.size := by obtain ⟨m, hm⟩ := k0; exact DataW.trod_lt m _ _ _ hm
  obtain ⟨bs, rfl, b1, b2, b3⟩ := code_row h0
  rw [MakeChecks.laidMetH_plain _ _ _ (by kernel_rfl)] at hL
  have hlib : LibOk W := libOk_of hL hsh
  clear hA0 hval0
  refine (walk W a0 cap0 bs b1 b2 b3 hlib).mono fun e W' ⟨he, bel0⟩ => ?_
  have bel := gb_below bel0
  subst he
  exact ⟨_, rfl, _, _, _, [], _, [], hW', trodAll_mk1 (shut_bool Tryz.underlying4 _), (trodAll_cons_mk (Below.trod laidOut (by kernel_rfl) (of_decide_eq_true (by kernel_rfl)) k0 bel lt0) trodAll_mk0), rfl, bel.frame _, fun h => by cases h⟩
set_option maxRecDepth 100000 in
theorem over : Rows.fnSessionPrefixRow.holds Tryz.pinned (OpenSpec.ofChange Rows.fnSessionPrefixSpec) :=
  OpenClaim.holds_of_wide 3 Tryz.f3 rfl rfl rfl rfl rfl rfl rfl ⟨rfl, rfl, rfl, rfl, rfl⟩ rfl rfl rfl rfl rfl (by kernel_rfl) Tryz.func3 (by kernel_rfl)
    (of_decide_eq_true (by kernel_rfl)) (by unfold Func.isWrapper; first | (rw [if_pos (by decide +kernel)]; kernel_rfl) | (rw [if_neg (by decide +kernel)]; exact ⟨rfl, rfl⟩))
    (fun os started H enc _ => lifted os started H enc)
set_option maxRecDepth 100000 in
theorem proved : Rows.FnSessionPrefixCardSaid :=
  Claim7.holds_tied_plain_at .later [] [.data, .data, .data, .data, .sentinel, .sentinel, .pinned] true (true, "ec18b42cbbaa372bb440bb6ac51bb759f5cce2bc3979719b94ad816ce137e71c") true
    over (fun _ h => by cases h) (by kernel_rfl) (fun _ h => by cases h) fnSessionPrefix_row_tie rfl ⟨rfl, rfl⟩ (by kernel_rfl) rfl
    (fun f fn hf hfn => by
      obtain rfl : f = 3 := Option.some.inj ((show Tryz.prog.funcNamed Rows.fnSessionPrefixRow.func = some 3 by kernel_rfl).symm.trans hf) |>.symm
      obtain rfl : fn = Tryz.f3 := (Option.some.inj (Tryz.func3.symm.trans hfn)).symm
      exact ⟨by kernel_rfl, fun j t ht => by
        rw [Tryz.params3] at ht
        have hm : t ∈ [22] := by simpa using Array.mem_of_getElem? ht
        have hall : ([22].all fun u => !Tryz.prog.wantsStandIn u) = true := by kernel_rfl
        exact (show Tryz.prog.wantsStandIn t = false by simpa using List.all_eq_true.1 hall t hm)⟩)
    (by kernel_rfl)
end fnSessionPrefix
end Go.Proofs.YtibbpbbgmgdpdaaGreatDoor
