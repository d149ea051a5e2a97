/- FnProbeNearest: probes find some: proved for every input, with no condition. -/
import Derived.Test.YtamaoljjoghajaaFrame
import Derived.Test.YtamaoljjoghajaaDrawP
import Derived.Test.YtamaoljjoghajaaRepW
import Derived.Test.YtamaoljjoghajaaEqL
namespace Go.Proofs.Ytamaoljjoghajaa
open Go.ChangeShapes Go.WideShapes Go.ChangeAt Go.RowKit
set_option linter.unusedVariables false
set_option linter.unusedSimpArgs false
namespace fnProbeNearest
set_option maxRecDepth 100000 in
set_option maxHeartbeats 2000000 in
theorem walk (w : World) (A : Option Addr) (c : Nat) (bs : List Int) (h2 : bs.length ≤ c) (h3 : ∀ x ∈ bs, 0 ≤ x ∧ x ≤ 255) (h4 : Rd w 0 w.heap.size A (bs.map (.int .u8))) :
    Calls Try.prog 6 #[.slice A bs.length c] w fun e w' => e = .returned (.bool true) ∧ w.grownBy w' none := by
  have H2 := Lib.hid h2
  have H3 := Lib.hid h3
  have H4 := Lib.hid h4
  clear h2 h3 h4
  by_cases hb : bs.length ≤ 1048576
  rotate_left
  · have hb' : (1048576 : Int) < bs.length := by omega
    generalize bs.length = L at *
    go_enter Try.func6, Try.ntmps6
    go_wp2
    go_ret
    exact ⟨rfl, gb_refl _ _⟩
  have hb' : (bs.length : Int) ≤ 1048576 := by omega
  go_enter Try.func6, Try.ntmps6
  go_wp2_with fail
  refine (drawProbe_any w A c bs H2.out hb H3.out H4.out).mono ?_
  rintro e W ⟨A0, c0, C, A1, c1, L, B1, d1, m, many, k, rfl, hv, hs, hn, hg⟩
  have V := Lib.hid hv
  have D := Lib.hid hs
  have N := Lib.hid hn
  have G := Lib.hid hg
  clear hv hs hn hg
  obtain ⟨K, hK⟩ : ∃ K, K = M.ProbeNearest C L m many k := ⟨_, rfl⟩
  have hK16 : K.length ≤ 16 := by rw [hK]; exact pn_le _ _ _ _ _
  have HOK : Hid (OkHits K) := Lib.hid (by rw [hK]; exact pn_ok _ _ _ _ _)
  have HM : Hid (∀ h ∈ K, M.areVecs C = true ∧ M.isVec m = true ∧ ∃ (i : Nat) (hi : i < L.length), L[i].key = h.key ∧ M.dist 3 L[i].pos m = h.dist ∧ M.isVec L[i].pos = true ∧ (M.centre C L[i].pos : Int) ∈ M.ProbeOrder C m many ∧ (∀ j (hj : j < i), (L[j]'(by omega)).key ≠ L[i].key)) := Lib.hid fun h hh => pn_mem (by rw [← hK]; exact hh)
  have HI : Hid (∀ W, SeesV W A0 C → SeesI W A1 L → SeesN .i64 W B1 m → Calls Try.prog 26 #[.slice A0 C.length c0, .slice A1 L.length c1, .slice B1 m.length d1, .int .i64 many, .int .i64 k] W (GotX W K)) := Lib.hid fun W h h' h'' => by rw [hK]; exact (ProbeNearest_impl h h' h'').mono fun _ _ => gotX_of (pn_le _ _ _ _ _)
  have HS : Hid (∀ W, SeesV W A0 C → SeesI W A1 L → SeesN .i64 W B1 m → Calls Try.prog 27 #[.slice A0 C.length c0, .slice A1 L.length c1, .slice B1 m.length d1, .int .i64 many, .int .i64 k] W (GotX W K)) := Lib.hid fun W h h' h'' => by rw [hK]; exact (ProbeNearest_spec h h' h'').mono fun _ _ => gotX_of (pn_le _ _ _ _ _)
  have HPO : Hid (∀ W, SeesV W A0 C → SeesN .i64 W B1 m → Calls Try.prog 28 #[.slice A0 C.length c0, .slice B1 m.length d1, .int .i64 many] W (GotN .i64 W (M.ProbeOrder C m many))) := Lib.hid fun W h h'' => ProbeOrder_impl h h''
  clear hK
  generalize M.ProbeOrder C m many = P at *
  go_wp2_with fail
  refine (HI.out _ V.out D.out N.out).mono ?_
  rintro e W ⟨A2, c2, rfl, hc2, hs, hg⟩
  replace V := Lib.hid (V.out.on hg)
  replace D := Lib.hid (D.out.on hg)
  replace N := Lib.hid (N.out.on hg)
  replace G := Lib.hid (gb_trans G.out hg)
  clear hg
  have F := Lib.hid hs
  clear hs
  go_wp2_with fail
  refine (HS.out _ V.out D.out N.out).mono ?_
  rintro e W ⟨A3, c3, rfl, hc3, hs, hg⟩
  replace V := Lib.hid (V.out.on hg)
  replace D := Lib.hid (D.out.on hg)
  replace N := Lib.hid (N.out.on hg)
  replace F := Lib.hid (F.out.on hg)
  replace G := Lib.hid (gb_trans G.out hg)
  clear hg
  have F3 := Lib.hid hs
  clear hs
  go_wp2_with fail
  refine (equalHits_same F.out F3.out).mono ?_
  rintro e W ⟨rfl, hg⟩
  replace V := Lib.hid (V.out.on hg)
  replace D := Lib.hid (D.out.on hg)
  replace N := Lib.hid (N.out.on hg)
  replace F := Lib.hid (F.out.on hg)
  replace G := Lib.hid (gb_trans G.out hg)
  clear hg
  go_wp2_with fail
  refine (HPO.out _ V.out N.out).mono ?_
  rintro e W ⟨A4, c4, rfl, hc4, hs, hg⟩
  replace V := Lib.hid (V.out.on hg)
  replace D := Lib.hid (D.out.on hg)
  replace N := Lib.hid (N.out.on hg)
  replace F := Lib.hid (F.out.on hg)
  replace G := Lib.hid (gb_trans G.out hg)
  clear hg
  have F4 := Lib.hid hs
  clear hs HI HS HPO F3 hc3 hc4
  obtain ⟨n, hnn⟩ : ∃ n, n = K.length := ⟨_, rfl⟩
  have HL := Lib.hid hnn
  have HVH : Hid (∀ V, W.grownBy V none → Calls Try.prog 32 #[.slice A2 n c2] V fun e w' => e = .returned (.bool true) ∧ V.grownBy w' none) := Lib.hid fun V hV => by rw [hnn]; exact ValidHits_impl (F.out.on hV) hc2 HOK.out
  rw [← hnn] at hK16 hc2 ⊢
  clear hnn
  go_wp2_with fail
  go_loopw [10] (fun i wr => ∃ j : Nat, j ≤ n ∧ i = .int .i64 j ∧ W.grownBy wr none) (fun i _ => n - (intOf i).toNat)
  case atStart => exact ⟨0, Nat.zero_le _, rfl, gb_refl _ _⟩
  case round =>
    obtain ⟨j, hj, rfl, hg⟩ := hrel
    have HG := Lib.hid hg
    clear hg
    by_cases hlt : j < n
    · have hjl : j < K.length := by rw [← HL.out]; exact hlt
      obtain ⟨b, o, rfl, hb1, hb2, c0', c1'⟩ := (F.out.on HG.out).1.hit (List.getElem?_eq_getElem hjl)
      obtain ⟨ha, hvm, i, hi, e1, e2, hvx, hcen, hfi⟩ := HM.out _ (List.getElem_mem hjl)
      obtain ⟨ux, hux, hcall⟩ := itemOf_at (c := c1) D.out hi hfi
      obtain ⟨Au, cu, rfl, hcu, hru⟩ := hux
      have HCL := Lib.hid hcall
      have hwr := HG.out
      have hszr := HG.out.size
      have HDI : Hid (∀ x : Later wr, Calls Try.prog 30 #[.int .i64 3, .slice Au L[i].pos.length cu, .slice B1 m.length d1] x.w fun e w' => e = .returned (.int .i64 K[j].dist) ∧ x.w.grownBy w' none) := Lib.hid fun x => by
        have hgx := gb_trans hwr x.h
        have e := Distance_impl (c := cu) (d := d1) (l := L[i].pos) (m := m) (w := x.w) (A := Au) (B := B1) (SeesN.on (k := .i64) ⟨hru, by rw [(M.isVec_of hvx).2]; omega⟩ hgx) (N.out.on hgx) hvx hvm
        rwa [e2] at e
      have HCO : Hid (∀ x : Later wr, Calls Try.prog 31 #[.slice A0 C.length c0, .slice Au L[i].pos.length cu] x.w fun e w' => e = .returned (.int .i64 (M.centre C L[i].pos : Nat)) ∧ x.w.grownBy w' none) := Lib.hid fun x => by
        have hgx := gb_trans hwr x.h
        exact CentreOf_impl (V.out.on hgx) (SeesN.on (k := .i64) ⟨hru, by rw [(M.isVec_of hvx).2]; omega⟩ hgx) ha hvx
      have HIN : Hid (∀ x : Later wr, Calls Try.prog 23 #[.slice A4 P.length c4, .int .i64 (M.centre C L[i].pos : Nat)] x.w fun e w' => e = .returned (.bool true) ∧ x.w.grownBy w' none) := Lib.hid fun x => by
        have e := isIn_any (c := c4) (n := (M.centre C L[i].pos : Int)) (F4.out.on (gb_trans hwr x.h))
        rwa [decide_eq_true hcen] at e
      have HCL2 : Hid (Calls Try.prog 29 #[.slice A1 L.length c1, .int .i64 K[j].key] wr fun e w' => e = .returned (.agg #[.int .i64 K[j].key, .slice Au L[i].pos.length cu, .int .i64 L[i].tags]) ∧ wr.grownBy w' none) := Lib.hid (by
        have e := hcall wr hwr
        rwa [e1] at e)
      have kn : (j : Int) < n := by omega
      have k0 : (0 : Int) ≤ j := by omega
      clear hcall HCL ha hvm e2 hvx hcen hfi hru hcu hwr
      generalize M.centre C L[i].pos = q at *
      generalize L[i] = y at *
      generalize K[j] = h at *
      clear e1
      go_wp2_with fail
      refine HCL2.out.mono ?_
      rintro e w5 ⟨rfl, hg5⟩
      have G5 := Lib.hid hg5
      clear hg5 HCL2
      go_wp2_with fail
      refine wp_name (fun X => X.cell? ⟨w5.heap.size, 1, none⟩ = some (.slice Au y.pos.length cu) ∧ X.cell? ⟨b, o + j * 2 + 1, none⟩ = some (.int .i64 h.dist) ∧ wr.grownBy X none) ⟨three_cell_at rfl 1 _ rfl, (gb_alloc G5.out _).cell c1' (by simp), gb_alloc G5.out _⟩ ?_
      rintro X ⟨b1, b2, hgx⟩
      have GX0 := Lib.hid hgx
      have l1 : ∀ x : Later X, x.w.cell? ⟨w5.heap.size, 1, none⟩ = some (.slice Au y.pos.length cu) := fun x => x.cell b1
      have l2 : ∀ x : Later X, x.w.cell? ⟨b, o + j * 2 + 1, none⟩ = some (.int .i64 h.dist) := fun x => x.cell b2
      have HDI2 := Lib.hid (fun x : Later X => HDI.out ⟨x.w, gb_trans GX0.out x.h⟩)
      have HCO2 := Lib.hid (fun x : Later X => HCO.out ⟨x.w, gb_trans GX0.out x.h⟩)
      have HIN2 := Lib.hid (fun x : Later X => HIN.out ⟨x.w, gb_trans GX0.out x.h⟩)
      have t1 : (h.dist != h.dist) = false := by simp
      clear b1 b2 hgx c0' c1' HDI HCO HIN
      refine wp_region_later (by kernel_rfl) (by kernel_rfl) ?_
      repeat (go_big_quiet_step ((first | (go_at_call 30; exact later_call (HDI2.out _)) | (go_at_call 31; exact later_call (HCO2.out _)) | (go_at_call 23; exact later_call (HIN2.out _)))))
      refine wpQuiet_nil ?_
      rintro _ ⟨x, rfl⟩
      have GX := Lib.hid (gb_trans HG.out (gb_trans GX0.out x.h))
      clear l1 l2
      go_wp2_with fail
      go_roundw
      case rel => exact ⟨j + 1, by omega, by go_num, GX.out⟩
      case measure => simp [intOf]; omega
    · obtain rfl : j = n := by omega
      go_wp2_with fail
      refine (HVH.out _ HG.out).mono ?_
      rintro e w9 ⟨rfl, hg9⟩
      have G9 := Lib.hid (gb_trans HG.out hg9)
      clear hg9
      go_wp2_with fail
      go_ret
      exact ⟨rfl, gb_trans G.out G9.out⟩
end fnProbeNearest
/-! the row's step -/
namespace fnProbeNearest
set_option maxRecDepth 100000 in
theorem lifted (os : Os) (started : os.Started) (H : Type) (enc : TypeId × Value → H) :
    ReturnsInHanded {} Try.checked os 6 .any (Rows.fnProbeNearestSpec.pre6 enc Try.prog Try.f6 Rows.fnProbeNearestRow.domain false) (Rows.fnProbeNearestSpec.post enc Try.prog Try.f6 false true false false) := by
  refine returnsInHanded_of_change (C := Try.checked) own started (by kernel_rfl) Try.func6
    (ChangeSpec.witness6 (enc := enc) (C := Try.checked) false ⟨#[], #[.slice none 0 0], []⟩ 8 (by kernel_rfl) (by kernel_rfl) (by kernel_rfl) (by kernel_rfl)) ?_
  intro W base args ds gs before hval0 hW hcnd _
  have hval : ∀ (j : Nat) t v, Try.f6.params[j]? = some t → args[j]? = some v → Value.okWide Try.prog W .any base t v := hval0
  have hW' := hW
  obtain ⟨p, q, hA0, hV, rfl, hfz, hnd⟩ := hW
  have hA : DataW.TrodAll enc Try.prog W 0 (fun _ => true) true Try.f6.params.toList args.toList ds p := hA0
  rw [Try.params6] at hA hval
  obtain ⟨v0, vs0, d0, ds0, p0, q0, hargs, rfl, rfl, h0, r0⟩ := trodAll_cons hA
  obtain ⟨rfl, rfl, rfl⟩ := trodAll_nil r0
  obtain rfl : args = #[v0] := by cases args; simp_all
  obtain ⟨rfl, rfl⟩ := trodVars_none hV
  obtain ⟨a0, len0, cap0, rfl⟩ := okWide_slice Try.underlying37 (hval 0 37 v0 rfl rfl)
  have k0 := h0
  have lt0 : ∀ x ∈ p0, x.block < W.heap.size := by obtain ⟨m, hm⟩ := k0; exact DataW.trod_lt m _ _ _ hm
  obtain ⟨L0, rfl, b00, b01, b02⟩ := code_row h0
  clear hA0 hval0
  refine (walk W a0 cap0 L0 b00 b01 b02).mono fun e W' ⟨he, bel0⟩ => ?_
  have bel := gb_below bel0
  subst he
  exact ⟨_, rfl, _, _, _, [], _, [], hW', trodAll_mk1 (shut_bool Try.underlying4 _), (trodAll_cons_mk (Below.trod laidOut (by kernel_rfl) (of_decide_eq_true (by kernel_rfl)) k0 bel lt0) trodAll_mk0), rfl, bel.frame _, fun h => by cases h⟩
set_option maxRecDepth 100000 in
theorem over : Rows.fnProbeNearestRow.holds Try.pinned (OpenSpec.ofChange Rows.fnProbeNearestSpec) :=
  OpenClaim.holds_of_wide 6 Try.f6 rfl rfl rfl rfl rfl rfl rfl ⟨rfl, rfl, rfl, rfl, rfl⟩ rfl rfl rfl rfl rfl (by kernel_rfl) Try.func6 (by kernel_rfl)
    (of_decide_eq_true (by kernel_rfl)) (by unfold Func.isWrapper; first | (rw [if_pos (by decide +kernel)]; kernel_rfl) | (rw [if_neg (by decide +kernel)]; exact ⟨rfl, rfl⟩))
    (fun os started H enc _ => lifted os started H enc)
theorem proved : Rows.FnProbeNearestSaid := over
end fnProbeNearest
end Go.Proofs.Ytamaoljjoghajaa
