/- FnLogBetweenEmpty: empty stores are filled: proved for every input, with no condition. -/
import Derived.Test.YtilecjaibmglbaaFrame
import Derived.Test.YtilecjaibmglbaaBetL
namespace Go.Proofs.Ytilecjaibmglbaa
open Go.ChangeShapes Go.WideShapes Go.ChangeAt Go.RowKit
set_option linter.unusedVariables false
namespace fnLogBetweenEmpty
set_option maxRecDepth 100000 in
set_option maxHeartbeats 2000000 in
theorem walk (w : World) (A : Option Addr) (c : Nat) (bs : List Int) (h2 : bs.length ≤ c) (h3 : ∀ x ∈ bs, 0 ≤ x ∧ x ≤ 255) (h4 : Rd w 0 w.heap.size A (bs.map (.int .u8))) :
    Calls Try.prog 3 #[.slice A bs.length c] w fun e w' => e = .returned (.bool true) ∧ w.grownBy w' none := by
  have H2 := Lib.hid h2
  have H3 := Lib.hid h3
  have H4 := Lib.hid h4
  clear h2 h3 h4
  by_cases hb : bs.length ≤ 1048576
  rotate_left
  · have hb' : (1048576 : Int) < bs.length := by omega
    generalize bs.length = L at *
    go_enter Try.func3, Try.ntmps3
    go_wp2
    go_ret
    exact ⟨rfl, gb_refl _ _⟩
  have hb' : (bs.length : Int) ≤ 1048576 := by omega
  go_enter Try.func3, Try.ntmps3
  go_wp2_with fail
  refine (DrawLogBetween_any w A c bs H2.out hb H3.out H4.out).mono ?_
  rintro e W ⟨A1, c1, a, B1, d1, b, rfl, hc1, hd1, hd, he, hg⟩
  have D := Lib.hid hd
  have D' := Lib.hid he
  have G := Lib.hid hg
  clear hd he hg
  obtain ⟨T, hT⟩ : ∃ T, T = M.LogBetween a b := ⟨_, rfl⟩
  have HT := Lib.hid hT
  have HLS : Hid (∀ W, SeesI W A1 a → SeesI W B1 b → Calls Try.prog 10 #[.slice A1 a.length c1, .slice B1 b.length d1] W (GotE W T)) := Lib.hid fun W h h' => hT ▸ lb_spec h h'
  have HLI : Hid (∀ W, SeesI W A1 a → SeesI W B1 b → Calls Try.prog 8 #[.slice A1 a.length c1, .slice B1 b.length d1] W (GotE W T)) := Lib.hid fun W h h' => hT ▸ lb_impl h h'
  clear hT
  go_wp2_with fail
  refine (HLI.out _ D.out D'.out).mono ?_
  rintro e W ⟨A2, c2, rfl, hc2, hd, hg⟩
  replace D := Lib.hid (D.out.on hg)
  replace D' := Lib.hid (D'.out.on hg)
  replace G := Lib.hid (gb_trans G.out hg)
  have E := Lib.hid hd
  have HC2 := Lib.hid hc2
  clear hg hd hc2
  go_wp2_with fail
  refine (HLS.out _ D.out D'.out).mono ?_
  rintro e W ⟨A3, c3, rfl, hc3, hd, hg⟩
  replace D := Lib.hid (D.out.on hg)
  replace D' := Lib.hid (D'.out.on hg)
  replace E := Lib.hid (E.out.on hg)
  replace G := Lib.hid (gb_trans G.out hg)
  have E' := Lib.hid hd
  clear hg hd hc3
  go_wp2_with fail
  refine (eqe_same E.out E'.out).mono ?_
  rintro e W ⟨rfl, hg⟩
  replace D := Lib.hid (D.out.on hg)
  replace D' := Lib.hid (D'.out.on hg)
  replace E := Lib.hid (E.out.on hg)
  replace G := Lib.hid (gb_trans G.out hg)
  clear hg E'
  have HVB := Lib.hid (fun W (h : SeesI W B1 b) => vs_impl (c := d1) h)
  cases hvb : M.validStore b
  · rw [hvb] at HVB
    clear hvb
    go_wp2_with fail
    refine (HVB.out _ D'.out).mono ?_
    rintro e W ⟨rfl, hg⟩
    replace D := Lib.hid (D.out.on hg)
    replace D' := Lib.hid (D'.out.on hg)
    replace E := Lib.hid (E.out.on hg)
    replace G := Lib.hid (gb_trans G.out hg)
    clear hg
    go_wp2_with fail
    refine (HLS.out _ D.out D'.out).mono ?_
    rintro e W ⟨A3, c3, rfl, hc3, hd, hg⟩
    replace D := Lib.hid (D.out.on hg)
    replace D' := Lib.hid (D'.out.on hg)
    replace E := Lib.hid (E.out.on hg)
    replace G := Lib.hid (gb_trans G.out hg)
    have E' := Lib.hid hd
    clear hg hd hc3
    go_wp2_with fail
    refine (eqe_same E.out E'.out).mono ?_
    rintro e W ⟨rfl, hg⟩
    replace D := Lib.hid (D.out.on hg)
    replace D' := Lib.hid (D'.out.on hg)
    replace E := Lib.hid (E.out.on hg)
    replace G := Lib.hid (gb_trans G.out hg)
    clear hg E'
    go_wp2_with fail
    go_ret
    exact ⟨rfl, G.out⟩
  · rw [hvb] at HVB
    have HN : Hid (∀ W, SeesI W none []) := Lib.hid fun W => ⟨RdI.nil_ _ _ _ _, Small.nil_⟩
    have HF : Hid (∀ W, SeesI W B1 b → Calls Try.prog 8 #[.slice none 0 0, .slice B1 b.length d1] W (GotE W (b.map M.putOf))) := Lib.hid fun W h => by
      have e := lb_impl (c := 0) (d := d1) (HN.out W) h
      rw [M.between_fill hvb] at e
      exact e
    have HE : Hid (∀ W, SeesI W B1 b → Calls Try.prog 8 #[.slice B1 b.length d1, .slice none 0 0] W (GotE W (b.map M.dropOf))) := Lib.hid fun W h => by
      have e := lb_impl (c := d1) (d := 0) h (HN.out W)
      rw [M.between_gone hvb] at e
      exact e
    have hb16 := (M.validStore_of hvb).1
    clear hvb
    go_wp2_with fail
    refine (HVB.out _ D'.out).mono ?_
    rintro e W ⟨rfl, hg⟩
    replace D' := Lib.hid (D'.out.on hg)
    replace G := Lib.hid (gb_trans G.out hg)
    clear hg
    go_wp2_with fail
    refine (HF.out _ D'.out).mono ?_
    rintro e W ⟨A4, c4, rfl, hc4, hd, hg⟩
    replace D' := Lib.hid (D'.out.on hg)
    replace G := Lib.hid (gb_trans G.out hg)
    have F := Lib.hid hd
    clear hd hg
    go_wp2_with fail
    refine (HE.out _ D'.out).mono ?_
    rintro e W ⟨A5, c5, rfl, hc5, hd, hg⟩
    replace D' := Lib.hid (D'.out.on hg)
    replace F := Lib.hid (F.out.on hg)
    replace G := Lib.hid (gb_trans G.out hg)
    have P := Lib.hid hd
    clear hd hg
    rw [List.length_map] at hc4 hc5 ⊢
    obtain ⟨n, hn⟩ : ∃ n, n = b.length := ⟨_, rfl⟩
    rw [← hn] at hc4 hc5 hb16 hd1 ⊢
    have HNB := Lib.hid hn
    clear hn HVB HF HE HLS HLI D E
    obtain ⟨w8, hw8⟩ : ∃ w8 : World, w8 = W := ⟨_, rfl⟩
    subst hw8
    go_wp2_with fail
    go_loopw [8] (fun i wr => ∃ k : Nat, k ≤ n ∧ i = .int .i64 k ∧ w8.grownBy wr none) (fun i _ => n - (intOf i).toNat)
    case atStart => exact ⟨0, Nat.zero_le _, rfl, gb_refl _ _⟩
    case round =>
      obtain ⟨k, hk, rfl, hg⟩ := hrel
      have GW := Lib.hid hg
      clear hg
      by_cases hlt : k < n
      · have hkl : k < b.length := by rw [← HNB.out]; exact hlt
        obtain ⟨b1, o1, hA1, _, _, hI1⟩ := (D'.out.on GW.out).1.at_ (List.getElem?_eq_getElem hkl)
        obtain ⟨b2, o2, hA2, _, _, hI2⟩ := (F.out.on GW.out).1.at_ (show (b.map M.putOf)[k]? = some (M.putOf b[k]) by rw [List.getElem?_map, List.getElem?_eq_getElem hkl]; rfl)
        obtain ⟨b3, o3, hA3, _, _, hI3⟩ := (P.out.on GW.out).1.at_ (show (b.map M.dropOf)[k]? = some (M.dropOf b[k]) by rw [List.getElem?_map, List.getElem?_eq_getElem hkl]; rfl)
        subst hA1 hA2 hA3
        obtain ⟨u1, a0, a1, a2, hu1⟩ := hI1
        obtain ⟨u2, q0, q1, q2, q3, hu2⟩ := hI2
        obtain ⟨u3, r0, r1, r2, r3, hu3⟩ := hI3
        obtain ⟨Au1, cu1, rfl, hcu1, hru1⟩ := hu1
        obtain ⟨Au2, cu2, rfl, hcu2, hru2⟩ := hu2
        have hpl : b[k].pos.length ≤ 1048576 := D'.out.2.2 _ (List.getElem_mem hkl)
        have HE : Hid (∀ W, wr.grownBy W none → Calls Try.prog 12 #[.agg #[.int .i64 b[k].key, .slice Au2 b[k].pos.length cu2, .int .i64 b[k].tags], .agg #[.int .i64 b[k].key, .slice Au1 b[k].pos.length cu1, .int .i64 b[k].tags]] W fun e w' => e = .returned (.bool true) ∧ W.grownBy w' none) := Lib.hid fun W hW => by
          have h := equalItem_any W _ _ 0 W.heap.size 0 W.heap.size b[k] b[k] hpl ((RdInts.keep (show RdInts .i64 wr 0 wr.heap.size (.slice Au2 b[k].pos.length cu2) b[k].pos from ⟨_, _, rfl, hcu2, hru2⟩) hW (Nat.le_refl _)).wide (Nat.le_refl _) hW.size) ((RdInts.keep (show RdInts .i64 wr 0 wr.heap.size (.slice Au1 b[k].pos.length cu1) b[k].pos from ⟨_, _, rfl, hcu1, hru1⟩) hW (Nat.le_refl _)).wide (Nat.le_refl _) hW.size) (Nat.le_refl _) (Nat.le_refl _)
          rwa [eqItemB_self] at h
        have l0 : ∀ x : Later wr, x.w.cell? ⟨b1, o1 + k * 3, none⟩ = some (.int .i64 b[k].key) := fun x => x.cell a0
        have l1 : ∀ x : Later wr, x.w.cell? ⟨b1, o1 + k * 3 + 1, none⟩ = some (.slice Au1 b[k].pos.length cu1) := fun x => x.cell a1
        have l2 : ∀ x : Later wr, x.w.cell? ⟨b1, o1 + k * 3 + 2, none⟩ = some (.int .i64 b[k].tags) := fun x => x.cell a2
        have m0 : ∀ x : Later wr, x.w.cell? ⟨b2, o2 + k * 4, none⟩ = some (.int .i64 1) := fun x => x.cell q0
        have m1 : ∀ x : Later wr, x.w.cell? ⟨b2, o2 + k * 4 + 1, none⟩ = some (.int .i64 b[k].key) := fun x => x.cell q1
        have m2 : ∀ x : Later wr, x.w.cell? ⟨b2, o2 + k * 4 + 1 + 1, none⟩ = some (.slice Au2 b[k].pos.length cu2) := fun x => x.cell q2
        have m3 : ∀ x : Later wr, x.w.cell? ⟨b2, o2 + k * 4 + 1 + 2, none⟩ = some (.int .i64 b[k].tags) := fun x => x.cell q3
        have n0 : ∀ x : Later wr, x.w.cell? ⟨b3, o3 + k * 4, none⟩ = some (.int .i64 2) := fun x => x.cell r0
        have n1 : ∀ x : Later wr, x.w.cell? ⟨b3, o3 + k * 4 + 1, none⟩ = some (.int .i64 b[k].key) := fun x => x.cell r1
        have kn : (k : Int) < n := by omega
        have k0 : (0 : Int) ≤ k := by omega
        have kd : decide ((n : Int) ≤ (k : Int)) = false := decide_eq_false (by omega)
        have kd' : decide (n ≤ k) = false := decide_eq_false (by omega)
        have kk : (b[k].key != b[k].key) = false := by simp
        clear hcu1 hru1 hcu2 hru2 hu3 a0 a1 a2 q0 q1 q2 q3 r0 r1 r2 r3
        generalize b[k] = y at *
        go_wp2_with fail
        refine wp_region_later (by kernel_rfl) (by kernel_rfl) ?_
        repeat (go_big_quiet_step ((go_at_call 12; exact later_call (HE.out _ (Later.h _)))))
        refine wpQuiet_nil ?_
        rintro _ ⟨x, rfl⟩
        go_wp2_with fail
        go_roundw
        case rel => exact ⟨k + 1, by omega, by go_num, gb_trans GW.out x.h⟩
        case measure => simp [intOf]; omega
      · have te' : ((n : Int) == (n : Int)) = true := by simp
        go_wp2_with fail
        go_ret
        exact ⟨rfl, gb_trans G.out GW.out⟩
end fnLogBetweenEmpty
/-! the row's step -/
namespace fnLogBetweenEmpty
set_option maxRecDepth 100000 in
theorem lifted (os : Os) (started : os.Started) (H : Type) (enc : TypeId × Value → H) :
    ReturnsInHanded {} Try.checked os 3 .any (Rows.fnLogBetweenEmptySpec.pre6 enc Try.prog Try.f3 Rows.fnLogBetweenEmptyRow.domain false) (Rows.fnLogBetweenEmptySpec.post enc Try.prog Try.f3 false true false false) := by
  refine returnsInHanded_of_change (C := Try.checked) own started (by kernel_rfl) Try.func3
    (ChangeSpec.witness6 (enc := enc) (C := Try.checked) false ⟨#[], #[.slice none 0 0], []⟩ 8 (by kernel_rfl) (by kernel_rfl) (by kernel_rfl) (by kernel_rfl)) ?_
  intro W base args ds gs before hval0 hW hcnd _
  have hval : ∀ (j : Nat) t v, Try.f3.params[j]? = some t → args[j]? = some v → Value.okWide Try.prog W .any base t v := hval0
  have hW' := hW
  obtain ⟨p, q, hA0, hV, rfl, hfz, hnd⟩ := hW
  have hA : DataW.TrodAll enc Try.prog W 0 (fun _ => true) true Try.f3.params.toList args.toList ds p := hA0
  rw [Try.params3] at hA hval
  obtain ⟨v0, vs0, d0, ds0, p0, q0, hargs, rfl, rfl, h0, r0⟩ := trodAll_cons hA
  obtain ⟨rfl, rfl, rfl⟩ := trodAll_nil r0
  obtain rfl : args = #[v0] := by cases args; simp_all
  obtain ⟨rfl, rfl⟩ := trodVars_none hV
  obtain ⟨a0, len0, cap0, rfl⟩ := okWide_slice Try.underlying22 (hval 0 22 v0 rfl rfl)
  have k0 := h0
  have lt0 : ∀ x ∈ p0, x.block < W.heap.size := by obtain ⟨m, hm⟩ := k0; exact DataW.trod_lt m _ _ _ hm
  obtain ⟨L0, rfl, b00, b01, b02⟩ := code_row h0
  clear hA0 hval0
  refine (walk W a0 cap0 L0 b00 b01 b02).mono fun e W' ⟨he, bel0⟩ => ?_
  have bel := gb_below bel0
  subst he
  exact ⟨_, rfl, _, _, _, [], _, [], hW', trodAll_mk1 (shut_bool Try.underlying4 _), (trodAll_cons_mk (Below.trod laidOut (by kernel_rfl) (of_decide_eq_true (by kernel_rfl)) k0 bel lt0) trodAll_mk0), rfl, bel.frame _, fun h => by cases h⟩
set_option maxRecDepth 100000 in
theorem over : Rows.fnLogBetweenEmptyRow.holds Try.pinned (OpenSpec.ofChange Rows.fnLogBetweenEmptySpec) :=
  OpenClaim.holds_of_wide 3 Try.f3 rfl rfl rfl rfl rfl rfl rfl ⟨rfl, rfl, rfl, rfl, rfl⟩ rfl rfl rfl rfl rfl (by kernel_rfl) Try.func3 (by kernel_rfl)
    (of_decide_eq_true (by kernel_rfl)) (by unfold Func.isWrapper; first | (rw [if_pos (by decide +kernel)]; kernel_rfl) | (rw [if_neg (by decide +kernel)]; exact ⟨rfl, rfl⟩))
    (fun os started H enc _ => lifted os started H enc)
theorem proved : Rows.FnLogBetweenEmptySaid := over
end fnLogBetweenEmpty
end Go.Proofs.Ytilecjaibmglbaa
