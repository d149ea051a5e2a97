/- FnValidHistory: histories have beginnings: proved for every input, with no condition. -/
import Derived.Test.YthkklmmgakkliaaFrame
import Derived.Test.YthkklmmgakkliaaHisK
namespace Go.Proofs.Ythkklmmgakkliaa
open Go.ChangeShapes Go.WideShapes Go.ChangeAt Go.RowKit
set_option linter.unusedVariables false
set_option linter.unusedSimpArgs false
namespace fnValidHistory
set_option maxRecDepth 100000 in
set_option maxHeartbeats 2000000 in
theorem walk (w : World) (A : Option Addr) (c : Nat) (bs : List Int) (h2 : bs.length ≤ c) (h3 : ∀ x ∈ bs, 0 ≤ x ∧ x ≤ 255) (h4 : Rd w 0 w.heap.size A (bs.map (.int .u8))) :
    Calls Try.prog 4 #[.slice A bs.length c] w fun e w' => e = .returned (.bool true) ∧ w.grownBy w' none := by
  have H2 := Lib.hid h2
  have H3 := Lib.hid h3
  have H4 := Lib.hid h4
  clear h2 h3 h4
  by_cases hb : bs.length ≤ 1048576
  rotate_left
  · have hb' : (1048576 : Int) < bs.length := by omega
    generalize bs.length = L at *
    go_enter Try.func4, Try.ntmps4
    go_wp2
    go_ret
    exact ⟨rfl, gb_refl _ _⟩
  have hb' : (bs.length : Int) ≤ 1048576 := by omega
  go_enter Try.func4, Try.ntmps4
  go_wp2_with fail
  refine (DrawValidHistory_any w A c bs H2.out hb H3.out H4.out).mono ?_
  rintro e W ⟨h, A1, B1, c1, d1, rfl, hf, hs, hg⟩
  obtain ⟨l, ts⟩ := h
  have HF := Lib.hid hf
  obtain ⟨hlc, hld, hl1, hl2⟩ := hf
  change l.length ≤ c1 at hlc
  change ts.length ≤ d1 at hld
  change l.length ≤ 40 at hl1
  change ts.length ≤ 40 at hl2
  have D0 := Lib.hid (SeesGH.sees hs)
  have G0 := Lib.hid hg
  clear hs hg
  go_wp2_with fail
  refine calls_name (fun V => SeesH V A1 B1 ⟨l, ts⟩ ∧ Row V W.heap.size 30 [.slice A1 l.length c1, .slice B1 ts.length d1] ∧ w.grownBy V none ∧ W.grownBy V none) ⟨D0.out.on (World.grownBy_alloc W _ none), Row.new W _ rfl, gb_alloc G0.out _, World.grownBy_alloc W _ none⟩ ?_
  obtain ⟨hb, hhb⟩ : ∃ hb, hb = W.heap.size := ⟨_, rfl⟩
  rw [← hhb]
  rintro V ⟨hs, hx, hg, hv⟩
  have D := Lib.hid hs
  have X := Lib.hid hx
  have G := Lib.hid hg
  have GV := Lib.hid hv
  clear hs hx hg hv hhb
  obtain ⟨b, hbv⟩ : ∃ b, b = M.validHist ⟨l, ts⟩ := ⟨_, rfl⟩
  have HV := Lib.hid hbv
  have HI : Hid (∀ W, SeesH W A1 B1 ⟨l, ts⟩ → Calls Try.prog 14 #[.agg #[.slice A1 l.length c1, .slice B1 ts.length d1]] W fun e w' => e = .returned (.bool b) ∧ W.grownBy w' none) := Lib.hid fun W h => by rw [hbv]; exact ValidHistory_impl h
  have HS : Hid (∀ W, SeesH W A1 B1 ⟨l, ts⟩ → Calls Try.prog 12 #[.agg #[.slice A1 l.length c1, .slice B1 ts.length d1]] W fun e w' => e = .returned (.bool b) ∧ W.grownBy w' none) := Lib.hid fun W h => by rw [hbv]; exact ValidHistory_spec h
  clear hbv D0 G0 GV
  refine (HI.out _ D.out).mono ?_
  rintro e W ⟨rfl, hg⟩
  replace D := Lib.hid (D.out.on hg)
  replace X := Lib.hid (X.out.on hg)
  replace G := Lib.hid (gb_trans G.out hg)
  clear hg
  have q0 := X.out.cell 0
  have q1 := X.out.cell 1
  simp only [List.getElem?_cons_zero, List.getElem?_cons_succ] at q0 q1
  go_wp2_with fail
  refine (HS.out _ D.out).mono ?_
  rintro e W ⟨rfl, hg⟩
  replace D := Lib.hid (D.out.on hg)
  replace X := Lib.hid (X.out.on hg)
  replace G := Lib.hid (gb_trans G.out hg)
  clear hg
  clear q0 q1
  have q0 := X.out.cell 0
  have q1 := X.out.cell 1
  simp only [List.getElem?_cons_zero, List.getElem?_cons_succ] at q0 q1
  cases b
  · go_wp2_with fail
    refine (HS.out _ D.out).mono ?_
    rintro e W ⟨rfl, hg⟩
    replace D := Lib.hid (D.out.on hg)
    replace X := Lib.hid (X.out.on hg)
    replace G := Lib.hid (gb_trans G.out hg)
    clear hg
    go_wp2_with fail
    go_ret
    exact ⟨rfl, G.out⟩
  · obtain ⟨z1, z2, z3, z4⟩ := hist_facts HV.out.symm
    change ts.length = l.length at z1
    change l.length ≤ 32 at z3
    have HZ4 : Hid (M.validLog l = true) := Lib.hid z4
    by_cases hl0 : l.length = 0
    · have t0 : ((l.length : Int) == 0) = true := by rw [hl0]; rfl
      clear hl0 z1 z2
      go_wp2_with fail
      refine (HS.out _ D.out).mono ?_
      rintro e W ⟨rfl, hg⟩
      replace D := Lib.hid (D.out.on hg)
      replace X := Lib.hid (X.out.on hg)
      replace G := Lib.hid (gb_trans G.out hg)
      clear hg
      go_wp2_with fail
      go_ret
      exact ⟨rfl, G.out⟩
    · have HVT := Lib.hid (M.take_valid HV.out.symm (l.length - 1))
      obtain ⟨k, hk⟩ : ∃ k, l.length = k + 1 := ⟨l.length - 1, by omega⟩
      have z6 : ts.length = k + 1 := by omega
      have HB : Hid (∀ W, SeesH W A1 B1 ⟨l, ts⟩ → Calls Try.prog 14 #[.agg #[.slice A1 k c1, .slice B1 k d1]] W fun e w' => e = .returned (.bool true) ∧ W.grownBy w' none) := Lib.hid fun W h => by
        have e := ValidHistory_impl (c := c1) (d := d1) (h.take k)
        have e1 : (l.take k).length = k := by simp; omega
        have e2 : (ts.take k).length = k := by simp; omega
        have e3 : M.validHist ⟨l.take k, ts.take k⟩ = true := by have := HVT.out; rw [hk] at this; exact this
        simp only [e1, e2, e3] at e
        exact e
      have HL : Hid (∀ W, SeesH W A1 B1 ⟨l, ts⟩ → Calls Try.prog 17 #[.slice A1 (k + 1) c1] W fun e w' => e = .returned (.bool true) ∧ W.grownBy w' none) := Lib.hid fun W h => by
        have e := ValidLog_impl (c := c1) h.1
        rw [hk] at e
        rw [HZ4.out] at e
        exact e
      rw [hk] at hlc X q0
      rw [z6] at hld X q1
      rw [hk, z6]
      have hk1 : k ≤ c1 := by omega
      have hk2 : k ≤ d1 := by omega
      have hk3 : (k : Int) ≤ c1 := by omega
      have hk4 : (k : Int) ≤ d1 := by omega
      have hk5 : (k : Int) < k + 1 := by omega
      have hk6 : IntKind.i64.wrap (k : Int) = k := IntWalk.i64_in _ (by omega)
      have m0 : ∀ x : Later W, x.w.cell? ⟨hb, 0, none⟩ = some (.slice A1 (k + 1) c1) := fun x => x.cell (X.out.cell 0)
      have m1 : ∀ x : Later W, x.w.cell? ⟨hb, 1, none⟩ = some (.slice B1 (k + 1) d1) := fun x => x.cell (X.out.cell 1)
      clear hk z6 z1 z2 hl0
      go_wp2_with fail
      refine wp_region_later (by kernel_rfl) (by kernel_rfl) ?_
      repeat (go_big_quiet_step ((first | (go_at_call 14; exact later_call (HB.out _ (D.out.on (Later.h _)))) | (go_at_call 17; exact later_call (HL.out _ (D.out.on (Later.h _)))))))
      refine wpQuiet_nil ?_
      rintro _ ⟨x, rfl⟩
      go_wp2_with fail
      go_ret
      exact ⟨rfl, gb_trans G.out x.h⟩
end fnValidHistory
/-! the row's step -/
namespace fnValidHistory
set_option maxRecDepth 100000 in
theorem lifted (os : Os) (started : os.Started) (H : Type) (enc : TypeId × Value → H) :
    ReturnsInHanded {} Try.checked os 4 .any (Rows.fnValidHistorySpec.pre6 enc Try.prog Try.f4 Rows.fnValidHistoryRow.domain false) (Rows.fnValidHistorySpec.post enc Try.prog Try.f4 false true false false) := by
  refine returnsInHanded_of_change (C := Try.checked) own started (by kernel_rfl) Try.func4
    (ChangeSpec.witness6 (enc := enc) (C := Try.checked) false ⟨#[], #[.slice none 0 0], []⟩ 8 (by kernel_rfl) (by kernel_rfl) (by kernel_rfl) (by kernel_rfl)) ?_
  intro W base args ds gs before hval0 hW hcnd _
  have hval : ∀ (j : Nat) t v, Try.f4.params[j]? = some t → args[j]? = some v → Value.okWide Try.prog W .any base t v := hval0
  have hW' := hW
  obtain ⟨p, q, hA0, hV, rfl, hfz, hnd⟩ := hW
  have hA : DataW.TrodAll enc Try.prog W 0 (fun _ => true) true Try.f4.params.toList args.toList ds p := hA0
  rw [Try.params4] at hA hval
  obtain ⟨v0, vs0, d0, ds0, p0, q0, hargs, rfl, rfl, h0, r0⟩ := trodAll_cons hA
  obtain ⟨rfl, rfl, rfl⟩ := trodAll_nil r0
  obtain rfl : args = #[v0] := by cases args; simp_all
  obtain ⟨rfl, rfl⟩ := trodVars_none hV
  obtain ⟨a0, len0, cap0, rfl⟩ := okWide_slice Try.underlying34 (hval 0 34 v0 rfl rfl)
  have k0 := h0
  have lt0 : ∀ x ∈ p0, x.block < W.heap.size := by obtain ⟨m, hm⟩ := k0; exact DataW.trod_lt m _ _ _ hm
  obtain ⟨L0, rfl, b00, b01, b02⟩ := code_row h0
  clear hA0 hval0
  refine (walk W a0 cap0 L0 b00 b01 b02).mono fun e W' ⟨he, bel0⟩ => ?_
  have bel := gb_below bel0
  subst he
  exact ⟨_, rfl, _, _, _, [], _, [], hW', trodAll_mk1 (shut_bool Try.underlying4 _), (trodAll_cons_mk (Below.trod laidOut (by kernel_rfl) (of_decide_eq_true (by kernel_rfl)) k0 bel lt0) trodAll_mk0), rfl, bel.frame _, fun h => by cases h⟩
set_option maxRecDepth 100000 in
theorem over : Rows.fnValidHistoryRow.holds Try.pinned (OpenSpec.ofChange Rows.fnValidHistorySpec) :=
  OpenClaim.holds_of_wide 4 Try.f4 rfl rfl rfl rfl rfl rfl rfl ⟨rfl, rfl, rfl, rfl, rfl⟩ rfl rfl rfl rfl rfl (by kernel_rfl) Try.func4 (by kernel_rfl)
    (of_decide_eq_true (by kernel_rfl)) (by unfold Func.isWrapper; first | (rw [if_pos (by decide +kernel)]; kernel_rfl) | (rw [if_neg (by decide +kernel)]; exact ⟨rfl, rfl⟩))
    (fun os started H enc _ => lifted os started H enc)
theorem proved : Rows.FnValidHistorySaid := over
end fnValidHistory
end Go.Proofs.Ythkklmmgakkliaa
