/- FnValidLog: logs have beginnings: proved for every input, with no condition. -/
import Derived.Test.YthohidhhhknnaaaFrame
import Derived.Test.YthohidhhhknnaaaDrawE
import Derived.Test.YthohidhhhknnaaaEntW
namespace Go.Proofs.Ythohidhhhknnaaa
open Go.ChangeShapes Go.WideShapes Go.ChangeAt Go.RowKit
set_option linter.unusedVariables false
theorem valid_part {L L' : List M.Entry} (h : M.validLog L = true) (hs : ∀ x ∈ L', x ∈ L) (hl : L'.length ≤ L.length) : M.validLog L' = true := by
  unfold M.validLog at h ⊢
  simp only [Bool.and_eq_true, List.all_eq_true, decide_eq_true_eq] at h ⊢
  exact ⟨fun x hx => h.1 x (hs x hx), by omega⟩
namespace fnValidLog
set_option maxHeartbeats 1000000 in
theorem walk (w : World) (A : Option Addr) (c : Nat) (bs : List Int) (h2 : bs.length ≤ c) (h3 : ∀ x ∈ bs, 0 ≤ x ∧ x ≤ 255) (h4 : Rd w 0 w.heap.size A (bs.map (.int .u8))) :
    Calls Try.prog 3 #[.slice A bs.length c] w fun e w' => e = .returned (.bool true) ∧ w.grownBy w' none := by
  have H2 := Lib.hid h2
  have H3 := Lib.hid h3
  have H4 := Lib.hid h4
  clear h2 h3 h4
  by_cases hb : bs.length ≤ 1048576
  · have hb' : (bs.length : Int) ≤ 1048576 := by omega
    go_enter Try.func3, Try.ntmps3
    go_wp2_with fail
    refine (DrawValidLog_any w A c bs H2.out hb H3.out H4.out).mono ?_
    rintro e W ⟨A1, c1, L, rfl, hc1, hd, hg⟩
    have D := Lib.hid hd
    have G := Lib.hid hg
    clear hd hg
    have hl := D.out.2.1
    go_wp2_with fail
    refine (ValidLog_impl D.out).mono ?_
    rintro e W ⟨rfl, hg⟩
    replace D := Lib.hid (D.out.on hg)
    replace G := Lib.hid (gb_trans G.out hg)
    clear hg
    cases hv : M.validLog L
    · have HV := Lib.hid hv
      clear hv
      go_wp2_with fail
      refine (ValidLog_spec D.out).mono ?_
      rintro e W ⟨rfl, hg⟩
      replace D := Lib.hid (D.out.on hg)
      replace G := Lib.hid (gb_trans G.out hg)
      clear hg
      rw [HV.out]
      go_wp2_with fail
      refine (ValidLog_spec D.out).mono ?_
      rintro e W ⟨rfl, hg⟩
      replace D := Lib.hid (D.out.on hg)
      replace G := Lib.hid (gb_trans G.out hg)
      clear hg
      rw [HV.out]
      go_wp2_with fail
      go_ret
      exact ⟨rfl, G.out⟩
    · have HV := Lib.hid hv
      clear hv
      go_wp2_with fail
      refine (ValidLog_spec D.out).mono ?_
      rintro e W ⟨rfl, hg⟩
      replace D := Lib.hid (D.out.on hg)
      replace G := Lib.hid (gb_trans G.out hg)
      clear hg
      rw [HV.out]
      obtain ⟨n, hn⟩ : ∃ n, n = L.length := ⟨_, rfl⟩
      rw [← hn] at hl hc1 ⊢
      have HN := Lib.hid hn
      by_cases h0 : n = 0
      · subst h0
        clear hn
        go_wp2_with fail
        rw [HN.out]
        refine (ValidLog_spec D.out).mono ?_
        rintro e W ⟨rfl, hg⟩
        replace G := Lib.hid (gb_trans G.out hg)
        rw [HV.out]
        clear hg
        go_wp2_with fail
        go_ret
        exact ⟨rfl, G.out⟩
      · obtain ⟨m, rfl⟩ : ∃ m, n = m + 1 := ⟨n - 1, by omega⟩
        obtain ⟨b, o, hA⟩ := D.out.addr (by omega)
        subst hA
        have t0 : (((m + 1 : Nat) : Int) == 0) = false := beq_eq_false_iff_ne.2 (by omega)
        have C1 : Hid (Calls Try.prog 12 #[.slice (some ⟨b, o, none⟩) m c1] _ _) := Lib.hid (by
          have h := ValidLog_impl (c := c1) (D.out.take m)
          rw [valid_part HV.out (fun x hx => List.mem_of_mem_take hx) (by rw [List.length_take]; omega), List.length_take, ← hn, Nat.min_eq_left (Nat.le_succ m)] at h
          exact h)
        have HNM := Lib.hid (show m + 1 = L.length from hn)
        clear hn
        go_wp2_with fail
        refine (C1.out).mono ?_
        rintro e W ⟨rfl, hg⟩
        replace D := Lib.hid (D.out.on hg)
        replace G := Lib.hid (gb_trans G.out hg)
        clear hg C1
        by_cases hcap : c1 = 1
        · subst hcap
          obtain rfl : m = 0 := by omega
          have C2 : Hid (∀ W' d, Calls Try.prog 12 #[.slice (some ⟨b, o, none⟩) 0 d] W' fun e w' => e = .returned (.bool true) ∧ W'.grownBy w' none) := Lib.hid fun W' d =>
            ValidLog_impl (L := []) ⟨RdE.nil_ _ _ _ _, SmallE.nil_⟩
          go_wp2_with fail
          refine (C2.out _ _).mono ?_
          rintro e W ⟨rfl, hg⟩
          replace G := Lib.hid (gb_trans G.out hg)
          clear hg
          go_wp2_with fail
          go_ret
          exact ⟨rfl, G.out⟩
        · have C2 : Hid (Calls Try.prog 12 #[.slice (some ⟨b, o + 4, none⟩) m (c1 - 1)] _ _) := Lib.hid (by
            have h := ValidLog_impl (c := c1 - 1) (D.out.drop 1)
            rw [valid_part HV.out (fun x hx => List.mem_of_mem_drop hx) (by rw [List.length_drop]; omega), List.length_drop, ← HNM.out, Nat.add_sub_cancel] at h
            exact h)
          go_wp2_with fail
          refine (C2.out).mono ?_
          rintro e W ⟨rfl, hg⟩
          replace G := Lib.hid (gb_trans G.out hg)
          clear hg
          go_wp2_with fail
          go_ret
          exact ⟨rfl, G.out⟩
  · · have hb' : (1048576 : Int) < bs.length := by omega
      generalize bs.length = L at *
      go_enter Try.func3, Try.ntmps3
      go_wp2
      go_ret
      exact ⟨rfl, gb_refl _ _⟩
end fnValidLog
/-! the row's step -/
namespace fnValidLog
set_option maxRecDepth 100000 in
theorem lifted (os : Os) (started : os.Started) (H : Type) (enc : TypeId × Value → H) :
    ReturnsInHanded {} Try.checked os 3 .any (Rows.fnValidLogSpec.pre6 enc Try.prog Try.f3 Rows.fnValidLogRow.domain false) (Rows.fnValidLogSpec.post enc Try.prog Try.f3 false true false false) := by
  refine returnsInHanded_of_change (C := Try.checked) own started (by kernel_rfl) Try.func3
    (ChangeSpec.witness6 (enc := enc) (C := Try.checked) false ⟨#[], #[.slice none 0 0], []⟩ 8 (by kernel_rfl) (by kernel_rfl) (by kernel_rfl) (by kernel_rfl)) ?_
  intro W base args ds gs before hval0 hW hcnd _
  have hval : ∀ (j : Nat) t v, Try.f3.params[j]? = some t → args[j]? = some v → Value.okWide Try.prog W .any base t v := hval0
  have hW' := hW
  obtain ⟨p, q, hA0, hV, rfl, hfz, hnd⟩ := hW
  have hA : DataW.TrodAll enc Try.prog W 0 (fun _ => true) true Try.f3.params.toList args.toList ds p := hA0
  rw [Try.params3] at hA hval
  obtain ⟨v0, vs0, d0, ds0, p0, q0, hargs, rfl, rfl, h0, r0⟩ := trodAll_cons hA
  obtain ⟨rfl, rfl, rfl⟩ := trodAll_nil r0
  obtain rfl : args = #[v0] := by cases args; simp_all
  obtain ⟨rfl, rfl⟩ := trodVars_none hV
  obtain ⟨a0, len0, cap0, rfl⟩ := okWide_slice Try.underlying22 (hval 0 22 v0 rfl rfl)
  have k0 := h0
  have lt0 : ∀ x ∈ p0, x.block < W.heap.size := by obtain ⟨m, hm⟩ := k0; exact DataW.trod_lt m _ _ _ hm
  obtain ⟨bs, rfl, b1, b2, b3⟩ := code_row h0
  clear hA0 hval0
  refine (walk W a0 cap0 bs b1 b2 b3).mono fun e W' ⟨he, bel0⟩ => ?_
  have bel := gb_below bel0
  subst he
  exact ⟨_, rfl, _, _, _, [], _, [], hW', trodAll_mk1 (shut_bool Try.underlying4 _), (trodAll_cons_mk (Below.trod laidOut (by kernel_rfl) (of_decide_eq_true (by kernel_rfl)) k0 bel lt0) trodAll_mk0), rfl, bel.frame _, fun h => by cases h⟩
set_option maxRecDepth 100000 in
theorem over : Rows.fnValidLogRow.holds Try.pinned (OpenSpec.ofChange Rows.fnValidLogSpec) :=
  OpenClaim.holds_of_wide 3 Try.f3 rfl rfl rfl rfl rfl rfl rfl ⟨rfl, rfl, rfl, rfl, rfl⟩ rfl rfl rfl rfl rfl (by kernel_rfl) Try.func3 (by kernel_rfl)
    (of_decide_eq_true (by kernel_rfl)) (by unfold Func.isWrapper; first | (rw [if_pos (by decide +kernel)]; kernel_rfl) | (rw [if_neg (by decide +kernel)]; exact ⟨rfl, rfl⟩))
    (fun os started H enc _ => lifted os started H enc)
theorem proved : Rows.FnValidLogSaid := over
end fnValidLog
end Go.Proofs.Ythohidhhhknnaaa
