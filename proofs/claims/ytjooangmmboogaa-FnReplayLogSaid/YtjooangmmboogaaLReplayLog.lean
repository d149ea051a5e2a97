/- FnReplayLog: logs go entry by entry: proved for every input, with no condition. -/
import Derived.Test.YtjooangmmboogaaFrame
import Derived.Test.YtjooangmmboogaaLogL
import Derived.Test.YtjooangmmboogaaDrawR
namespace Go.Proofs.Ytjooangmmboogaa
open Go.ChangeShapes Go.WideShapes Go.ChangeAt Go.RowKit
set_option linter.unusedVariables false
namespace fnReplayLog
set_option maxRecDepth 100000 in
set_option maxHeartbeats 2000000 in
theorem walk (w : World) (A : Option Addr) (c : Nat) (bs : List Int) (h2 : bs.length ≤ c) (h3 : ∀ x ∈ bs, 0 ≤ x ∧ x ≤ 255) (h4 : Rd w 0 w.heap.size A (bs.map (.int .u8))) :
    Calls Try.prog 6 #[.slice A bs.length c] w fun e w' => e = .returned (.bool true) ∧ w.grownBy w' none := by
  have H2 := Lib.hid h2
  have H3 := Lib.hid h3
  have H4 := Lib.hid h4
  clear h2 h3 h4
  by_cases hb : bs.length ≤ 1048576
  rotate_left
  · have hb' : (1048576 : Int) < bs.length := by omega
    generalize bs.length = L at *
    go_enter Try.func6, Try.ntmps6
    go_wp2
    go_ret
    exact ⟨rfl, gb_refl _ _⟩
  have hb' : (bs.length : Int) ≤ 1048576 := by omega
  go_enter Try.func6, Try.ntmps6
  go_wp2_with fail
  refine (DrawReplayLog_any w A c bs H2.out hb H3.out H4.out).mono ?_
  rintro e W ⟨A1, c1, L, B1, d1, l, rfl, hc1, hd1, hd, he, hg⟩
  have D := Lib.hid hd
  have E := Lib.hid he
  have G := Lib.hid hg
  clear hd he hg
  obtain ⟨K, z, HP⟩ : ∃ K z, Hid (M.ReplayLog L l = (K, z)) := ⟨_, _, Lib.hid rfl⟩
  have HCI : Hid (∀ W, SeesI W A1 L → SeesE W B1 l → Calls Try.prog 29 #[.slice A1 L.length c1, .slice B1 l.length d1] W (GotR W (K, z))) := Lib.hid fun W h h' => HP.out ▸ rl_impl h h'
  have HCS : Hid (∀ W, SeesI W A1 L → SeesE W B1 l → Calls Try.prog 30 #[.slice A1 L.length c1, .slice B1 l.length d1] W (GotR W (K, z))) := Lib.hid fun W h h' => HP.out ▸ rl_spec h h'
  have tz : (z != z) = false := by simp
  have tz' : (z == z) = true := by simp
  go_wp2_with fail
  refine (HCI.out _ D.out E.out).mono ?_
  rintro e W ⟨A2, c2, rfl, hc2, hd, hg⟩
  replace D := Lib.hid (D.out.on hg)
  replace E := Lib.hid (E.out.on hg)
  replace G := Lib.hid (gb_trans G.out hg)
  have F : Hid (SeesI W A2 K) := Lib.hid hd
  have HC2 : Hid (K.length ≤ c2) := Lib.hid hc2
  clear hg hd hc2
  go_wp2_with fail
  refine (HCS.out _ D.out E.out).mono ?_
  rintro e W ⟨A3, c3, rfl, hc3, hd, hg⟩
  replace D := Lib.hid (D.out.on hg)
  replace E := Lib.hid (E.out.on hg)
  replace F := Lib.hid (F.out.on hg)
  replace G := Lib.hid (gb_trans G.out hg)
  have F' : Hid (SeesI W A3 K) := Lib.hid hd
  clear hg hd hc3
  go_wp2_with fail
  refine (eqi_same F.out F'.out).mono ?_
  rintro e W ⟨rfl, hg⟩
  replace D := Lib.hid (D.out.on hg)
  replace E := Lib.hid (E.out.on hg)
  replace F := Lib.hid (F.out.on hg)
  replace F' := Lib.hid (F'.out.on hg)
  replace G := Lib.hid (gb_trans G.out hg)
  clear hg
  by_cases hg : M.validStore L = true ∧ M.validLog l = true
  rotate_left
  · have tn : decide (z < 0) = true := by
      have h := HP.out
      unfold M.ReplayLog at h
      rw [if_neg hg] at h
      have : z = -1 := (congrArg Prod.snd h).symm
      rw [this]; rfl
    clear hg
    go_wp2_with fail
    refine (eqi_same F.out F'.out).mono ?_
    rintro e W ⟨rfl, hg⟩
    replace G := Lib.hid (gb_trans G.out hg)
    clear hg
    go_wp2_with fail
    go_ret
    exact ⟨rfl, G.out⟩
  · obtain ⟨m, hm, hz, hK⟩ : ∃ m : Nat, m = (M.replay L l).2 ∧ z = m ∧ K = (M.replay L l).1 := by
      have h := HP.out
      unfold M.ReplayLog at h
      rw [if_pos hg] at h
      exact ⟨_, rfl, (congrArg Prod.snd h).symm, (congrArg Prod.fst h).symm⟩
    subst hz
    have HVL := Lib.hid hg.1
    have HVE := Lib.hid hg.2
    have hl32 : l.length ≤ 32 := by have h := hg.2; unfold M.validLog at h; simp at h; exact h.2
    have HM := Lib.hid hm
    have HK := Lib.hid hK
    have hml : m ≤ l.length := by rw [hm]; exact M.replay_le l L
    have tn : decide ((m : Int) < 0) = false := by simp
    clear hg hm hK
    by_cases hmn : m = l.length
    · have HN := Lib.hid hmn
      rw [← hmn] at hl32 hd1 ⊢
      clear hmn hml HCI HCS
      have tm : ((m : Int) != m) = false := by simp
      obtain ⟨p, hh⟩ : ∃ p, p = m / 2 := ⟨_, rfl⟩
      have hhm : p ≤ m := by omega
      have hdiv : (m : Int) / 2 = (p : Int) := by omega
      have HH := Lib.hid (M.replay_halves (HM.out.symm.trans HN.out) p (by rw [← HN.out]; exact hhm))
      have HLT : Hid ((l.take p).length = p) := Lib.hid (by rw [List.length_take, ← HN.out]; omega)
      have HLD : Hid ((l.drop p).length = m - p) := Lib.hid (by rw [List.length_drop, ← HN.out])
      obtain ⟨L1, hL1⟩ : ∃ L1, L1 = (M.replay L (l.take p)).1 := ⟨_, rfl⟩
      have HV1 : Hid (M.validStore L1 = true) := Lib.hid (by rw [hL1]; exact M.replay_valid _ _ HVL.out)
      have HA : Hid (∀ W, SeesI W A1 L → SeesE W B1 l → Calls Try.prog 29 #[.slice A1 L.length c1, .slice B1 p d1] W (GotR W (L1, (p : Int)))) := Lib.hid fun W a b => by
        have e := rl_impl (c := c1) (d := d1) a (b.take p)
        rw [rlog_eq HVL.out (M.valid_sub HVE.out (List.take_sublist _ _)), HLT.out, HH.out.1, ← hL1] at e
        exact e
      have HB : Hid (∀ W A B c d, SeesI W A L1 → SeesE W B (l.drop p) → Calls Try.prog 29 #[.slice A L1.length c, .slice B (m - p) d] W (GotR W (K, ((m - p : Nat) : Int)))) := Lib.hid fun W A B c d a b => by
        have e := rl_impl (c := c) (d := d) a b
        rw [rlog_eq HV1.out (M.valid_sub HVE.out (List.drop_sublist _ _)), HLD.out, hL1, HH.out.2.1, HH.out.2.2, ← HK.out, ← hL1, ← HN.out] at e
        exact e
      clear hL1 hh
      go_wp2_with fail
      refine (HA.out _ D.out E.out).mono ?_
      rintro e W ⟨A4, c4, rfl, hc4, hd, hg⟩
      replace D := Lib.hid (D.out.on hg)
      replace E := Lib.hid (E.out.on hg)
      replace F := Lib.hid (F.out.on hg)
      replace F' := Lib.hid (F'.out.on hg)
      replace G := Lib.hid (gb_trans G.out hg)
      have P := Lib.hid hd
      clear hg hd
      have HVK : Hid (M.validStore K = true) := Lib.hid (by rw [HK.out]; exact M.replay_valid _ _ HVL.out)
      have tx : ((p : Int) == p) = true := by simp
      have ty : (((m - p : Nat) : Int) == (m : Int) - (p : Int)) = true := by rw [beq_iff_eq]; omega
      have HED : Hid (∀ W, SeesE W B1 l → SeesE W (B1.map fun x => x.add (p * 4)) (l.drop p)) := Lib.hid fun W e => e.drop' p
      have HNIL : Hid (∀ W B, m ≤ p → SeesE W B (l.drop p)) := Lib.hid fun W B e => by rw [List.drop_of_length_le (by rw [← HN.out]; exact e)]; exact ⟨RdE.nil_ _ _ _ _, SmallE.nil_⟩
      go_wp2_with fail
      · have HX := Lib.hid (HNIL.out W B1 (by omega))
        clear hdiv h
        with_reducible refine (HB.out _ _ _ c4 _ P.out (HX.out)).mono ?_
        rintro e W ⟨A5, c5, rfl, hc5, hd, hg⟩
        have Z : Hid (SeesI W A5 K) := Lib.hid hd
        replace F := Lib.hid (F.out.on hg)
        replace G := Lib.hid (gb_trans G.out hg)
        clear hd hg hc5
        go_wp2_with fail
        refine (eqi_same Z.out F.out).mono ?_
        rintro e W ⟨rfl, hg⟩
        replace F := Lib.hid (F.out.on hg)
        replace G := Lib.hid (gb_trans G.out hg)
        clear hg
        have HV9 := Lib.hid (vs_impl (c := c2) F.out)
        rw [HVK.out] at HV9
        go_wp2_with fail
        refine (HV9.out).mono ?_
        rintro e W ⟨rfl, hg⟩
        replace F := Lib.hid (F.out.on hg)
        replace G := Lib.hid (gb_trans G.out hg)
        clear hg
        go_wp2_with fail
        go_ret
        exact ⟨rfl, G.out⟩
      · have HX := Lib.hid (HED.out _ E.out)
        clear hdiv h
        with_reducible refine (HB.out _ _ _ c4 _ P.out (HX.out)).mono ?_
        rintro e W ⟨A5, c5, rfl, hc5, hd, hg⟩
        have Z : Hid (SeesI W A5 K) := Lib.hid hd
        replace F := Lib.hid (F.out.on hg)
        replace G := Lib.hid (gb_trans G.out hg)
        clear hd hg hc5
        go_wp2_with fail
        refine (eqi_same Z.out F.out).mono ?_
        rintro e W ⟨rfl, hg⟩
        replace F := Lib.hid (F.out.on hg)
        replace G := Lib.hid (gb_trans G.out hg)
        clear hg
        have HV9 := Lib.hid (vs_impl (c := c2) F.out)
        rw [HVK.out] at HV9
        go_wp2_with fail
        refine (HV9.out).mono ?_
        rintro e W ⟨rfl, hg⟩
        replace F := Lib.hid (F.out.on hg)
        replace G := Lib.hid (gb_trans G.out hg)
        clear hg
        go_wp2_with fail
        go_ret
        exact ⟨rfl, G.out⟩
    · have tm : ((m : Int) != (l.length : Int)) = true := by rw [bne_iff_ne]; omega
      clear hmn
      go_wp2_with fail
      refine (eqi_same F.out F'.out).mono ?_
      rintro e W ⟨rfl, hg⟩
      replace G := Lib.hid (gb_trans G.out hg)
      clear hg
      go_wp2_with fail
      go_ret
      exact ⟨rfl, G.out⟩
end fnReplayLog
/-! the row's step -/
namespace fnReplayLog
set_option maxRecDepth 100000 in
theorem lifted (os : Os) (started : os.Started) (H : Type) (enc : TypeId × Value → H) :
    ReturnsInHanded {} Try.checked os 6 .any (Rows.fnReplayLogSpec.pre6 enc Try.prog Try.f6 Rows.fnReplayLogRow.domain false) (Rows.fnReplayLogSpec.post enc Try.prog Try.f6 false true false false) := by
  refine returnsInHanded_of_change (C := Try.checked) own started (by kernel_rfl) Try.func6
    (ChangeSpec.witness6 (enc := enc) (C := Try.checked) false ⟨#[], #[.slice none 0 0], []⟩ 8 (by kernel_rfl) (by kernel_rfl) (by kernel_rfl) (by kernel_rfl)) ?_
  intro W base args ds gs before hval0 hW hcnd _
  have hval : ∀ (j : Nat) t v, Try.f6.params[j]? = some t → args[j]? = some v → Value.okWide Try.prog W .any base t v := hval0
  have hW' := hW
  obtain ⟨p, q, hA0, hV, rfl, hfz, hnd⟩ := hW
  have hA : DataW.TrodAll enc Try.prog W 0 (fun _ => true) true Try.f6.params.toList args.toList ds p := hA0
  rw [Try.params6] at hA hval
  obtain ⟨v0, vs0, d0, ds0, p0, q0, hargs, rfl, rfl, h0, r0⟩ := trodAll_cons hA
  obtain ⟨rfl, rfl, rfl⟩ := trodAll_nil r0
  obtain rfl : args = #[v0] := by cases args; simp_all
  obtain ⟨rfl, rfl⟩ := trodVars_none hV
  obtain ⟨a0, len0, cap0, rfl⟩ := okWide_slice Try.underlying22 (hval 0 22 v0 rfl rfl)
  have k0 := h0
  have lt0 : ∀ x ∈ p0, x.block < W.heap.size := by obtain ⟨m, hm⟩ := k0; exact DataW.trod_lt m _ _ _ hm
  obtain ⟨L0, rfl, b00, b01, b02⟩ := code_row h0
  clear hA0 hval0
  refine (walk W a0 cap0 L0 b00 b01 b02).mono fun e W' ⟨he, bel0⟩ => ?_
  have bel := gb_below bel0
  subst he
  exact ⟨_, rfl, _, _, _, [], _, [], hW', trodAll_mk1 (shut_bool Try.underlying4 _), (trodAll_cons_mk (Below.trod laidOut (by kernel_rfl) (of_decide_eq_true (by kernel_rfl)) k0 bel lt0) trodAll_mk0), rfl, bel.frame _, fun h => by cases h⟩
set_option maxRecDepth 100000 in
theorem over : Rows.fnReplayLogRow.holds Try.pinned (OpenSpec.ofChange Rows.fnReplayLogSpec) :=
  OpenClaim.holds_of_wide 6 Try.f6 rfl rfl rfl rfl rfl rfl rfl ⟨rfl, rfl, rfl, rfl, rfl⟩ rfl rfl rfl rfl rfl (by kernel_rfl) Try.func6 (by kernel_rfl)
    (of_decide_eq_true (by kernel_rfl)) (by unfold Func.isWrapper; first | (rw [if_pos (by decide +kernel)]; kernel_rfl) | (rw [if_neg (by decide +kernel)]; exact ⟨rfl, rfl⟩))
    (fun os started H enc _ => lifted os started H enc)
theorem proved : Rows.FnReplayLogSaid := over
end fnReplayLog
end Go.Proofs.Ytjooangmmboogaa
