/- FnReplayLogStop: logs stop at what cannot be done: proved for every input, with no condition. -/
import Derived.Test.YtjooangmmboogaaFrame
import Derived.Test.YtjooangmmboogaaLogL
import Derived.Test.YtjooangmmboogaaDrawR
namespace Go.Proofs.Ytjooangmmboogaa
open Go.ChangeShapes Go.WideShapes Go.ChangeAt Go.RowKit
set_option linter.unusedVariables false
namespace fnReplayLogStop
set_option maxRecDepth 100000 in
set_option maxHeartbeats 2000000 in
theorem walk (w : World) (A : Option Addr) (c : Nat) (bs : List Int) (h2 : bs.length ≤ c) (h3 : ∀ x ∈ bs, 0 ≤ x ∧ x ≤ 255) (h4 : Rd w 0 w.heap.size A (bs.map (.int .u8))) :
    Calls Try.prog 7 #[.slice A bs.length c] w fun e w' => e = .returned (.bool true) ∧ w.grownBy w' none := by
  have H2 := Lib.hid h2
  have H3 := Lib.hid h3
  have H4 := Lib.hid h4
  clear h2 h3 h4
  by_cases hb : bs.length ≤ 1048576
  rotate_left
  · have hb' : (1048576 : Int) < bs.length := by omega
    generalize bs.length = L at *
    go_enter Try.func7, Try.ntmps7
    go_wp2
    go_ret
    exact ⟨rfl, gb_refl _ _⟩
  have hb' : (bs.length : Int) ≤ 1048576 := by omega
  go_enter Try.func7, Try.ntmps7
  go_wp2_with fail
  refine (DrawReplayLog_any w A c bs H2.out hb H3.out H4.out).mono ?_
  rintro e W ⟨A1, c1, L, B1, d1, l, rfl, hc1, hd1, hd, he, hg⟩
  have D := Lib.hid hd
  have E := Lib.hid he
  have G := Lib.hid hg
  clear hd he hg
  obtain ⟨K, z, HP⟩ : ∃ K z, Hid (M.ReplayLog L l = (K, z)) := ⟨_, _, Lib.hid rfl⟩
  have HCI : Hid (∀ W, SeesI W A1 L → SeesE W B1 l → Calls Try.prog 29 #[.slice A1 L.length c1, .slice B1 l.length d1] W (GotR W (K, z))) := Lib.hid fun W h h' => HP.out ▸ rl_impl h h'
  have HCS : Hid (∀ W, SeesI W A1 L → SeesE W B1 l → Calls Try.prog 30 #[.slice A1 L.length c1, .slice B1 l.length d1] W (GotR W (K, z))) := Lib.hid fun W h h' => HP.out ▸ rl_spec h h'
  have tz : (z != z) = false := by simp
  have tz' : (z == z) = true := by simp
  go_wp2_with fail
  refine (HCI.out _ D.out E.out).mono ?_
  rintro e W ⟨A2, c2, rfl, hc2, hd, hg⟩
  replace D := Lib.hid (D.out.on hg)
  replace E := Lib.hid (E.out.on hg)
  replace G := Lib.hid (gb_trans G.out hg)
  have F : Hid (SeesI W A2 K) := Lib.hid hd
  have HC2 : Hid (K.length ≤ c2) := Lib.hid hc2
  clear hg hd hc2
  go_wp2_with fail
  refine (HCS.out _ D.out E.out).mono ?_
  rintro e W ⟨A3, c3, rfl, hc3, hd, hg⟩
  replace D := Lib.hid (D.out.on hg)
  replace E := Lib.hid (E.out.on hg)
  replace F := Lib.hid (F.out.on hg)
  replace G := Lib.hid (gb_trans G.out hg)
  have F' : Hid (SeesI W A3 K) := Lib.hid hd
  clear hg hd hc3
  go_wp2_with fail
  refine (eqi_same F.out F'.out).mono ?_
  rintro e W ⟨rfl, hg⟩
  replace D := Lib.hid (D.out.on hg)
  replace E := Lib.hid (E.out.on hg)
  replace F := Lib.hid (F.out.on hg)
  replace F' := Lib.hid (F'.out.on hg)
  replace G := Lib.hid (gb_trans G.out hg)
  clear hg
  by_cases hg : M.validStore L = true ∧ M.validLog l = true
  rotate_left
  · have tn : decide (z < 0) = true := by
      have h := HP.out
      unfold M.ReplayLog at h
      rw [if_neg hg] at h
      have : z = -1 := (congrArg Prod.snd h).symm
      rw [this]; rfl
    clear hg
    go_wp2_with fail
    refine (eqi_same F.out F'.out).mono ?_
    rintro e W ⟨rfl, hg⟩
    replace G := Lib.hid (gb_trans G.out hg)
    clear hg
    go_wp2_with fail
    go_ret
    exact ⟨rfl, G.out⟩
  · obtain ⟨m, hm, hz, hK⟩ : ∃ m : Nat, m = (M.replay L l).2 ∧ z = m ∧ K = (M.replay L l).1 := by
      have h := HP.out
      unfold M.ReplayLog at h
      rw [if_pos hg] at h
      exact ⟨_, rfl, (congrArg Prod.snd h).symm, (congrArg Prod.fst h).symm⟩
    subst hz
    have HVL := Lib.hid hg.1
    have HVE := Lib.hid hg.2
    have hl32 : l.length ≤ 32 := by have h := hg.2; unfold M.validLog at h; simp at h; exact h.2
    have HM := Lib.hid hm
    have HK := Lib.hid hK
    have hml : m ≤ l.length := by rw [hm]; exact M.replay_le l L
    have tn : decide ((m : Int) < 0) = false := by simp
    clear hg hm hK
    obtain ⟨n, hn⟩ : ∃ n, n = l.length := ⟨_, rfl⟩
    rw [← hn] at hl32 hd1 hml ⊢
    have HN := Lib.hid hn
    clear hn HCI HCS
    have tm : decide (n < m) = false := decide_eq_false (by omega)
    have tm' : decide ((n : Int) < (m : Int)) = false := decide_eq_false (by omega)
    have HVK : Hid (M.validStore K = true) := Lib.hid (by rw [HK.out]; exact M.replay_valid _ _ HVL.out)
    have HST := Lib.hid (M.replay_stop l L)
    rw [← HM.out] at HST
    have HLT : Hid ((l.take m).length = m) := Lib.hid (by rw [List.length_take, ← HN.out]; omega)
    have HA : Hid (∀ W, SeesI W A1 L → SeesE W B1 l → Calls Try.prog 29 #[.slice A1 L.length c1, .slice B1 m d1] W (GotR W (K, (m : Int)))) := Lib.hid fun W a b => by
      have e := rl_impl (c := c1) (d := d1) a (b.take m)
      rw [rlog_eq HVL.out (M.valid_sub HVE.out (List.take_sublist _ _)), HLT.out, HST.out, ← HM.out, ← HK.out] at e
      exact e
    go_wp2_with fail
    refine (HA.out _ D.out E.out).mono ?_
    rintro e W ⟨A4, c4, rfl, hc4, hd, hg⟩
    replace D := Lib.hid (D.out.on hg)
    replace E := Lib.hid (E.out.on hg)
    replace F := Lib.hid (F.out.on hg)
    replace F' := Lib.hid (F'.out.on hg)
    replace G := Lib.hid (gb_trans G.out hg)
    have P : Hid (SeesI W A4 K) := Lib.hid hd
    clear hg hd
    go_wp2_with fail
    refine (eqi_same P.out F.out).mono ?_
    rintro e W ⟨rfl, hg⟩
    replace D := Lib.hid (D.out.on hg)
    replace E := Lib.hid (E.out.on hg)
    replace F := Lib.hid (F.out.on hg)
    replace F' := Lib.hid (F'.out.on hg)
    replace G := Lib.hid (gb_trans G.out hg)
    clear hg
    by_cases hmn : m = n
    · have te : ((m : Int) == (n : Int)) = true := by rw [hmn]; simp
      clear hmn
      go_wp2_with fail
      go_ret
      exact ⟨rfl, G.out⟩
    · have te : ((m : Int) == (n : Int)) = false := by rw [beq_eq_false_iff_ne]; omega
      have hlt : m < n := by omega
      have HLD : Hid (((l.drop m).take 1).length = 1) := Lib.hid (by rw [List.length_take, List.length_drop, ← HN.out]; omega)
      have HLS : Hid (((l.drop m).take 1).Sublist l) := Lib.hid ((List.take_sublist _ _).trans (List.drop_sublist _ _))
      have HE1 : Hid ((M.replay K ((l.drop m).take 1)).2 = 0) := Lib.hid (by
        have hml : m < l.length := by rw [← HN.out]; exact hlt
        have hnx := M.replay_next l L (by rw [← HM.out]; exact hml)
        simp only [← HM.out, ← HK.out] at hnx
        rw [List.drop_eq_getElem_cons hml, List.take_succ_cons, List.take_zero, M.replay_none hnx])
      have HB : Hid (∀ W B d, SeesI W A2 K → SeesE W B ((l.drop m).take 1) → Calls Try.prog 29 #[.slice A2 K.length c2, .slice B 1 d] W (GotR W ((M.replay K ((l.drop m).take 1)).1, (0 : Int)))) := Lib.hid fun W B d a b => by
        have e := rl_impl (c := c2) (d := d) a b
        rw [rlog_eq HVK.out (M.valid_sub HVE.out HLS.out), HLD.out, HE1.out] at e
        exact e
      have HX := Lib.hid ((E.out.drop' m).take 1)
      generalize (M.replay K ((l.drop m).take 1)).1 = K9 at HB
      clear hmn
      go_wp2_with fail
      refine (HB.out _ _ _ F.out HX.out).mono ?_
      rintro e W ⟨A5, c5, rfl, hc5, hd, hg⟩
      replace G := Lib.hid (gb_trans G.out hg)
      clear hd hg
      go_wp2_with fail
      go_ret
      exact ⟨rfl, G.out⟩
end fnReplayLogStop
/-! the row's step -/
namespace fnReplayLogStop
set_option maxRecDepth 100000 in
theorem lifted (os : Os) (started : os.Started) (H : Type) (enc : TypeId × Value → H) :
    ReturnsInHanded {} Try.checked os 7 .any (Rows.fnReplayLogStopSpec.pre6 enc Try.prog Try.f7 Rows.fnReplayLogStopRow.domain false) (Rows.fnReplayLogStopSpec.post enc Try.prog Try.f7 false true false false) := by
  refine returnsInHanded_of_change (C := Try.checked) own started (by kernel_rfl) Try.func7
    (ChangeSpec.witness6 (enc := enc) (C := Try.checked) false ⟨#[], #[.slice none 0 0], []⟩ 8 (by kernel_rfl) (by kernel_rfl) (by kernel_rfl) (by kernel_rfl)) ?_
  intro W base args ds gs before hval0 hW hcnd _
  have hval : ∀ (j : Nat) t v, Try.f7.params[j]? = some t → args[j]? = some v → Value.okWide Try.prog W .any base t v := hval0
  have hW' := hW
  obtain ⟨p, q, hA0, hV, rfl, hfz, hnd⟩ := hW
  have hA : DataW.TrodAll enc Try.prog W 0 (fun _ => true) true Try.f7.params.toList args.toList ds p := hA0
  rw [Try.params7] at hA hval
  obtain ⟨v0, vs0, d0, ds0, p0, q0, hargs, rfl, rfl, h0, r0⟩ := trodAll_cons hA
  obtain ⟨rfl, rfl, rfl⟩ := trodAll_nil r0
  obtain rfl : args = #[v0] := by cases args; simp_all
  obtain ⟨rfl, rfl⟩ := trodVars_none hV
  obtain ⟨a0, len0, cap0, rfl⟩ := okWide_slice Try.underlying22 (hval 0 22 v0 rfl rfl)
  have k0 := h0
  have lt0 : ∀ x ∈ p0, x.block < W.heap.size := by obtain ⟨m, hm⟩ := k0; exact DataW.trod_lt m _ _ _ hm
  obtain ⟨L0, rfl, b00, b01, b02⟩ := code_row h0
  clear hA0 hval0
  refine (walk W a0 cap0 L0 b00 b01 b02).mono fun e W' ⟨he, bel0⟩ => ?_
  have bel := gb_below bel0
  subst he
  exact ⟨_, rfl, _, _, _, [], _, [], hW', trodAll_mk1 (shut_bool Try.underlying4 _), (trodAll_cons_mk (Below.trod laidOut (by kernel_rfl) (of_decide_eq_true (by kernel_rfl)) k0 bel lt0) trodAll_mk0), rfl, bel.frame _, fun h => by cases h⟩
set_option maxRecDepth 100000 in
theorem over : Rows.fnReplayLogStopRow.holds Try.pinned (OpenSpec.ofChange Rows.fnReplayLogStopSpec) :=
  OpenClaim.holds_of_wide 7 Try.f7 rfl rfl rfl rfl rfl rfl rfl ⟨rfl, rfl, rfl, rfl, rfl⟩ rfl rfl rfl rfl rfl (by kernel_rfl) Try.func7 (by kernel_rfl)
    (of_decide_eq_true (by kernel_rfl)) (by unfold Func.isWrapper; first | (rw [if_pos (by decide +kernel)]; kernel_rfl) | (rw [if_neg (by decide +kernel)]; exact ⟨rfl, rfl⟩))
    (fun os started H enc _ => lifted os started H enc)
theorem proved : Rows.FnReplayLogStopSaid := over
end fnReplayLogStop
end Go.Proofs.Ytjooangmmboogaa
