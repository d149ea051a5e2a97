/- FnShortLogReplay: short logs do the same: proved for every input, with no condition. -/
import Derived.Test.YtjooangmmboogaaFrame
import Derived.Test.YtjooangmmboogaaLogL
import Derived.Test.YtjooangmmboogaaDrawR
namespace Go.Proofs.Ytjooangmmboogaa
open Go.ChangeShapes Go.WideShapes Go.ChangeAt Go.RowKit
set_option linter.unusedVariables false
namespace fnShortLogReplay
set_option maxRecDepth 100000 in
set_option maxHeartbeats 2000000 in
theorem walk (w : World) (A : Option Addr) (c : Nat) (bs : List Int) (h2 : bs.length ≤ c) (h3 : ∀ x ∈ bs, 0 ≤ x ∧ x ≤ 255) (h4 : Rd w 0 w.heap.size A (bs.map (.int .u8))) :
    Calls Try.prog 9 #[.slice A bs.length c] w fun e w' => e = .returned (.bool true) ∧ w.grownBy w' none := by
  have H2 := Lib.hid h2
  have H3 := Lib.hid h3
  have H4 := Lib.hid h4
  clear h2 h3 h4
  by_cases hb : bs.length ≤ 1048576
  rotate_left
  · have hb' : (1048576 : Int) < bs.length := by omega
    generalize bs.length = L at *
    go_enter Try.func9, Try.ntmps9
    go_wp2
    go_ret
    exact ⟨rfl, gb_refl _ _⟩
  have hb' : (bs.length : Int) ≤ 1048576 := by omega
  go_enter Try.func9, Try.ntmps9
  go_wp2_with fail
  refine (DrawReplayLog_any w A c bs H2.out hb H3.out H4.out).mono ?_
  rintro e W ⟨A1, c1, L, B1, d1, l, rfl, hc1, hd1, hd, he, hg⟩
  have D := Lib.hid hd
  have E := Lib.hid he
  have G := Lib.hid hg
  clear hd he hg
  obtain ⟨K, z, HP⟩ : ∃ K z, Hid (M.ReplayLog L l = (K, z)) := ⟨_, _, Lib.hid rfl⟩
  have HCI : Hid (∀ W, SeesI W A1 L → SeesE W B1 l → Calls Try.prog 29 #[.slice A1 L.length c1, .slice B1 l.length d1] W (GotR W (K, z))) := Lib.hid fun W h h' => HP.out ▸ rl_impl h h'
  have HCS : Hid (∀ W, SeesI W A1 L → SeesE W B1 l → Calls Try.prog 30 #[.slice A1 L.length c1, .slice B1 l.length d1] W (GotR W (K, z))) := Lib.hid fun W h h' => HP.out ▸ rl_spec h h'
  have tz : (z != z) = false := by simp
  have tz' : (z == z) = true := by simp
  go_wp2_with fail
  refine (HCI.out _ D.out E.out).mono ?_
  rintro e W ⟨A2, c2, rfl, hc2, hd, hg⟩
  replace D := Lib.hid (D.out.on hg)
  replace E := Lib.hid (E.out.on hg)
  replace G := Lib.hid (gb_trans G.out hg)
  have F : Hid (SeesI W A2 K) := Lib.hid hd
  have HC2 : Hid (K.length ≤ c2) := Lib.hid hc2
  clear hg hd hc2
  go_wp2_with fail
  refine (HCS.out _ D.out E.out).mono ?_
  rintro e W ⟨A3, c3, rfl, hc3, hd, hg⟩
  replace D := Lib.hid (D.out.on hg)
  replace E := Lib.hid (E.out.on hg)
  replace F := Lib.hid (F.out.on hg)
  replace G := Lib.hid (gb_trans G.out hg)
  have F' : Hid (SeesI W A3 K) := Lib.hid hd
  clear hg hd hc3
  go_wp2_with fail
  refine (eqi_same F.out F'.out).mono ?_
  rintro e W ⟨rfl, hg⟩
  replace D := Lib.hid (D.out.on hg)
  replace E := Lib.hid (E.out.on hg)
  replace F := Lib.hid (F.out.on hg)
  replace F' := Lib.hid (F'.out.on hg)
  replace G := Lib.hid (gb_trans G.out hg)
  clear hg
  by_cases hg : M.validStore L = true ∧ M.validLog l = true
  rotate_left
  · have tn : decide (z < 0) = true := by
      have h := HP.out
      unfold M.ReplayLog at h
      rw [if_neg hg] at h
      have : z = -1 := (congrArg Prod.snd h).symm
      rw [this]; rfl
    clear hg
    go_wp2_with fail
    refine (eqi_same F.out F'.out).mono ?_
    rintro e W ⟨rfl, hg⟩
    replace G := Lib.hid (gb_trans G.out hg)
    clear hg
    go_wp2_with fail
    go_ret
    exact ⟨rfl, G.out⟩
  · obtain ⟨m, hm, hz, hK⟩ : ∃ m : Nat, m = (M.replay L l).2 ∧ z = m ∧ K = (M.replay L l).1 := by
      have h := HP.out
      unfold M.ReplayLog at h
      rw [if_pos hg] at h
      exact ⟨_, rfl, (congrArg Prod.snd h).symm, (congrArg Prod.fst h).symm⟩
    subst hz
    have HVL := Lib.hid hg.1
    have HVE := Lib.hid hg.2
    have hl32 : l.length ≤ 32 := by have h := hg.2; unfold M.validLog at h; simp at h; exact h.2
    have HM := Lib.hid hm
    have HK := Lib.hid hK
    have hml : m ≤ l.length := by rw [hm]; exact M.replay_le l L
    have tn : decide ((m : Int) < 0) = false := by simp
    clear hg hm hK
    by_cases hmn : m = l.length
    · have HN := Lib.hid hmn
      have tm : ((m : Int) != (l.length : Int)) = false := by rw [hmn]; simp
      clear hmn HCI HCS
      have HSS : Hid (M.ShortLog l = M.short l) := Lib.hid (by unfold M.ShortLog; rw [if_pos HVE.out])
      have HC := Lib.hid (sl_impl E.out hd1)
      rw [HSS.out] at HC
      obtain ⟨K9, hK9⟩ : ∃ K9, K9 = (M.replay L (M.short l)).1 := ⟨_, rfl⟩
      obtain ⟨j, hj⟩ : ∃ j, j = (M.replay L (M.short l)).2 := ⟨_, rfl⟩
      have HB : Hid (∀ W B d, SeesI W A1 L → SeesE W B (M.short l) → Calls Try.prog 29 #[.slice A1 L.length c1, .slice B (M.short l).length d] W (GotR W (K9, (j : Int)))) := Lib.hid fun W B d a b => by
        have e := rl_impl (c := c1) (d := d) a b
        rw [rlog_eq HVL.out (M.valid_sub HVE.out (M.short_sub l)), ← hK9, ← hj] at e
        exact e
      have HSAME : Hid (j = (M.short l).length → K9 = K) := Lib.hid fun h => by
        rw [hK9, HK.out]
        exact M.replay_short HVL.out (HM.out.symm.trans HN.out) (hj.symm.trans h)
      clear hK9 hj
      go_wp2_with fail
      refine HC.out.mono ?_
      rintro e W ⟨A4, c4, rfl, hc4, hd, hg⟩
      replace D := Lib.hid (D.out.on hg)
      replace F := Lib.hid (F.out.on hg)
      replace G := Lib.hid (gb_trans G.out hg)
      have S := Lib.hid hd
      clear hd hg HC hc4
      generalize M.short l = s at *
      go_wp2_with fail
      refine (HB.out _ _ c4 D.out S.out).mono ?_
      rintro e W ⟨A5, c5, rfl, hc5, hd, hg⟩
      replace F := Lib.hid (F.out.on hg)
      replace G := Lib.hid (gb_trans G.out hg)
      have P : Hid (SeesI W A5 K9) := Lib.hid hd
      clear hd hg
      by_cases hjs : j = s.length
      · have HE := Lib.hid (HSAME.out hjs)
        have te : ((j : Int) != (s.length : Int)) = false := by rw [hjs]; simp
        rw [HE.out] at P hc5 ⊢
        clear hjs
        go_wp2_with fail
        refine (eqi_same P.out F.out).mono ?_
        rintro e W ⟨rfl, hg⟩
        replace F := Lib.hid (F.out.on hg)
        replace G := Lib.hid (gb_trans G.out hg)
        clear hg
        go_wp2_with fail
        go_ret
        exact ⟨rfl, G.out⟩
      · have te : ((j : Int) != (s.length : Int)) = true := by rw [bne_iff_ne]; omega
        clear hjs
        go_wp2_with fail
        go_ret
        exact ⟨rfl, G.out⟩
    · have tm : ((m : Int) != (l.length : Int)) = true := by rw [bne_iff_ne]; omega
      clear hmn
      go_wp2_with fail
      refine (eqi_same F.out F'.out).mono ?_
      rintro e W ⟨rfl, hg⟩
      replace G := Lib.hid (gb_trans G.out hg)
      clear hg
      go_wp2_with fail
      go_ret
      exact ⟨rfl, G.out⟩
end fnShortLogReplay
/-! the row's step -/
namespace fnShortLogReplay
set_option maxRecDepth 100000 in
theorem lifted (os : Os) (started : os.Started) (H : Type) (enc : TypeId × Value → H) :
    ReturnsInHanded {} Try.checked os 9 .any (Rows.fnShortLogReplaySpec.pre6 enc Try.prog Try.f9 Rows.fnShortLogReplayRow.domain false) (Rows.fnShortLogReplaySpec.post enc Try.prog Try.f9 false true false false) := by
  refine returnsInHanded_of_change (C := Try.checked) own started (by kernel_rfl) Try.func9
    (ChangeSpec.witness6 (enc := enc) (C := Try.checked) false ⟨#[], #[.slice none 0 0], []⟩ 8 (by kernel_rfl) (by kernel_rfl) (by kernel_rfl) (by kernel_rfl)) ?_
  intro W base args ds gs before hval0 hW hcnd _
  have hval : ∀ (j : Nat) t v, Try.f9.params[j]? = some t → args[j]? = some v → Value.okWide Try.prog W .any base t v := hval0
  have hW' := hW
  obtain ⟨p, q, hA0, hV, rfl, hfz, hnd⟩ := hW
  have hA : DataW.TrodAll enc Try.prog W 0 (fun _ => true) true Try.f9.params.toList args.toList ds p := hA0
  rw [Try.params9] at hA hval
  obtain ⟨v0, vs0, d0, ds0, p0, q0, hargs, rfl, rfl, h0, r0⟩ := trodAll_cons hA
  obtain ⟨rfl, rfl, rfl⟩ := trodAll_nil r0
  obtain rfl : args = #[v0] := by cases args; simp_all
  obtain ⟨rfl, rfl⟩ := trodVars_none hV
  obtain ⟨a0, len0, cap0, rfl⟩ := okWide_slice Try.underlying22 (hval 0 22 v0 rfl rfl)
  have k0 := h0
  have lt0 : ∀ x ∈ p0, x.block < W.heap.size := by obtain ⟨m, hm⟩ := k0; exact DataW.trod_lt m _ _ _ hm
  obtain ⟨L0, rfl, b00, b01, b02⟩ := code_row h0
  clear hA0 hval0
  refine (walk W a0 cap0 L0 b00 b01 b02).mono fun e W' ⟨he, bel0⟩ => ?_
  have bel := gb_below bel0
  subst he
  exact ⟨_, rfl, _, _, _, [], _, [], hW', trodAll_mk1 (shut_bool Try.underlying4 _), (trodAll_cons_mk (Below.trod laidOut (by kernel_rfl) (of_decide_eq_true (by kernel_rfl)) k0 bel lt0) trodAll_mk0), rfl, bel.frame _, fun h => by cases h⟩
set_option maxRecDepth 100000 in
theorem over : Rows.fnShortLogReplayRow.holds Try.pinned (OpenSpec.ofChange Rows.fnShortLogReplaySpec) :=
  OpenClaim.holds_of_wide 9 Try.f9 rfl rfl rfl rfl rfl rfl rfl ⟨rfl, rfl, rfl, rfl, rfl⟩ rfl rfl rfl rfl rfl (by kernel_rfl) Try.func9 (by kernel_rfl)
    (of_decide_eq_true (by kernel_rfl)) (by unfold Func.isWrapper; first | (rw [if_pos (by decide +kernel)]; kernel_rfl) | (rw [if_neg (by decide +kernel)]; exact ⟨rfl, rfl⟩))
    (fun os started H enc _ => lifted os started H enc)
theorem proved : Rows.FnShortLogReplaySaid := over
end fnShortLogReplay
end Go.Proofs.Ytjooangmmboogaa
