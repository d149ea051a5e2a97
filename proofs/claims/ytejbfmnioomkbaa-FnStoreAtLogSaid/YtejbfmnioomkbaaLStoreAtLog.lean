/- FnStoreAtLog: stores and logs agree: proved for every input, with no condition. -/
import Derived.Test.YtejbfmnioomkbaaFrame
import Derived.Test.YtejbfmnioomkbaaHisC
import Derived.Test.YtejbfmnioomkbaaBetL
namespace Go.Proofs.Ytejbfmnioomkbaa
open Go.ChangeShapes Go.WideShapes Go.ChangeAt Go.RowKit
set_option linter.unusedVariables false
set_option linter.unusedSimpArgs false
namespace fnStoreAtLog
set_option maxRecDepth 100000 in
set_option maxHeartbeats 2000000 in
theorem walk (w : World) (A : Option Addr) (c : Nat) (bs : List Int) (h2 : bs.length ≤ c) (h3 : ∀ x ∈ bs, 0 ≤ x ∧ x ≤ 255) (h4 : Rd w 0 w.heap.size A (bs.map (.int .u8))) :
    Calls Try.prog 4 #[.slice A bs.length c] w fun e w' => e = .returned (.bool true) ∧ w.grownBy w' none := by
  have H2 := Lib.hid h2
  have H3 := Lib.hid h3
  have H4 := Lib.hid h4
  clear h2 h3 h4
  by_cases hb : bs.length ≤ 1048576
  rotate_left
  · have hb' : (1048576 : Int) < bs.length := by omega
    generalize bs.length = L at *
    go_enter Try.func4, Try.ntmps4
    go_wp2
    go_ret
    exact ⟨rfl, gb_refl _ _⟩
  have hb' : (bs.length : Int) ≤ 1048576 := by omega
  go_enter Try.func4, Try.ntmps4
  go_wp2_with fail
  refine (DrawChangedKeys_any w A c bs H2.out hb H3.out H4.out).mono ?_
  rintro e W ⟨h, A1, B1, c1, d1, s, t, rfl, hf, hs, hg⟩
  obtain ⟨l, ts⟩ := h
  have HF := Lib.hid hf
  obtain ⟨hlc, hld, hl1, hl2⟩ := hf
  change l.length ≤ c1 at hlc
  change ts.length ≤ d1 at hld
  change l.length ≤ 40 at hl1
  change ts.length ≤ 40 at hl2
  have D0 := Lib.hid (SeesGH.sees hs)
  have G0 := Lib.hid hg
  clear hs hg
  go_wp2_with fail
  refine calls_name (fun V => SeesH V A1 B1 ⟨l, ts⟩ ∧ Row V W.heap.size 26 [.slice A1 l.length c1, .slice B1 ts.length d1] ∧ w.grownBy V none ∧ W.grownBy V none) ⟨D0.out.on (World.grownBy_alloc W _ none), Row.new W _ rfl, gb_alloc G0.out _, World.grownBy_alloc W _ none⟩ ?_
  obtain ⟨hb, hhb⟩ : ∃ hb, hb = W.heap.size := ⟨_, rfl⟩
  rw [← hhb]
  rintro V ⟨hs, hx, hg, hv⟩
  have D := Lib.hid hs
  have X := Lib.hid hx
  have G := Lib.hid hg
  have GV := Lib.hid hv
  clear hs hx hg hv hhb
  obtain ⟨K, hK⟩ : ∃ K, K = M.ChangedKeys ⟨l, ts⟩ s t := ⟨_, rfl⟩
  have HK := Lib.hid hK
  have HI : Hid (∀ W, SeesH W A1 B1 ⟨l, ts⟩ → Calls Try.prog 6 #[.agg #[.slice A1 l.length c1, .slice B1 ts.length d1], .int .i64 s, .int .i64 t] W (GotN .i64 W K)) := Lib.hid fun W h => by rw [hK]; exact ck_impl h hld
  have HS : Hid (∀ W, SeesH W A1 B1 ⟨l, ts⟩ → Calls Try.prog 8 #[.agg #[.slice A1 l.length c1, .slice B1 ts.length d1], .int .i64 s, .int .i64 t] W (GotN .i64 W K)) := Lib.hid fun W h => by rw [hK]; exact ck_spec h hlc
  clear hK D0 G0 GV
  refine (HI.out _ D.out).mono ?_
  rintro e W ⟨A2, c2, rfl, hc2, hs, hg⟩
  replace D := Lib.hid (D.out.on hg)
  replace X := Lib.hid (X.out.on hg)
  replace G := Lib.hid (gb_trans G.out hg)
  clear hg
  have F := Lib.hid hs
  clear hs
  try clear q0 q1
  have q0 := X.out.cell 0
  have q1 := X.out.cell 1
  simp only [List.getElem?_cons_zero, List.getElem?_cons_succ] at q0 q1
  go_wp2_with fail
  refine (HS.out _ D.out).mono ?_
  rintro e W ⟨A3, c3, rfl, hc3, hs, hg⟩
  replace D := Lib.hid (D.out.on hg)
  replace X := Lib.hid (X.out.on hg)
  replace F := Lib.hid (F.out.on hg)
  replace G := Lib.hid (gb_trans G.out hg)
  clear hg
  have F' := Lib.hid hs
  clear hs
  go_wp2_with fail
  refine (ein_same F.out F'.out).mono ?_
  rintro e W ⟨rfl, hg⟩
  replace D := Lib.hid (D.out.on hg)
  replace X := Lib.hid (X.out.on hg)
  replace F := Lib.hid (F.out.on hg)
  replace G := Lib.hid (gb_trans G.out hg)
  clear hg
  try clear q0 q1
  have q0 := X.out.cell 0
  have q1 := X.out.cell 1
  simp only [List.getElem?_cons_zero, List.getElem?_cons_succ] at q0 q1
  obtain ⟨b, hbv⟩ : ∃ b, b = M.validHist ⟨l, ts⟩ := ⟨_, rfl⟩
  have HV := Lib.hid hbv
  have HH : Hid (∀ W, SeesH W A1 B1 ⟨l, ts⟩ → Calls Try.prog 12 #[.agg #[.slice A1 l.length c1, .slice B1 ts.length d1]] W fun e w' => e = .returned (.bool b) ∧ W.grownBy w' none) := Lib.hid fun W h => by rw [hbv]; exact ValidHistory_impl h
  clear hbv
  go_wp2_with fail
  refine (HH.out _ D.out).mono ?_
  rintro e W ⟨rfl, hg⟩
  replace D := Lib.hid (D.out.on hg)
  replace X := Lib.hid (X.out.on hg)
  replace F := Lib.hid (F.out.on hg)
  replace G := Lib.hid (gb_trans G.out hg)
  clear hg
  try clear q0 q1
  have q0 := X.out.cell 0
  have q1 := X.out.cell 1
  simp only [List.getElem?_cons_zero, List.getElem?_cons_succ] at q0 q1
  cases b
  · go_wp2_with fail
    refine (HS.out _ D.out).mono ?_
    rintro e W ⟨A4, c4, rfl, hc4, hs, hg⟩
    replace D := Lib.hid (D.out.on hg)
    replace X := Lib.hid (X.out.on hg)
    replace F := Lib.hid (F.out.on hg)
    replace G := Lib.hid (gb_trans G.out hg)
    clear hg
    have F4 := Lib.hid hs
    clear hs
    go_wp2_with fail
    refine (ein_same F.out F4.out).mono ?_
    rintro e W ⟨rfl, hg⟩
    replace D := Lib.hid (D.out.on hg)
    replace G := Lib.hid (gb_trans G.out hg)
    clear hg
    go_wp2_with fail
    go_ret
    exact ⟨rfl, G.out⟩
  by_cases s1 : s < 0
  · go_wp2_with fail
    refine (HS.out _ D.out).mono ?_
    rintro e W ⟨A4, c4, rfl, hc4, hs, hg⟩
    replace D := Lib.hid (D.out.on hg)
    replace X := Lib.hid (X.out.on hg)
    replace F := Lib.hid (F.out.on hg)
    replace G := Lib.hid (gb_trans G.out hg)
    clear hg
    have F4 := Lib.hid hs
    clear hs
    go_wp2_with fail
    refine (ein_same F.out F4.out).mono ?_
    rintro e W ⟨rfl, hg⟩
    replace D := Lib.hid (D.out.on hg)
    replace G := Lib.hid (gb_trans G.out hg)
    clear hg
    go_wp2_with fail
    go_ret
    exact ⟨rfl, G.out⟩
  by_cases s2 : s > 1000
  · go_wp2_with fail
    refine (HS.out _ D.out).mono ?_
    rintro e W ⟨A4, c4, rfl, hc4, hs, hg⟩
    replace D := Lib.hid (D.out.on hg)
    replace X := Lib.hid (X.out.on hg)
    replace F := Lib.hid (F.out.on hg)
    replace G := Lib.hid (gb_trans G.out hg)
    clear hg
    have F4 := Lib.hid hs
    clear hs
    go_wp2_with fail
    refine (ein_same F.out F4.out).mono ?_
    rintro e W ⟨rfl, hg⟩
    replace D := Lib.hid (D.out.on hg)
    replace G := Lib.hid (gb_trans G.out hg)
    clear hg
    go_wp2_with fail
    go_ret
    exact ⟨rfl, G.out⟩
  by_cases t1 : t < 0
  · go_wp2_with fail
    refine (HS.out _ D.out).mono ?_
    rintro e W ⟨A4, c4, rfl, hc4, hs, hg⟩
    replace D := Lib.hid (D.out.on hg)
    replace X := Lib.hid (X.out.on hg)
    replace F := Lib.hid (F.out.on hg)
    replace G := Lib.hid (gb_trans G.out hg)
    clear hg
    have F4 := Lib.hid hs
    clear hs
    go_wp2_with fail
    refine (ein_same F.out F4.out).mono ?_
    rintro e W ⟨rfl, hg⟩
    replace D := Lib.hid (D.out.on hg)
    replace G := Lib.hid (gb_trans G.out hg)
    clear hg
    go_wp2_with fail
    go_ret
    exact ⟨rfl, G.out⟩
  by_cases t2 : t > 1000
  · go_wp2_with fail
    refine (HS.out _ D.out).mono ?_
    rintro e W ⟨A4, c4, rfl, hc4, hs, hg⟩
    replace D := Lib.hid (D.out.on hg)
    replace X := Lib.hid (X.out.on hg)
    replace F := Lib.hid (F.out.on hg)
    replace G := Lib.hid (gb_trans G.out hg)
    clear hg
    have F4 := Lib.hid hs
    clear hs
    go_wp2_with fail
    refine (ein_same F.out F4.out).mono ?_
    rintro e W ⟨rfl, hg⟩
    replace D := Lib.hid (D.out.on hg)
    replace G := Lib.hid (gb_trans G.out hg)
    clear hg
    go_wp2_with fail
    go_ret
    exact ⟨rfl, G.out⟩
  have hv := HV.out.symm
  have hs9 : 0 ≤ s ∧ s ≤ 1000 := by omega
  have ht9 : 0 ≤ t ∧ t ≤ 1000 := by omega
  obtain ⟨Sa, hSa⟩ : ∃ S, S = M.storeAt ⟨l, ts⟩ s := ⟨_, rfl⟩
  obtain ⟨Sb, hSb⟩ : ∃ S, S = M.storeAt ⟨l, ts⟩ t := ⟨_, rfl⟩
  have hva : M.validStore Sa = true := by rw [hSa]; exact M.store_valid _ _
  have hvb : M.validStore Sb = true := by rw [hSb]; exact M.store_valid _ _
  have hKc : K = M.changed Sa Sb := by rw [HK.out, ck_of hv hs9 ht9, hSa, hSb]
  have r1 : M.StoreAt ⟨l, ts⟩ s = Sa := by rw [sa_of hv hs9, hSa]
  have r2 : M.StoreAt ⟨l, ts⟩ t = Sb := by rw [sa_of hv ht9, hSb]
  have HA : Hid (∀ W, SeesH W A1 B1 ⟨l, ts⟩ → Calls Try.prog 10 #[.agg #[.slice A1 l.length c1, .slice B1 ts.length d1], .int .i64 s] W (GotI W Sa)) := Lib.hid fun W h => by rw [← r1]; exact sa_impl h hld
  have HB : Hid (∀ W, SeesH W A1 B1 ⟨l, ts⟩ → Calls Try.prog 10 #[.agg #[.slice A1 l.length c1, .slice B1 ts.length d1], .int .i64 t] W (GotI W Sb)) := Lib.hid fun W h => by rw [← r2]; exact sa_impl h hld
  obtain ⟨T, hT⟩ : ∃ T, T = M.LogBetween Sa Sb := ⟨_, rfl⟩
  have HL : Hid (∀ W A B c d, SeesI W A Sa → SeesI W B Sb → Calls Try.prog 9 #[.slice A Sa.length c, .slice B Sb.length d] W (GotE W T)) := Lib.hid fun W A B c d h h' => by rw [hT]; exact lb_impl h h'
  have hlen : T.length = K.length := by rw [hT, hKc]; exact M.between_len hva hvb
  have HR : Hid (∀ W A B c d, SeesI W A Sa → SeesE W B T → Calls Try.prog 13 #[.slice A Sa.length c, .slice B T.length d] W (GotR W (Sb, (K.length : Int)))) := Lib.hid fun W A B c d h h' => by
    have e := rl_impl (c := c) (d := d) h h'
    have e1 := M.between_done hva hvb
    have e2 := M.between_valid hva hvb
    rw [← hT] at e1 e2
    have e3 : M.ReplayLog Sa T = (Sb, (K.length : Int)) := by rw [rlog_eq hva e2, e1.1, e1.2, hlen]
    rw [e3] at e
    exact e
  clear hv hs9 ht9 hSa hSb hva hvb hKc r1 r2 hT hlen HI HS HK HV HH
  have te : ((K.length : Int) == (K.length : Int)) = true := by simp
  go_wp2_with fail
  refine (HA.out _ D.out).mono ?_
  rintro e W ⟨A5, c5, rfl, hc5, hs, hg⟩
  replace D := Lib.hid (D.out.on hg)
  replace X := Lib.hid (X.out.on hg)
  replace F := Lib.hid (F.out.on hg)
  replace G := Lib.hid (gb_trans G.out hg)
  clear hg
  have P5 := Lib.hid hs
  clear hs hc5
  try clear q0 q1
  have q0 := X.out.cell 0
  have q1 := X.out.cell 1
  simp only [List.getElem?_cons_zero, List.getElem?_cons_succ] at q0 q1
  go_wp2_with fail
  refine (HB.out _ D.out).mono ?_
  rintro e W ⟨A6, c6, rfl, hc6, hs, hg⟩
  replace D := Lib.hid (D.out.on hg)
  replace F := Lib.hid (F.out.on hg)
  replace P5 := Lib.hid (P5.out.on hg)
  replace G := Lib.hid (gb_trans G.out hg)
  clear hg
  have P6 := Lib.hid hs
  clear hs hc6 q0 q1
  go_wp2_with fail
  refine (HL.out _ _ _ c5 c6 P5.out P6.out).mono ?_
  rintro e W ⟨A7, c7, rfl, hc7, hs, hg⟩
  replace F := Lib.hid (F.out.on hg)
  replace P5 := Lib.hid (P5.out.on hg)
  replace P6 := Lib.hid (P6.out.on hg)
  replace G := Lib.hid (gb_trans G.out hg)
  clear hg
  have E7 := Lib.hid hs
  clear hs hc7
  go_wp2_with fail
  refine (HR.out _ _ _ c5 c7 P5.out E7.out).mono ?_
  rintro e W ⟨A8, c8, rfl, hc8, hs, hg⟩
  replace F := Lib.hid (F.out.on hg)
  replace P6 := Lib.hid (P6.out.on hg)
  replace G := Lib.hid (gb_trans G.out hg)
  clear hg
  have P8 : Hid (SeesI W A8 Sb) := Lib.hid hs
  clear hs hc8
  go_wp2_with fail
  refine (eqi_same P8.out P6.out).mono ?_
  rintro e W ⟨rfl, hg⟩
  replace F := Lib.hid (F.out.on hg)
  replace G := Lib.hid (gb_trans G.out hg)
  clear hg
  go_wp2_with fail
  go_ret
  exact ⟨rfl, G.out⟩
end fnStoreAtLog
/-! the row's step -/
namespace fnStoreAtLog
set_option maxRecDepth 100000 in
theorem lifted (os : Os) (started : os.Started) (H : Type) (enc : TypeId × Value → H) :
    ReturnsInHanded {} Try.checked os 4 .any (Rows.fnStoreAtLogSpec.pre6 enc Try.prog Try.f4 Rows.fnStoreAtLogRow.domain false) (Rows.fnStoreAtLogSpec.post enc Try.prog Try.f4 false true false false) := by
  refine returnsInHanded_of_change (C := Try.checked) own started (by kernel_rfl) Try.func4
    (ChangeSpec.witness6 (enc := enc) (C := Try.checked) false ⟨#[], #[.slice none 0 0], []⟩ 8 (by kernel_rfl) (by kernel_rfl) (by kernel_rfl) (by kernel_rfl)) ?_
  intro W base args ds gs before hval0 hW hcnd _
  have hval : ∀ (j : Nat) t v, Try.f4.params[j]? = some t → args[j]? = some v → Value.okWide Try.prog W .any base t v := hval0
  have hW' := hW
  obtain ⟨p, q, hA0, hV, rfl, hfz, hnd⟩ := hW
  have hA : DataW.TrodAll enc Try.prog W 0 (fun _ => true) true Try.f4.params.toList args.toList ds p := hA0
  rw [Try.params4] at hA hval
  obtain ⟨v0, vs0, d0, ds0, p0, q0, hargs, rfl, rfl, h0, r0⟩ := trodAll_cons hA
  obtain ⟨rfl, rfl, rfl⟩ := trodAll_nil r0
  obtain rfl : args = #[v0] := by cases args; simp_all
  obtain ⟨rfl, rfl⟩ := trodVars_none hV
  obtain ⟨a0, len0, cap0, rfl⟩ := okWide_slice Try.underlying22 (hval 0 22 v0 rfl rfl)
  have k0 := h0
  have lt0 : ∀ x ∈ p0, x.block < W.heap.size := by obtain ⟨m, hm⟩ := k0; exact DataW.trod_lt m _ _ _ hm
  obtain ⟨L0, rfl, b00, b01, b02⟩ := code_row h0
  clear hA0 hval0
  refine (walk W a0 cap0 L0 b00 b01 b02).mono fun e W' ⟨he, bel0⟩ => ?_
  have bel := gb_below bel0
  subst he
  exact ⟨_, rfl, _, _, _, [], _, [], hW', trodAll_mk1 (shut_bool Try.underlying4 _), (trodAll_cons_mk (Below.trod laidOut (by kernel_rfl) (of_decide_eq_true (by kernel_rfl)) k0 bel lt0) trodAll_mk0), rfl, bel.frame _, fun h => by cases h⟩
set_option maxRecDepth 100000 in
theorem over : Rows.fnStoreAtLogRow.holds Try.pinned (OpenSpec.ofChange Rows.fnStoreAtLogSpec) :=
  OpenClaim.holds_of_wide 4 Try.f4 rfl rfl rfl rfl rfl rfl rfl ⟨rfl, rfl, rfl, rfl, rfl⟩ rfl rfl rfl rfl rfl (by kernel_rfl) Try.func4 (by kernel_rfl)
    (of_decide_eq_true (by kernel_rfl)) (by unfold Func.isWrapper; first | (rw [if_pos (by decide +kernel)]; kernel_rfl) | (rw [if_neg (by decide +kernel)]; exact ⟨rfl, rfl⟩))
    (fun os started H enc _ => lifted os started H enc)
theorem proved : Rows.FnStoreAtLogSaid := over
end fnStoreAtLog
end Go.Proofs.Ytejbfmnioomkbaa
