/- FnChangedKeysLog: changes are logs: proved for every input, with no condition. -/
import Derived.Test.YtejbfmnioomkbaaFrame
import Derived.Deep.RegionHeld3
import Derived.Test.YtejbfmnioomkbaaHisC
import Derived.Test.YtejbfmnioomkbaaBetL
namespace Go.Proofs.Ytejbfmnioomkbaa
open Go.ChangeShapes Go.WideShapes Go.ChangeAt Go.RowKit
set_option linter.unusedVariables false
set_option linter.unusedSimpArgs false
namespace fnChangedKeysLog
set_option maxRecDepth 100000 in
set_option maxHeartbeats 2000000 in
theorem walk (w : World) (A : Option Addr) (c : Nat) (bs : List Int) (h2 : bs.length ≤ c) (h3 : ∀ x ∈ bs, 0 ≤ x ∧ x ≤ 255) (h4 : Rd w 0 w.heap.size A (bs.map (.int .u8))) :
    Calls Try.prog 3 #[.slice A bs.length c] w fun e w' => e = .returned (.bool true) ∧ w.grownBy w' none := by
  have H2 := Lib.hid h2
  have H3 := Lib.hid h3
  have H4 := Lib.hid h4
  clear h2 h3 h4
  by_cases hb : bs.length ≤ 1048576
  rotate_left
  · have hb' : (1048576 : Int) < bs.length := by omega
    generalize bs.length = L at *
    go_enter Try.func3, Try.ntmps3
    go_wp2
    go_ret
    exact ⟨rfl, gb_refl _ _⟩
  have hb' : (bs.length : Int) ≤ 1048576 := by omega
  go_enter Try.func3, Try.ntmps3
  go_wp2_with fail
  refine (DrawChangedKeys_any w A c bs H2.out hb H3.out H4.out).mono ?_
  rintro e W ⟨h, A1, B1, c1, d1, s, t, rfl, hf, hs, hg⟩
  obtain ⟨l, ts⟩ := h
  have HF := Lib.hid hf
  obtain ⟨hlc, hld, hl1, hl2⟩ := hf
  change l.length ≤ c1 at hlc
  change ts.length ≤ d1 at hld
  change l.length ≤ 40 at hl1
  change ts.length ≤ 40 at hl2
  have D0 := Lib.hid (SeesGH.sees hs)
  have G0 := Lib.hid hg
  clear hs hg
  go_wp2_with fail
  refine calls_name (fun V => SeesH V A1 B1 ⟨l, ts⟩ ∧ Row V W.heap.size 26 [.slice A1 l.length c1, .slice B1 ts.length d1] ∧ w.grownBy V none ∧ W.grownBy V none) ⟨D0.out.on (World.grownBy_alloc W _ none), Row.new W _ rfl, gb_alloc G0.out _, World.grownBy_alloc W _ none⟩ ?_
  obtain ⟨hb, hhb⟩ : ∃ hb, hb = W.heap.size := ⟨_, rfl⟩
  rw [← hhb]
  rintro V ⟨hs, hx, hg, hv⟩
  have D := Lib.hid hs
  have X := Lib.hid hx
  have G := Lib.hid hg
  have GV := Lib.hid hv
  clear hs hx hg hv hhb
  obtain ⟨K, hK⟩ : ∃ K, K = M.ChangedKeys ⟨l, ts⟩ s t := ⟨_, rfl⟩
  have HK := Lib.hid hK
  have HI : Hid (∀ W, SeesH W A1 B1 ⟨l, ts⟩ → Calls Try.prog 6 #[.agg #[.slice A1 l.length c1, .slice B1 ts.length d1], .int .i64 s, .int .i64 t] W (GotN .i64 W K)) := Lib.hid fun W h => by rw [hK]; exact ck_impl h hld
  have HS : Hid (∀ W, SeesH W A1 B1 ⟨l, ts⟩ → Calls Try.prog 8 #[.agg #[.slice A1 l.length c1, .slice B1 ts.length d1], .int .i64 s, .int .i64 t] W (GotN .i64 W K)) := Lib.hid fun W h => by rw [hK]; exact ck_spec h hlc
  clear hK D0 G0 GV
  refine (HI.out _ D.out).mono ?_
  rintro e W ⟨A2, c2, rfl, hc2, hs, hg⟩
  replace D := Lib.hid (D.out.on hg)
  replace X := Lib.hid (X.out.on hg)
  replace G := Lib.hid (gb_trans G.out hg)
  clear hg
  have F := Lib.hid hs
  clear hs
  try clear q0 q1
  have q0 := X.out.cell 0
  have q1 := X.out.cell 1
  simp only [List.getElem?_cons_zero, List.getElem?_cons_succ] at q0 q1
  go_wp2_with fail
  refine (HS.out _ D.out).mono ?_
  rintro e W ⟨A3, c3, rfl, hc3, hs, hg⟩
  replace D := Lib.hid (D.out.on hg)
  replace X := Lib.hid (X.out.on hg)
  replace F := Lib.hid (F.out.on hg)
  replace G := Lib.hid (gb_trans G.out hg)
  clear hg
  have F' := Lib.hid hs
  clear hs
  go_wp2_with fail
  refine (ein_same F.out F'.out).mono ?_
  rintro e W ⟨rfl, hg⟩
  replace D := Lib.hid (D.out.on hg)
  replace X := Lib.hid (X.out.on hg)
  replace F := Lib.hid (F.out.on hg)
  replace G := Lib.hid (gb_trans G.out hg)
  clear hg
  try clear q0 q1
  have q0 := X.out.cell 0
  have q1 := X.out.cell 1
  simp only [List.getElem?_cons_zero, List.getElem?_cons_succ] at q0 q1
  by_cases hl0 : K.length = 0
  · have t0 : ((K.length : Int) == 0) = true := by rw [hl0]; rfl
    clear hl0
    go_wp2_with fail
    refine (HS.out _ D.out).mono ?_
    rintro e W ⟨A4, c4, rfl, hc4, hs, hg⟩
    replace D := Lib.hid (D.out.on hg)
    replace X := Lib.hid (X.out.on hg)
    replace F := Lib.hid (F.out.on hg)
    replace G := Lib.hid (gb_trans G.out hg)
    clear hg
    have F4 := Lib.hid hs
    clear hs
    go_wp2_with fail
    refine (ein_same F.out F4.out).mono ?_
    rintro e W ⟨rfl, hg⟩
    replace D := Lib.hid (D.out.on hg)
    replace G := Lib.hid (gb_trans G.out hg)
    clear hg
    go_wp2_with fail
    go_ret
    exact ⟨rfl, G.out⟩
  · have t0 : ((K.length : Int) == 0) = false := by rw [beq_eq_false_iff_ne]; omega
    have hcond : M.validHist ⟨l, ts⟩ = true ∧ (0 ≤ s ∧ s ≤ 1000) ∧ (0 ≤ t ∧ t ≤ 1000) := by
      by_cases hc : M.validHist ⟨l, ts⟩ = true ∧ M.inR s 0 1000 = true ∧ M.inR t 0 1000 = true
      · exact ⟨hc.1, M.inR_true hc.2.1, M.inR_true hc.2.2⟩
      · exfalso
        apply hl0
        rw [HK.out]
        unfold M.ChangedKeys
        rw [if_neg hc]
        rfl
    obtain ⟨hv, hs9, ht9⟩ := hcond
    obtain ⟨Sa, hSa⟩ : ∃ S, S = M.storeAt ⟨l, ts⟩ s := ⟨_, rfl⟩
    obtain ⟨Sb, hSb⟩ : ∃ S, S = M.storeAt ⟨l, ts⟩ t := ⟨_, rfl⟩
    have hva : M.validStore Sa = true := by rw [hSa]; exact M.store_valid _ _
    have hvb : M.validStore Sb = true := by rw [hSb]; exact M.store_valid _ _
    have hKc : K = M.changed Sa Sb := by rw [HK.out, ck_of hv hs9 ht9, hSa, hSb]
    have r1 : M.StoreAt ⟨l, ts⟩ s = Sa := by rw [sa_of hv hs9, hSa]
    have r2 : M.StoreAt ⟨l, ts⟩ t = Sb := by rw [sa_of hv ht9, hSb]
    have HA : Hid (∀ W, SeesH W A1 B1 ⟨l, ts⟩ → Calls Try.prog 10 #[.agg #[.slice A1 l.length c1, .slice B1 ts.length d1], .int .i64 s] W (GotI W Sa)) := Lib.hid fun W h => by rw [← r1]; exact sa_impl h hld
    have HB : Hid (∀ W, SeesH W A1 B1 ⟨l, ts⟩ → Calls Try.prog 10 #[.agg #[.slice A1 l.length c1, .slice B1 ts.length d1], .int .i64 t] W (GotI W Sb)) := Lib.hid fun W h => by rw [← r2]; exact sa_impl h hld
    obtain ⟨Tl, hT⟩ : ∃ Tl, Tl = M.LogBetween Sa Sb := ⟨_, rfl⟩
    have HL : Hid (∀ W A B c d, SeesI W A Sa → SeesI W B Sb → Calls Try.prog 9 #[.slice A Sa.length c, .slice B Sb.length d] W (GotE W Tl)) := Lib.hid fun W A B c d h h' => by rw [hT]; exact lb_impl h h'
    have HMEM : Hid (∀ e ∈ Tl, e.item.key ∈ K) := Lib.hid fun e he => by rw [hKc]; exact M.between_mem hva hvb (by rw [← hT]; exact he)
    have hlen : Tl.length = K.length := by rw [hT, hKc]; exact M.between_len hva hvb
    obtain ⟨n, hn⟩ : ∃ n, n = Tl.length := ⟨_, rfl⟩
    have te : ((n : Int) == (K.length : Int)) = true := by rw [hn, hlen]; simp
    have hn99 : n ≤ 1048576 := by rw [hn, hlen, HK.out]; exact ck_len _ _ _
    have HN := Lib.hid hn
    clear hl0 hv hs9 ht9 hSa hSb hva hvb hKc r1 r2 hT hlen hn HI HS HK
    have HCE : Hid (∀ V, W.grownBy V none → V.cell? ⟨hb, 0, none⟩ = some (.slice A1 l.length c1) ∧ V.cell? ⟨hb, 1, none⟩ = some (.slice B1 ts.length d1)) := Lib.hid fun V hV => ⟨hV.cell q0 (by simp), hV.cell q1 (by simp)⟩
    go_wp2_with fail
    go_region_held3 (fun V => V.cell? ⟨hb, 0, none⟩ = some (.slice A1 l.length c1) ∧ V.cell? ⟨hb, 1, none⟩ = some (.slice B1 ts.length d1))
      (first | exact HCE.out _ S7.out | exact HCE.out _ S6.out | exact HCE.out _ S5.out | exact HCE.out _ (gb_drew (gb_refl _ _)))
      (first
        | (go_at_call 9; refine (HL.out _ _ _ c5 c6 (P5.out.on G6.out) P6.out).mono ?_; rintro e w7 ⟨A7, c7, rfl, hc7, hs, hg⟩; have E7 := Lib.hid hs; have S7 : Hid (W.grownBy w7 none) := Lib.hid (gb_trans S6.out hg); clear hc7 hs hg)
        | (go_at_call 10; refine (HB.out _ (D.out.on S5.out)).mono ?_; rintro e w6 ⟨A6, c6, rfl, hc6, hs, hg⟩; have P6 := Lib.hid hs; have G6 := Lib.hid hg; have S6 : Hid (W.grownBy w6 none) := Lib.hid (gb_trans S5.out hg); clear hc6 hs hg)
        | (go_at_call 10; refine (HA.out W.drew (D.out.on (gb_drew (gb_refl _ _)))).mono ?_; rintro e w5 ⟨A5, c5, rfl, hc5, hs, hg⟩; have P5 := Lib.hid hs; have S5 : Hid (W.grownBy w5 none) := Lib.hid (gb_trans (gb_drew (gb_refl W none)) hg); clear hc5 hs hg))
    have F7 := Lib.hid (F.out.on S7.out)
    replace G := Lib.hid (gb_trans G.out S7.out)
    clear HA HB HL HCE S5 S6 S7 P5 P6 G6 D X F F' q0 q1
    rw [← HN.out]
    go_wp2_with fail
    go_loopw [8] (fun i wr => ∃ k : Nat, k ≤ n ∧ i = .int .i64 k ∧ w7.grownBy wr none) (fun i _ => n - (intOf i).toNat)
    case atStart => exact ⟨0, Nat.zero_le _, rfl, gb_refl _ _⟩
    case round =>
      obtain ⟨k, hk, rfl, hg⟩ := hrel
      have GW := Lib.hid hg
      clear hg
      by_cases hlt : k < n
      · have hkl : k < Tl.length := by rw [← HN.out]; exact hlt
        obtain ⟨b, o, hA, hb1, hb2, hI⟩ := (E7.out.on GW.out).1.at_ (List.getElem?_eq_getElem hkl)
        subst hA
        obtain ⟨u, _, a1, _, _, _⟩ := hI
        have hmem : Tl[k].item.key ∈ K := HMEM.out _ (List.getElem_mem hkl)
        have HIN := Lib.hid (fun W (h : SeesN .i64 W A2 K) => isIn_any (c := c2) (n := Tl[k].item.key) h)
        rw [decide_eq_true hmem] at HIN
        have kn : (k : Int) < n := by omega
        have k0 : (0 : Int) ≤ k := by omega
        clear hmem
        generalize Tl[k].item.key = y at *
        go_wp2_with fail
        refine (HIN.out _ (F7.out.on GW.out)).mono ?_
        rintro e w9 ⟨rfl, hg⟩
        have G9 := Lib.hid (gb_trans GW.out hg)
        clear hg
        go_wp2_with fail
        go_roundw
        case rel => exact ⟨k + 1, by omega, by go_num, G9.out⟩
        case measure => simp [intOf]; omega
      · obtain rfl : k = n := by omega
        go_wp2_with fail
        go_ret
        exact ⟨rfl, gb_trans G.out GW.out⟩
end fnChangedKeysLog
/-! the row's step -/
namespace fnChangedKeysLog
set_option maxRecDepth 100000 in
theorem lifted (os : Os) (started : os.Started) (H : Type) (enc : TypeId × Value → H) :
    ReturnsInHanded {} Try.checked os 3 .any (Rows.fnChangedKeysLogSpec.pre6 enc Try.prog Try.f3 Rows.fnChangedKeysLogRow.domain false) (Rows.fnChangedKeysLogSpec.post enc Try.prog Try.f3 false true false false) := by
  refine returnsInHanded_of_change (C := Try.checked) own started (by kernel_rfl) Try.func3
    (ChangeSpec.witness6 (enc := enc) (C := Try.checked) false ⟨#[], #[.slice none 0 0], []⟩ 8 (by kernel_rfl) (by kernel_rfl) (by kernel_rfl) (by kernel_rfl)) ?_
  intro W base args ds gs before hval0 hW hcnd _
  have hval : ∀ (j : Nat) t v, Try.f3.params[j]? = some t → args[j]? = some v → Value.okWide Try.prog W .any base t v := hval0
  have hW' := hW
  obtain ⟨p, q, hA0, hV, rfl, hfz, hnd⟩ := hW
  have hA : DataW.TrodAll enc Try.prog W 0 (fun _ => true) true Try.f3.params.toList args.toList ds p := hA0
  rw [Try.params3] at hA hval
  obtain ⟨v0, vs0, d0, ds0, p0, q0, hargs, rfl, rfl, h0, r0⟩ := trodAll_cons hA
  obtain ⟨rfl, rfl, rfl⟩ := trodAll_nil r0
  obtain rfl : args = #[v0] := by cases args; simp_all
  obtain ⟨rfl, rfl⟩ := trodVars_none hV
  obtain ⟨a0, len0, cap0, rfl⟩ := okWide_slice Try.underlying22 (hval 0 22 v0 rfl rfl)
  have k0 := h0
  have lt0 : ∀ x ∈ p0, x.block < W.heap.size := by obtain ⟨m, hm⟩ := k0; exact DataW.trod_lt m _ _ _ hm
  obtain ⟨L0, rfl, b00, b01, b02⟩ := code_row h0
  clear hA0 hval0
  refine (walk W a0 cap0 L0 b00 b01 b02).mono fun e W' ⟨he, bel0⟩ => ?_
  have bel := gb_below bel0
  subst he
  exact ⟨_, rfl, _, _, _, [], _, [], hW', trodAll_mk1 (shut_bool Try.underlying4 _), (trodAll_cons_mk (Below.trod laidOut (by kernel_rfl) (of_decide_eq_true (by kernel_rfl)) k0 bel lt0) trodAll_mk0), rfl, bel.frame _, fun h => by cases h⟩
set_option maxRecDepth 100000 in
theorem over : Rows.fnChangedKeysLogRow.holds Try.pinned (OpenSpec.ofChange Rows.fnChangedKeysLogSpec) :=
  OpenClaim.holds_of_wide 3 Try.f3 rfl rfl rfl rfl rfl rfl rfl ⟨rfl, rfl, rfl, rfl, rfl⟩ rfl rfl rfl rfl rfl (by kernel_rfl) Try.func3 (by kernel_rfl)
    (of_decide_eq_true (by kernel_rfl)) (by unfold Func.isWrapper; first | (rw [if_pos (by decide +kernel)]; kernel_rfl) | (rw [if_neg (by decide +kernel)]; exact ⟨rfl, rfl⟩))
    (fun os started H enc _ => lifted os started H enc)
theorem proved : Rows.FnChangedKeysLogSaid := over
end fnChangedKeysLog
end Go.Proofs.Ytejbfmnioomkbaa
