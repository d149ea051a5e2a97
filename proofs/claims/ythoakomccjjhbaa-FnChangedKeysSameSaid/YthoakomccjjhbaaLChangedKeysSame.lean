/- FnChangedKeysSame: nothing changes in no time: proved for every input, with no condition. -/
import Derived.Test.YthoakomccjjhbaaFrame
import Derived.Test.YthoakomccjjhbaaHisC
namespace Go.Proofs.Ythoakomccjjhbaa
open Go.ChangeShapes Go.WideShapes Go.ChangeAt Go.RowKit
set_option linter.unusedVariables false
set_option linter.unusedSimpArgs false
namespace fnChangedKeysSame
set_option maxRecDepth 100000 in
set_option maxHeartbeats 2000000 in
theorem walk (w : World) (A : Option Addr) (c : Nat) (bs : List Int) (h2 : bs.length ≤ c) (h3 : ∀ x ∈ bs, 0 ≤ x ∧ x ≤ 255) (h4 : Rd w 0 w.heap.size A (bs.map (.int .u8))) :
    Calls Try.prog 9 #[.slice A bs.length c] w fun e w' => e = .returned (.bool true) ∧ w.grownBy w' none := by
  have H2 := Lib.hid h2
  have H3 := Lib.hid h3
  have H4 := Lib.hid h4
  clear h2 h3 h4
  by_cases hb : bs.length ≤ 1048576
  rotate_left
  · have hb' : (1048576 : Int) < bs.length := by omega
    generalize bs.length = L at *
    go_enter Try.func9, Try.ntmps9
    go_wp2
    go_ret
    exact ⟨rfl, gb_refl _ _⟩
  have hb' : (bs.length : Int) ≤ 1048576 := by omega
  go_enter Try.func9, Try.ntmps9
  go_wp2_with fail
  refine (DrawChangedKeys_any w A c bs H2.out hb H3.out H4.out).mono ?_
  rintro e W ⟨h, A1, B1, c1, d1, s, t, rfl, hf, hs, hg⟩
  obtain ⟨l, ts⟩ := h
  have HF := Lib.hid hf
  obtain ⟨hlc, hld, hl1, hl2⟩ := hf
  change l.length ≤ c1 at hlc
  change ts.length ≤ d1 at hld
  change l.length ≤ 40 at hl1
  change ts.length ≤ 40 at hl2
  have D0 := Lib.hid (SeesGH.sees hs)
  have G0 := Lib.hid hg
  clear hs hg
  go_wp2_with fail
  refine calls_name (fun V => SeesH V A1 B1 ⟨l, ts⟩ ∧ Row V W.heap.size 26 [.slice A1 l.length c1, .slice B1 ts.length d1] ∧ w.grownBy V none ∧ W.grownBy V none) ⟨D0.out.on (World.grownBy_alloc W _ none), Row.new W _ rfl, gb_alloc G0.out _, World.grownBy_alloc W _ none⟩ ?_
  obtain ⟨hb, hhb⟩ : ∃ hb, hb = W.heap.size := ⟨_, rfl⟩
  rw [← hhb]
  rintro V ⟨hs, hx, hg, hv⟩
  have D := Lib.hid hs
  have X := Lib.hid hx
  have G := Lib.hid hg
  have GV := Lib.hid hv
  clear hs hx hg hv hhb
  obtain ⟨K, hK⟩ : ∃ K, K = M.ChangedKeys ⟨l, ts⟩ s t := ⟨_, rfl⟩
  have HK := Lib.hid hK
  have HI : Hid (∀ W, SeesH W A1 B1 ⟨l, ts⟩ → Calls Try.prog 37 #[.agg #[.slice A1 l.length c1, .slice B1 ts.length d1], .int .i64 s, .int .i64 t] W (GotN .i64 W K)) := Lib.hid fun W h => by rw [hK]; exact ck_impl h hld
  have HS : Hid (∀ W, SeesH W A1 B1 ⟨l, ts⟩ → Calls Try.prog 36 #[.agg #[.slice A1 l.length c1, .slice B1 ts.length d1], .int .i64 s, .int .i64 t] W (GotN .i64 W K)) := Lib.hid fun W h => by rw [hK]; exact ck_spec h hlc
  clear hK D0 G0 GV
  refine (HI.out _ D.out).mono ?_
  rintro e W ⟨A2, c2, rfl, hc2, hs, hg⟩
  replace D := Lib.hid (D.out.on hg)
  replace X := Lib.hid (X.out.on hg)
  replace G := Lib.hid (gb_trans G.out hg)
  clear hg
  have F := Lib.hid hs
  clear hs
  try clear q0 q1
  have q0 := X.out.cell 0
  have q1 := X.out.cell 1
  simp only [List.getElem?_cons_zero, List.getElem?_cons_succ] at q0 q1
  go_wp2_with fail
  refine (HS.out _ D.out).mono ?_
  rintro e W ⟨A3, c3, rfl, hc3, hs, hg⟩
  replace D := Lib.hid (D.out.on hg)
  replace X := Lib.hid (X.out.on hg)
  replace F := Lib.hid (F.out.on hg)
  replace G := Lib.hid (gb_trans G.out hg)
  clear hg
  have F' := Lib.hid hs
  clear hs
  go_wp2_with fail
  refine (ein_same F.out F'.out).mono ?_
  rintro e W ⟨rfl, hg⟩
  replace D := Lib.hid (D.out.on hg)
  replace X := Lib.hid (X.out.on hg)
  replace F := Lib.hid (F.out.on hg)
  replace G := Lib.hid (gb_trans G.out hg)
  clear hg
  try clear q0 q1
  have q0 := X.out.cell 0
  have q1 := X.out.cell 1
  simp only [List.getElem?_cons_zero, List.getElem?_cons_succ] at q0 q1
  go_wp2_with fail
  obtain ⟨b, hbv⟩ : ∃ b, b = M.validHist ⟨l, ts⟩ := ⟨_, rfl⟩
  have HV := Lib.hid hbv
  have HH : Hid (∀ W, SeesH W A1 B1 ⟨l, ts⟩ → Calls Try.prog 19 #[.agg #[.slice A1 l.length c1, .slice B1 ts.length d1]] W fun e w' => e = .returned (.bool b) ∧ W.grownBy w' none) := Lib.hid fun W h => by rw [hbv]; exact ValidHistory_impl h
  clear hbv
  refine (HH.out _ D.out).mono ?_
  rintro e W ⟨rfl, hg⟩
  replace D := Lib.hid (D.out.on hg)
  replace X := Lib.hid (X.out.on hg)
  replace F := Lib.hid (F.out.on hg)
  replace G := Lib.hid (gb_trans G.out hg)
  clear hg
  try clear q0 q1
  have q0 := X.out.cell 0
  have q1 := X.out.cell 1
  simp only [List.getElem?_cons_zero, List.getElem?_cons_succ] at q0 q1
  cases b
  · go_wp2_with fail
    refine (HS.out _ D.out).mono ?_
    rintro e W ⟨A4, c4, rfl, hc4, hs, hg⟩
    replace D := Lib.hid (D.out.on hg)
    replace X := Lib.hid (X.out.on hg)
    replace F := Lib.hid (F.out.on hg)
    replace G := Lib.hid (gb_trans G.out hg)
    clear hg
    have F4 := Lib.hid hs
    clear hs
    go_wp2_with fail
    refine (ein_same F.out F4.out).mono ?_
    rintro e W ⟨rfl, hg⟩
    replace D := Lib.hid (D.out.on hg)
    replace G := Lib.hid (gb_trans G.out hg)
    clear hg
    go_wp2_with fail
    go_ret
    exact ⟨rfl, G.out⟩
  · by_cases ht1 : t < 0
    · go_wp2_with fail
      refine (HS.out _ D.out).mono ?_
      rintro e W ⟨A4, c4, rfl, hc4, hs, hg⟩
      replace D := Lib.hid (D.out.on hg)
      replace X := Lib.hid (X.out.on hg)
      replace F := Lib.hid (F.out.on hg)
      replace G := Lib.hid (gb_trans G.out hg)
      clear hg
      have F4 := Lib.hid hs
      clear hs
      go_wp2_with fail
      refine (ein_same F.out F4.out).mono ?_
      rintro e W ⟨rfl, hg⟩
      replace D := Lib.hid (D.out.on hg)
      replace G := Lib.hid (gb_trans G.out hg)
      clear hg
      go_wp2_with fail
      go_ret
      exact ⟨rfl, G.out⟩
    · by_cases ht2 : 1000 < t
      · go_wp2_with fail
        refine (HS.out _ D.out).mono ?_
        rintro e W ⟨A4, c4, rfl, hc4, hs, hg⟩
        replace D := Lib.hid (D.out.on hg)
        replace X := Lib.hid (X.out.on hg)
        replace F := Lib.hid (F.out.on hg)
        replace G := Lib.hid (gb_trans G.out hg)
        clear hg
        have F4 := Lib.hid hs
        clear hs
        go_wp2_with fail
        refine (ein_same F.out F4.out).mono ?_
        rintro e W ⟨rfl, hg⟩
        replace D := Lib.hid (D.out.on hg)
        replace G := Lib.hid (gb_trans G.out hg)
        clear hg
        go_wp2_with fail
        go_ret
        exact ⟨rfl, G.out⟩
      · have hv := HV.out.symm
        obtain ⟨S, hS⟩ : ∃ S, S = M.storeAt ⟨l, ts⟩ t := ⟨_, rfl⟩
        have hvs : M.validStore S = true := by rw [hS]; exact M.store_valid _ _
        obtain ⟨P, hP⟩ : ∃ P, P = M.changed [] S := ⟨_, rfl⟩
        obtain ⟨hpl, hpm⟩ := changed_fill hvs
        rw [← hP] at hpl hpm
        have r1 : M.ChangedKeys ⟨l, ts⟩ 0 t = P := by
          rw [ck_of hv (by omega) (by omega), M.storeAt_zero hv (by omega), hP, hS]
        have r2 : M.ChangedKeys ⟨l, ts⟩ t t = [] := by
          rw [ck_of hv (by omega) (by omega)]
          exact M.changed_self _
        have r3 : M.StoreAt ⟨l, ts⟩ t = S := by rw [sa_of hv (by omega), hS]
        have HA : Hid (∀ W, SeesH W A1 B1 ⟨l, ts⟩ → Calls Try.prog 37 #[.agg #[.slice A1 l.length c1, .slice B1 ts.length d1], .int .i64 0, .int .i64 t] W (GotN .i64 W P)) := Lib.hid fun W h => by rw [← r1]; exact ck_impl h hld
        have HB : Hid (∀ W, SeesH W A1 B1 ⟨l, ts⟩ → Calls Try.prog 37 #[.agg #[.slice A1 l.length c1, .slice B1 ts.length d1], .int .i64 t, .int .i64 t] W fun e w' => ∃ A c, e = .returned (.slice A 0 c) ∧ W.grownBy w' none) := Lib.hid fun W h => by
          have e := ck_impl (a := t) (b := t) (c := c1) (d := d1) h hld
          rw [r2] at e
          exact e.mono fun _ _ ⟨A, c, h1, _, _, h2⟩ => ⟨A, c, h1, h2⟩
        have HC : Hid (∀ W, SeesH W A1 B1 ⟨l, ts⟩ → Calls Try.prog 16 #[.agg #[.slice A1 l.length c1, .slice B1 ts.length d1], .int .i64 t] W (GotI W S)) := Lib.hid fun W h => by rw [← r3]; exact sa_impl h hld
        have HPM := Lib.hid hpm
        have HPL := Lib.hid hpl
        have hS16 := (M.validStore_of hvs).1
        clear r1 r2 r3 hP hS hpl hpm hv hvs
        go_wp2_with fail
        refine (HA.out _ D.out).mono ?_
        rintro e W ⟨A5, c5, rfl, hc5, hs, hg⟩
        replace D := Lib.hid (D.out.on hg)
        replace X := Lib.hid (X.out.on hg)
        replace G := Lib.hid (gb_trans G.out hg)
        clear hg
        have P5 := Lib.hid hs
        clear hs hc5
        try clear q0 q1
        have q0 := X.out.cell 0
        have q1 := X.out.cell 1
        simp only [List.getElem?_cons_zero, List.getElem?_cons_succ] at q0 q1
        go_wp2_with fail
        refine (HC.out _ D.out).mono ?_
        rintro e W ⟨A6, c6, rfl, hc6, hs, hg⟩
        replace D := Lib.hid (D.out.on hg)
        replace X := Lib.hid (X.out.on hg)
        replace P5 := Lib.hid (P5.out.on hg)
        replace G := Lib.hid (gb_trans G.out hg)
        clear hg
        have P6 := Lib.hid hs
        clear hs hc6
        obtain ⟨n, hn⟩ : ∃ n, n = S.length := ⟨_, rfl⟩
        have HN := Lib.hid hn
        rw [← hn] at hS16 ⊢
        have hpn : Hid (P.length = n) := Lib.hid (by rw [HPL.out, hn])
        clear hn
        try clear q0 q1
        obtain ⟨w0, hw0⟩ : ∃ w0 : World, w0 = W := ⟨_, rfl⟩
        rw [← hw0] at D X P5 P6 G ⊢
        clear hw0
        go_wp2_with fail
        go_loopw [9] (fun i wr => ∃ k : Nat, k ≤ n ∧ i = .int .i64 k ∧ w0.grownBy wr none) (fun i _ => n - (intOf i).toNat)
        case atStart => exact ⟨0, Nat.zero_le _, rfl, gb_refl _ _⟩
        case round =>
          obtain ⟨k, hk, rfl, hg⟩ := hrel
          have GW := Lib.hid hg
          clear hg
          by_cases hkn : k < n
          · have hkl : k < S.length := by rw [← HN.out]; exact hkn
            obtain ⟨b, o, hA, hb1, hb2, hI⟩ := (P6.out.on GW.out).1.at_ (List.getElem?_eq_getElem hkl)
            subst hA
            obtain ⟨u, a0, a1, a2, hu⟩ := hI
            have HIN : Hid (Calls Try.prog 43 #[.slice A5 P.length c5, .int .i64 S[k].key] wr fun e w' => e = .returned (.bool true) ∧ wr.grownBy w' none) := Lib.hid (by
              have e := isIn_any (c := c5) (n := S[k].key) (P5.out.on GW.out)
              rwa [decide_eq_true (HPM.out _ (List.getElem_mem hkl))] at e)
            have kn : (k : Int) < n := by omega
            have k0 : (0 : Int) ≤ k := by omega
            clear hu
            generalize S[k] = y at *
            go_wp2_with fail
            refine HIN.out.mono ?_
            rintro e w2 ⟨rfl, hg⟩
            have G2 := Lib.hid (gb_trans GW.out hg)
            clear hg
            go_wp2_with fail
            go_roundw
            case rel => exact ⟨k + 1, by omega, by go_num, G2.out⟩
            case measure => simp [intOf]; omega
          · obtain rfl : k = n := by omega
            replace D := Lib.hid (D.out.on GW.out)
            replace X := Lib.hid (X.out.on GW.out)
            replace G := Lib.hid (gb_trans G.out GW.out)
            have q0 := X.out.cell 0
            have q1 := X.out.cell 1
            simp only [List.getElem?_cons_zero, List.getElem?_cons_succ] at q0 q1
            have tl : ((P.length : Int) == (k : Int)) = true := by rw [beq_iff_eq]; have := hpn.out; omega
            go_wp2_with fail
            refine (HB.out _ D.out).mono ?_
            rintro e w2 ⟨A7, c7, rfl, hg⟩
            have G2 := Lib.hid (gb_trans G.out hg)
            clear hg
            go_wp2_with fail
            go_ret
            exact ⟨rfl, G2.out⟩
end fnChangedKeysSame
/-! the row's step -/
namespace fnChangedKeysSame
set_option maxRecDepth 100000 in
theorem lifted (os : Os) (started : os.Started) (H : Type) (enc : TypeId × Value → H) :
    ReturnsInHanded {} Try.checked os 9 .any (Rows.fnChangedKeysSameSpec.pre6 enc Try.prog Try.f9 Rows.fnChangedKeysSameRow.domain false) (Rows.fnChangedKeysSameSpec.post enc Try.prog Try.f9 false true false false) := by
  refine returnsInHanded_of_change (C := Try.checked) own started (by kernel_rfl) Try.func9
    (ChangeSpec.witness6 (enc := enc) (C := Try.checked) false ⟨#[], #[.slice none 0 0], []⟩ 8 (by kernel_rfl) (by kernel_rfl) (by kernel_rfl) (by kernel_rfl)) ?_
  intro W base args ds gs before hval0 hW hcnd _
  have hval : ∀ (j : Nat) t v, Try.f9.params[j]? = some t → args[j]? = some v → Value.okWide Try.prog W .any base t v := hval0
  have hW' := hW
  obtain ⟨p, q, hA0, hV, rfl, hfz, hnd⟩ := hW
  have hA : DataW.TrodAll enc Try.prog W 0 (fun _ => true) true Try.f9.params.toList args.toList ds p := hA0
  rw [Try.params9] at hA hval
  obtain ⟨v0, vs0, d0, ds0, p0, q0, hargs, rfl, rfl, h0, r0⟩ := trodAll_cons hA
  obtain ⟨rfl, rfl, rfl⟩ := trodAll_nil r0
  obtain rfl : args = #[v0] := by cases args; simp_all
  obtain ⟨rfl, rfl⟩ := trodVars_none hV
  obtain ⟨a0, len0, cap0, rfl⟩ := okWide_slice Try.underlying22 (hval 0 22 v0 rfl rfl)
  have k0 := h0
  have lt0 : ∀ x ∈ p0, x.block < W.heap.size := by obtain ⟨m, hm⟩ := k0; exact DataW.trod_lt m _ _ _ hm
  obtain ⟨L0, rfl, b00, b01, b02⟩ := code_row h0
  clear hA0 hval0
  refine (walk W a0 cap0 L0 b00 b01 b02).mono fun e W' ⟨he, bel0⟩ => ?_
  have bel := gb_below bel0
  subst he
  exact ⟨_, rfl, _, _, _, [], _, [], hW', trodAll_mk1 (shut_bool Try.underlying4 _), (trodAll_cons_mk (Below.trod laidOut (by kernel_rfl) (of_decide_eq_true (by kernel_rfl)) k0 bel lt0) trodAll_mk0), rfl, bel.frame _, fun h => by cases h⟩
set_option maxRecDepth 100000 in
theorem over : Rows.fnChangedKeysSameRow.holds Try.pinned (OpenSpec.ofChange Rows.fnChangedKeysSameSpec) :=
  OpenClaim.holds_of_wide 9 Try.f9 rfl rfl rfl rfl rfl rfl rfl ⟨rfl, rfl, rfl, rfl, rfl⟩ rfl rfl rfl rfl rfl (by kernel_rfl) Try.func9 (by kernel_rfl)
    (of_decide_eq_true (by kernel_rfl)) (by unfold Func.isWrapper; first | (rw [if_pos (by decide +kernel)]; kernel_rfl) | (rw [if_neg (by decide +kernel)]; exact ⟨rfl, rfl⟩))
    (fun os started H enc _ => lifted os started H enc)
theorem proved : Rows.FnChangedKeysSameSaid := over
end fnChangedKeysSame
end Go.Proofs.Ythoakomccjjhbaa
