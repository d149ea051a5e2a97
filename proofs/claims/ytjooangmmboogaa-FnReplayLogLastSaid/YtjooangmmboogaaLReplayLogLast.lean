/- FnReplayLogLast: the last entry of a key counts: proved for every input, with no condition. -/
import Derived.Test.YtjooangmmboogaaFrame
import Derived.Test.YtjooangmmboogaaLogL
import Derived.Test.YtjooangmmboogaaDrawR
namespace Go.Proofs.Ytjooangmmboogaa
open Go.ChangeShapes Go.WideShapes Go.ChangeAt Go.RowKit
set_option linter.unusedVariables false
namespace fnReplayLogLast
set_option maxRecDepth 100000 in
set_option maxHeartbeats 2000000 in
theorem walk (w : World) (A : Option Addr) (c : Nat) (bs : List Int) (h2 : bs.length ≤ c) (h3 : ∀ x ∈ bs, 0 ≤ x ∧ x ≤ 255) (h4 : Rd w 0 w.heap.size A (bs.map (.int .u8))) :
    Calls Try.prog 8 #[.slice A bs.length c] w fun e w' => e = .returned (.bool true) ∧ w.grownBy w' none := by
  have H2 := Lib.hid h2
  have H3 := Lib.hid h3
  have H4 := Lib.hid h4
  clear h2 h3 h4
  by_cases hb : bs.length ≤ 1048576
  rotate_left
  · have hb' : (1048576 : Int) < bs.length := by omega
    generalize bs.length = L at *
    go_enter Try.func8, Try.ntmps8
    go_wp2
    go_ret
    exact ⟨rfl, gb_refl _ _⟩
  have hb' : (bs.length : Int) ≤ 1048576 := by omega
  go_enter Try.func8, Try.ntmps8
  go_wp2_with fail
  refine (DrawReplayLog_any w A c bs H2.out hb H3.out H4.out).mono ?_
  rintro e W ⟨A1, c1, L, B1, d1, l, rfl, hc1, hd1, hd, he, hg⟩
  have D := Lib.hid hd
  have E := Lib.hid he
  have G := Lib.hid hg
  clear hd he hg
  obtain ⟨K, z, HP⟩ : ∃ K z, Hid (M.ReplayLog L l = (K, z)) := ⟨_, _, Lib.hid rfl⟩
  have HCI : Hid (∀ W, SeesI W A1 L → SeesE W B1 l → Calls Try.prog 29 #[.slice A1 L.length c1, .slice B1 l.length d1] W (GotR W (K, z))) := Lib.hid fun W h h' => HP.out ▸ rl_impl h h'
  have HCS : Hid (∀ W, SeesI W A1 L → SeesE W B1 l → Calls Try.prog 30 #[.slice A1 L.length c1, .slice B1 l.length d1] W (GotR W (K, z))) := Lib.hid fun W h h' => HP.out ▸ rl_spec h h'
  have tz : (z != z) = false := by simp
  have tz' : (z == z) = true := by simp
  go_wp2_with fail
  refine (HCI.out _ D.out E.out).mono ?_
  rintro e W ⟨A2, c2, rfl, hc2, hd, hg⟩
  replace D := Lib.hid (D.out.on hg)
  replace E := Lib.hid (E.out.on hg)
  replace G := Lib.hid (gb_trans G.out hg)
  have F : Hid (SeesI W A2 K) := Lib.hid hd
  have HC2 : Hid (K.length ≤ c2) := Lib.hid hc2
  clear hg hd hc2
  go_wp2_with fail
  refine (HCS.out _ D.out E.out).mono ?_
  rintro e W ⟨A3, c3, rfl, hc3, hd, hg⟩
  replace D := Lib.hid (D.out.on hg)
  replace E := Lib.hid (E.out.on hg)
  replace F := Lib.hid (F.out.on hg)
  replace G := Lib.hid (gb_trans G.out hg)
  have F' : Hid (SeesI W A3 K) := Lib.hid hd
  clear hg hd hc3
  go_wp2_with fail
  refine (eqi_same F.out F'.out).mono ?_
  rintro e W ⟨rfl, hg⟩
  replace D := Lib.hid (D.out.on hg)
  replace E := Lib.hid (E.out.on hg)
  replace F := Lib.hid (F.out.on hg)
  replace F' := Lib.hid (F'.out.on hg)
  replace G := Lib.hid (gb_trans G.out hg)
  clear hg
  by_cases hg : M.validStore L = true ∧ M.validLog l = true
  rotate_left
  · have tn : decide (z < 0) = true := by
      have h := HP.out
      unfold M.ReplayLog at h
      rw [if_neg hg] at h
      have : z = -1 := (congrArg Prod.snd h).symm
      rw [this]; rfl
    clear hg
    go_wp2_with fail
    refine (eqi_same F.out F'.out).mono ?_
    rintro e W ⟨rfl, hg⟩
    replace G := Lib.hid (gb_trans G.out hg)
    clear hg
    go_wp2_with fail
    go_ret
    exact ⟨rfl, G.out⟩
  · obtain ⟨m, hm, hz, hK⟩ : ∃ m : Nat, m = (M.replay L l).2 ∧ z = m ∧ K = (M.replay L l).1 := by
      have h := HP.out
      unfold M.ReplayLog at h
      rw [if_pos hg] at h
      exact ⟨_, rfl, (congrArg Prod.snd h).symm, (congrArg Prod.fst h).symm⟩
    subst hz
    have HVL := Lib.hid hg.1
    have HVE := Lib.hid hg.2
    have hl32 : l.length ≤ 32 := by have h := hg.2; unfold M.validLog at h; simp at h; exact h.2
    have HM := Lib.hid hm
    have HK := Lib.hid hK
    have hml : m ≤ l.length := by rw [hm]; exact M.replay_le l L
    have tn : decide ((m : Int) < 0) = false := by simp
    clear hg hm hK
    by_cases hmn : m = l.length
    · have HN := Lib.hid hmn
      have tm : ((m : Int) != (l.length : Int)) = false := by rw [hmn]; simp
      rw [← hmn] at hl32 hd1 tm ⊢
      clear hmn hml HCI HCS
      have HVK : Hid (M.validStore K = true) := Lib.hid (by rw [HK.out]; exact M.replay_valid _ _ HVL.out)
      have HKD := Lib.hid (kind_of HVE.out)
      have HLAST : Hid (∀ i (hi : i < l.length), (l.drop (i + 1)).any (M.keyB l[i]) = false → M.GetItem K l[i].item.key = M.effect l[i]) := Lib.hid fun i hi h => by
        unfold M.GetItem
        rw [if_pos HVK.out, HK.out]
        refine M.replay_last (HM.out.symm.trans HN.out) hi (fun e he hk => ?_)
        rw [List.any_eq_false] at h
        exact h e he (beq_iff_eq.2 hk)
      go_wp2_with fail
      obtain ⟨w8, hw8⟩ : ∃ w8 : World, w8 = W := ⟨_, rfl⟩
      subst hw8
      go_loopw [9] (fun i wr => ∃ k : Nat, k ≤ m ∧ i = .int .i64 k ∧ w8.grownBy wr none) (fun i _ => m - (intOf i).toNat)
      case atStart => exact ⟨0, Nat.zero_le _, rfl, gb_refl _ _⟩
      case round =>
        obtain ⟨k, hk, rfl, hg⟩ := hrel
        have GW := Lib.hid hg
        clear hg
        by_cases hlt : k < m
        · have hkl : k < l.length := by rw [← HN.out]; exact hlt
          obtain ⟨b, o, hA, hb1, hb2, hI⟩ := (E.out.on GW.out).1.at_ (List.getElem?_eq_getElem hkl)
          subst hA
          obtain ⟨u, c0, c1', c2', c3', hu⟩ := hI
          obtain ⟨Au, cu, rfl, hcu, hru⟩ := hu
          have HU := Lib.hid (show RdInts .i64 wr 0 wr.heap.size (.slice Au l[k].item.pos.length cu) l[k].item.pos from ⟨_, _, rfl, hcu, hru⟩)
          have hpl : l[k].item.pos.length ≤ 1048576 := E.out.2.2 _ (List.getElem_mem hkl)
          have HLA := Lib.hid (HLAST.out k hkl)
          have HKX := Lib.hid (HKD.out _ (List.getElem_mem hkl))
          have HLD : Hid ((l.drop (k + 1)).length = m - (k + 1)) := Lib.hid (by rw [List.length_drop, ← HN.out])
          have kn : (k : Int) < m := by omega
          have k0 : (0 : Int) ≤ k := by omega
          clear hcu hru
          generalize l[k] = y at *
          have HC0 := Lib.hid c0
          have HC1 := Lib.hid c1'
          have HC2' := Lib.hid c2'
          have HC3 := Lib.hid c3'
          clear c0 c1' c2' c3'
          obtain ⟨wo, hwo⟩ : ∃ wo : World, wo = wr := ⟨_, rfl⟩
          subst hwo
          go_wp2_with fail
          go_loopw [10, 11] (fun q i wr => ∃ j : Nat, k + 1 + j ≤ m ∧ i = .int .i64 ((k + 1 + j : Nat) : Int) ∧ q = .bool (((l.drop (k + 1)).take j).any (M.keyB y)) ∧ wo.grownBy wr none) (fun _ i _ => m - (intOf i).toNat)
          case atStart => exact ⟨0, by omega, by go_num, rfl, gb_refl _ _⟩
          case round =>
            obtain ⟨j, hj, rfl, rfl, hg⟩ := hrel
            have GI := Lib.hid hg
            clear hg
            by_cases hmn : k + 1 + j < m
            · have hml : j < (l.drop (k + 1)).length := by rw [HLD.out]; omega
              have HT := Lib.hid (any_take (p := M.keyB y) hml)
              have hjl : k + 1 + j < l.length := by rw [← HN.out]; exact hmn
              have hxe : (l.drop (k + 1))[j] = l[k + 1 + j] := by rw [List.getElem_drop]
              rw [hxe] at HT
              obtain ⟨b', o', hA', hb3, hb4, hJ⟩ := (E.out.on GW.out).1.at_ (List.getElem?_eq_getElem hjl)
              simp only [Option.some.injEq, Addr.mk.injEq, and_true] at hA'
              obtain ⟨rfl, rfl⟩ := hA'
              obtain ⟨u', _, e1, _, _, _⟩ := hJ
              have ej : wr.cell? ⟨b, o + (k + 1 + j) * 4 + 1, none⟩ = some (.int .i64 l[k + 1 + j].item.key) := GI.out.cell e1 (by simp)
              have ei : wr.cell? ⟨b, o + k * 4 + 1, none⟩ = some (.int .i64 y.item.key) := GI.out.cell HC1.out (by simp)
              clear hxe e1
              generalize l[k + 1 + j] = x at *
              cases hb : ((l.drop (k + 1)).take j).any (M.keyB y)
              · rw [hb] at HT
                have HX := Lib.hid (show ((l.drop (k + 1)).take (j + 1)).any (M.keyB y) = (x.item.key == y.item.key) by rw [HT.out]; rfl)
                clear hb HT
                have jn : ((k + 1 + j : Nat) : Int) < m := by omega
                have jn' : (k : Int) + 1 + j < m := by omega
                have j0 : (0 : Int) ≤ (k : Int) + 1 + j := by omega
                go_wp2_with fail
                go_quiet (fail)
                go_wp2_with fail
                go_roundw
                case rel => exact ⟨j + 1, by omega, by go_num, by rw [HX.out], gb_drewN GI.out _⟩
                case measure => simp [intOf]; omega
              · rw [hb] at HT
                have HX := Lib.hid (show ((l.drop (k + 1)).take (j + 1)).any (M.keyB y) = true by rw [HT.out]; rfl)
                clear hb HT
                go_wp2_with fail
                go_quiet (fail)
                go_wp2_with fail
                go_roundw
                case rel => exact ⟨j + 1, by omega, by go_num, by rw [HX.out], gb_drewN GI.out _⟩
                case measure => simp [intOf]; omega
            · have HALL : Hid ((l.drop (k + 1)).take j = l.drop (k + 1)) := Lib.hid (List.take_of_length_le (by rw [HLD.out]; omega))
              rw [HALL.out]
              have b1 : wr.cell? ⟨b, o + k * 4 + 1, none⟩ = some (.int .i64 y.item.key) := GI.out.cell HC1.out (by simp)
              have HC := Lib.hid (GetItem_impl (c := c2) (q := y.item.key) ((F.out.on GW.out).on GI.out))
              cases ha : (l.drop (k + 1)).any (M.keyB y)
              · have HG := Lib.hid (HLA.out ha)
                rw [HG.out] at HC
                clear ha
                rcases HKX.out with hkd | hkd
                · have HEF : Hid (M.effect y = some y.item) := Lib.hid (by unfold M.effect; rw [if_pos hkd])
                  have tk : (y.kind == 1) = true := by simp [hkd]
                  rw [HEF.out] at HC
                  clear hkd
                  go_wp2_with fail
                  refine HC.out.mono ?_
                  rintro e w2 ⟨Ax, cx, rfl, hx, hg⟩
                  have HX : Hid (RdInts .i64 w2 0 w2.heap.size (.slice Ax y.item.pos.length cx) y.item.pos) := Lib.hid hx
                  have G2 := Lib.hid (gb_trans GI.out hg)
                  clear hx hg b1
                  go_wp2_with fail
                  refine wp_name (fun W => Row W w2.heap.size 31 [.int .i64 y.item.key, .slice Ax y.item.pos.length cx, .int .i64 y.item.tags] ∧ w2.grownBy W none) ⟨Row.new w2 _ rfl, World.grownBy_alloc w2 _ none⟩ ?_
                  rintro w3 ⟨hB, hg⟩
                  have B3 := Lib.hid hB
                  have G3 := Lib.hid (gb_trans G2.out hg)
                  have HX3 := Lib.hid ((HX.out.keep hg (Nat.le_refl _)).wide (Nat.le_refl _) hg.size)
                  have HU3 := Lib.hid ((HU.out.keep G3.out (Nat.le_refl _)).wide (Nat.le_refl _) G3.out.size)
                  clear hB hg
                  have HE : Hid (∀ W, w3.grownBy W none → Calls Try.prog 34 #[.agg #[.int .i64 y.item.key, .slice Ax y.item.pos.length cx, .int .i64 y.item.tags], .agg #[.int .i64 y.item.key, .slice Au y.item.pos.length cu, .int .i64 y.item.tags]] W fun e w' => e = .returned (.bool true) ∧ W.grownBy w' none) := Lib.hid fun W hW => by
                    have h := equalItem_any W _ _ 0 W.heap.size 0 W.heap.size y.item y.item hpl ((HX3.out.keep hW (Nat.le_refl _)).wide (Nat.le_refl _) hW.size) ((HU3.out.keep hW (Nat.le_refl _)).wide (Nat.le_refl _) hW.size) (Nat.le_refl _) (Nat.le_refl _)
                    rwa [eqItemB_self] at h
                  have l0 : ∀ x : Later w3, x.w.cell? ⟨b, o + k * 4, none⟩ = some (.int .i64 y.kind) := fun x => x.cell (G3.out.cell HC0.out (by simp))
                  have l1 : ∀ x : Later w3, x.w.cell? ⟨b, o + k * 4 + 1, none⟩ = some (.int .i64 y.item.key) := fun x => x.cell (G3.out.cell HC1.out (by simp))
                  have l2 : ∀ x : Later w3, x.w.cell? ⟨b, o + k * 4 + 1 + 1, none⟩ = some (.slice Au y.item.pos.length cu) := fun x => x.cell (G3.out.cell HC2'.out (by simp))
                  have l3 : ∀ x : Later w3, x.w.cell? ⟨b, o + k * 4 + 1 + 2, none⟩ = some (.int .i64 y.item.tags) := fun x => x.cell (G3.out.cell HC3.out (by simp))
                  have m0 : ∀ x : Later w3, x.w.cell? ⟨w2.heap.size, 0, none⟩ = some (.int .i64 y.item.key) := fun x => x.cell (B3.out.cell 0)
                  have m1 : ∀ x : Later w3, x.w.cell? ⟨w2.heap.size, 1, none⟩ = some (.slice Ax y.item.pos.length cx) := fun x => x.cell (B3.out.cell 1)
                  have m2 : ∀ x : Later w3, x.w.cell? ⟨w2.heap.size, 2, none⟩ = some (.int .i64 y.item.tags) := fun x => x.cell (B3.out.cell 2)
                  refine wp_region_later (by kernel_rfl) (by kernel_rfl) ?_
                  repeat (go_big_quiet_step ((go_at_call 34; exact later_call (HE.out _ (Later.h _)))))
                  refine wpQuiet_nil ?_
                  rintro _ ⟨x, rfl⟩
                  go_wp2_with fail
                  go_roundw
                  case rel => exact ⟨k + 1, by omega, by go_num, gb_trans GW.out (gb_trans G3.out x.h)⟩
                  case measure => simp [intOf]; omega
                · have HEF : Hid (M.effect y = none) := Lib.hid (by unfold M.effect; rw [if_neg (by omega)])
                  have tk : (y.kind == 1) = false := by simp [hkd]
                  rw [HEF.out] at HC
                  clear hkd
                  go_wp2_with fail
                  refine HC.out.mono ?_
                  rintro e w2 ⟨Ax, cx, rfl, hx, hg⟩
                  have G2 := Lib.hid (gb_trans GI.out hg)
                  clear hx hg b1
                  go_wp2_with fail
                  refine wp_name (fun W => w2.grownBy W none) (World.grownBy_alloc w2 _ none) ?_
                  rintro w3 hg
                  have G3 := Lib.hid (gb_trans G2.out hg)
                  clear hg
                  have l0 : ∀ x : Later w3, x.w.cell? ⟨b, o + k * 4, none⟩ = some (.int .i64 y.kind) := fun x => x.cell (G3.out.cell HC0.out (by simp))
                  refine wp_region_later (by kernel_rfl) (by kernel_rfl) ?_
                  repeat (go_big_quiet_step (fail))
                  refine wpQuiet_nil ?_
                  rintro _ ⟨x, rfl⟩
                  go_wp2_with fail
                  go_roundw
                  case rel => exact ⟨k + 1, by omega, by go_num, gb_trans GW.out (gb_trans G3.out x.h)⟩
                  case measure => simp [intOf]; omega
              · clear ha
                go_wp2_with fail
                refine HC.out.mono ?_
                rintro e w2 ⟨Ax, cx, rfl, hx, hg⟩
                have G2 := Lib.hid (gb_trans GI.out hg)
                clear hx hg b1
                go_wp2_with fail
                refine wp_name (fun W => w2.grownBy W none) (World.grownBy_alloc w2 _ none) ?_
                rintro w3 hg
                have G3 := Lib.hid (gb_trans G2.out hg)
                clear hg
                refine wp_region_later (by kernel_rfl) (by kernel_rfl) ?_
                repeat (go_big_quiet_step (fail))
                refine wpQuiet_nil ?_
                rintro _ ⟨x, rfl⟩
                go_wp2_with fail
                go_roundw
                case rel => exact ⟨k + 1, by omega, by go_num, gb_trans GW.out (gb_trans G3.out x.h)⟩
                case measure => simp [intOf]; omega
        · go_wp2_with fail
          go_ret
          exact ⟨rfl, gb_trans G.out GW.out⟩
    · have tm : ((m : Int) != (l.length : Int)) = true := by rw [bne_iff_ne]; omega
      clear hmn
      go_wp2_with fail
      refine (eqi_same F.out F'.out).mono ?_
      rintro e W ⟨rfl, hg⟩
      replace G := Lib.hid (gb_trans G.out hg)
      clear hg
      go_wp2_with fail
      go_ret
      exact ⟨rfl, G.out⟩
end fnReplayLogLast
/-! the row's step -/
namespace fnReplayLogLast
set_option maxRecDepth 100000 in
theorem lifted (os : Os) (started : os.Started) (H : Type) (enc : TypeId × Value → H) :
    ReturnsInHanded {} Try.checked os 8 .any (Rows.fnReplayLogLastSpec.pre6 enc Try.prog Try.f8 Rows.fnReplayLogLastRow.domain false) (Rows.fnReplayLogLastSpec.post enc Try.prog Try.f8 false true false false) := by
  refine returnsInHanded_of_change (C := Try.checked) own started (by kernel_rfl) Try.func8
    (ChangeSpec.witness6 (enc := enc) (C := Try.checked) false ⟨#[], #[.slice none 0 0], []⟩ 8 (by kernel_rfl) (by kernel_rfl) (by kernel_rfl) (by kernel_rfl)) ?_
  intro W base args ds gs before hval0 hW hcnd _
  have hval : ∀ (j : Nat) t v, Try.f8.params[j]? = some t → args[j]? = some v → Value.okWide Try.prog W .any base t v := hval0
  have hW' := hW
  obtain ⟨p, q, hA0, hV, rfl, hfz, hnd⟩ := hW
  have hA : DataW.TrodAll enc Try.prog W 0 (fun _ => true) true Try.f8.params.toList args.toList ds p := hA0
  rw [Try.params8] at hA hval
  obtain ⟨v0, vs0, d0, ds0, p0, q0, hargs, rfl, rfl, h0, r0⟩ := trodAll_cons hA
  obtain ⟨rfl, rfl, rfl⟩ := trodAll_nil r0
  obtain rfl : args = #[v0] := by cases args; simp_all
  obtain ⟨rfl, rfl⟩ := trodVars_none hV
  obtain ⟨a0, len0, cap0, rfl⟩ := okWide_slice Try.underlying22 (hval 0 22 v0 rfl rfl)
  have k0 := h0
  have lt0 : ∀ x ∈ p0, x.block < W.heap.size := by obtain ⟨m, hm⟩ := k0; exact DataW.trod_lt m _ _ _ hm
  obtain ⟨L0, rfl, b00, b01, b02⟩ := code_row h0
  clear hA0 hval0
  refine (walk W a0 cap0 L0 b00 b01 b02).mono fun e W' ⟨he, bel0⟩ => ?_
  have bel := gb_below bel0
  subst he
  exact ⟨_, rfl, _, _, _, [], _, [], hW', trodAll_mk1 (shut_bool Try.underlying4 _), (trodAll_cons_mk (Below.trod laidOut (by kernel_rfl) (of_decide_eq_true (by kernel_rfl)) k0 bel lt0) trodAll_mk0), rfl, bel.frame _, fun h => by cases h⟩
set_option maxRecDepth 100000 in
theorem over : Rows.fnReplayLogLastRow.holds Try.pinned (OpenSpec.ofChange Rows.fnReplayLogLastSpec) :=
  OpenClaim.holds_of_wide 8 Try.f8 rfl rfl rfl rfl rfl rfl rfl ⟨rfl, rfl, rfl, rfl, rfl⟩ rfl rfl rfl rfl rfl (by kernel_rfl) Try.func8 (by kernel_rfl)
    (of_decide_eq_true (by kernel_rfl)) (by unfold Func.isWrapper; first | (rw [if_pos (by decide +kernel)]; kernel_rfl) | (rw [if_neg (by decide +kernel)]; exact ⟨rfl, rfl⟩))
    (fun os started H enc _ => lifted os started H enc)
theorem proved : Rows.FnReplayLogLastSaid := over
end fnReplayLogLast
end Go.Proofs.Ytjooangmmboogaa
