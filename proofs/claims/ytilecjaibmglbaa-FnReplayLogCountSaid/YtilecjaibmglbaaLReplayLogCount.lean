/- FnReplayLogCount: logs change what they name: proved for every input, with no condition. -/
import Derived.Test.YtilecjaibmglbaaFrame
import Derived.Test.YtilecjaibmglbaaLogL
import Derived.Test.YtilecjaibmglbaaDrawR
namespace Go.Proofs.Ytilecjaibmglbaa
open Go.ChangeShapes Go.WideShapes Go.ChangeAt Go.RowKit
set_option linter.unusedVariables false
namespace fnReplayLogCount
set_option maxRecDepth 100000 in
set_option maxHeartbeats 2000000 in
theorem walk (w : World) (A : Option Addr) (c : Nat) (bs : List Int) (h2 : bs.length ≤ c) (h3 : ∀ x ∈ bs, 0 ≤ x ∧ x ≤ 255) (h4 : Rd w 0 w.heap.size A (bs.map (.int .u8))) :
    Calls Try.prog 4 #[.slice A bs.length c] w fun e w' => e = .returned (.bool true) ∧ w.grownBy w' none := by
  have H2 := Lib.hid h2
  have H3 := Lib.hid h3
  have H4 := Lib.hid h4
  clear h2 h3 h4
  by_cases hb : bs.length ≤ 1048576
  rotate_left
  · have hb' : (1048576 : Int) < bs.length := by omega
    generalize bs.length = L at *
    go_enter Try.func4, Try.ntmps4
    go_wp2
    go_ret
    exact ⟨rfl, gb_refl _ _⟩
  have hb' : (bs.length : Int) ≤ 1048576 := by omega
  obtain ⟨i0, hi0, hz0, hz1, hz2⟩ := info_parts info_int'
  go_enter Try.func4, Try.ntmps4
  go_wp2_with fail
  refine (DrawReplayLog_any w A c bs H2.out hb H3.out H4.out).mono ?_
  rintro e W ⟨A1, c1, L, B1, d1, l, rfl, hc1, hd1, hd, he, hg⟩
  have D := Lib.hid hd
  have E := Lib.hid he
  have G := Lib.hid hg
  clear hd he hg
  obtain ⟨K, z, HP⟩ : ∃ K z, Hid (M.ReplayLog L l = (K, z)) := ⟨_, _, Lib.hid rfl⟩
  have HCI : Hid (∀ W, SeesI W A1 L → SeesE W B1 l → Calls Try.prog 14 #[.slice A1 L.length c1, .slice B1 l.length d1] W (GotR W (K, z))) := Lib.hid fun W h h' => HP.out ▸ rl_impl h h'
  have HCS : Hid (∀ W, SeesI W A1 L → SeesE W B1 l → Calls Try.prog 15 #[.slice A1 L.length c1, .slice B1 l.length d1] W (GotR W (K, z))) := Lib.hid fun W h h' => HP.out ▸ rl_spec h h'
  have tz : (z != z) = false := by simp
  have tz' : (z == z) = true := by simp
  go_wp2_with fail
  refine (HCI.out _ D.out E.out).mono ?_
  rintro e W ⟨A2, c2, rfl, hc2, hd, hg⟩
  replace D := Lib.hid (D.out.on hg)
  replace E := Lib.hid (E.out.on hg)
  replace G := Lib.hid (gb_trans G.out hg)
  have F : Hid (SeesI W A2 K) := Lib.hid hd
  have HC2 : Hid (K.length ≤ c2) := Lib.hid hc2
  clear hg hd hc2
  go_wp2_with fail
  refine (HCS.out _ D.out E.out).mono ?_
  rintro e W ⟨A3, c3, rfl, hc3, hd, hg⟩
  replace D := Lib.hid (D.out.on hg)
  replace E := Lib.hid (E.out.on hg)
  replace F := Lib.hid (F.out.on hg)
  replace G := Lib.hid (gb_trans G.out hg)
  have F' : Hid (SeesI W A3 K) := Lib.hid hd
  clear hg hd hc3
  go_wp2_with fail
  refine (eqi_same F.out F'.out).mono ?_
  rintro e W ⟨rfl, hg⟩
  replace D := Lib.hid (D.out.on hg)
  replace E := Lib.hid (E.out.on hg)
  replace F := Lib.hid (F.out.on hg)
  replace F' := Lib.hid (F'.out.on hg)
  replace G := Lib.hid (gb_trans G.out hg)
  clear hg
  by_cases hg : M.validStore L = true ∧ M.validLog l = true
  rotate_left
  · have tn : decide (z < 0) = true := by
      have h := HP.out
      unfold M.ReplayLog at h
      rw [if_neg hg] at h
      have : z = -1 := (congrArg Prod.snd h).symm
      rw [this]; rfl
    clear hg
    go_wp2_with fail
    refine (eqi_same F.out F'.out).mono ?_
    rintro e W ⟨rfl, hg⟩
    replace G := Lib.hid (gb_trans G.out hg)
    clear hg
    go_wp2_with fail
    go_ret
    exact ⟨rfl, G.out⟩
  · obtain ⟨m, hm, hz, hK⟩ : ∃ m : Nat, m = (M.replay L l).2 ∧ z = m ∧ K = (M.replay L l).1 := by
      have h := HP.out
      unfold M.ReplayLog at h
      rw [if_pos hg] at h
      exact ⟨_, rfl, (congrArg Prod.snd h).symm, (congrArg Prod.fst h).symm⟩
    subst hz
    have HVL := Lib.hid hg.1
    have HVE := Lib.hid hg.2
    have hl32 : l.length ≤ 32 := by have h := hg.2; unfold M.validLog at h; simp at h; exact h.2
    have HM := Lib.hid hm
    have HK := Lib.hid hK
    have hml : m ≤ l.length := by rw [hm]; exact M.replay_le l L
    have tn : decide ((m : Int) < 0) = false := by simp
    clear hg hm hK
    have HVK : Hid (M.validStore K = true) := Lib.hid (by rw [HK.out]; exact M.replay_valid _ _ HVL.out)
    have HVS := Lib.hid (fun W (h : SeesI W A2 K) => vs_impl (c := c2) h)
    rw [HVK.out] at HVS
    have HGET : Hid (∀ x ∈ L, x.key ∉ l.map (fun e => e.item.key) → M.GetItem K x.key = some x) := Lib.hid fun x hx hn => by
      unfold M.GetItem
      rw [if_pos HVK.out, HK.out, M.replay_get_other _ _ (fun e he h => hn (List.mem_map.2 ⟨e, he, h⟩))]
      exact M.get_of_mem HVL.out hx
    have hL16 := (M.validStore_of HVL.out).1
    obtain ⟨n, hn⟩ : ∃ n, n = l.length := ⟨_, rfl⟩
    obtain ⟨p, hp⟩ : ∃ p, p = L.length := ⟨_, rfl⟩
    rw [← hn] at hl32 hd1 ⊢
    rw [← hp] at hL16 hc1 ⊢
    have HN := Lib.hid hn
    have HPL := Lib.hid hp
    clear hn hp hml HCI HCS F'
    go_wp2_with fail
    obtain ⟨w0, hw0⟩ : ∃ w0 : World, w0 = W := ⟨_, rfl⟩
    subst hw0
    have O1 := Lib.hid (World.ownsRow_made (base := w0.heap.size) (e := 3) (size := 1) w0 #[] 0 (Nat.le_refl _) (by decide) rfl)
    go_loopw [9, 10] (fun v i wr => ∃ j : Nat, j ≤ n ∧ i = .int .i64 j ∧ wr.ownsRow w0.heap.size 3 1 v j (((l.take j).map (fun e => e.item.key)).map (.int .i64)) ∧ w0.grownBy wr none) (fun _ i _ => n - (intOf i).toNat)
    case atStart => exact ⟨0, Nat.zero_le _, rfl, by simpa using O1.out, gb_alloc (gb_refl _ _) _⟩
    case round =>
      obtain ⟨j, hj, rfl, hown, hg⟩ := hrel
      have G1 := Lib.hid hg
      have O := Lib.hid hown
      have hszw := hg.size
      have hlm : ((l.take j).map (fun e => e.item.key)).length = j := by rw [List.length_map, List.length_take, ← HN.out]; omega
      obtain ⟨Av, cv, hvv, hcv, hrv⟩ := OwnInts.rd (k := .i64) (t := 3) (lo := w0.heap.size) (w := wr) (v := u9) (l := (l.take j).map (fun e => e.item.key)) (by unfold OwnInts; rw [hlm]; exact hown)
      rw [hlm] at hvv hcv
      subst hvv
      have SN := Lib.hid (show SeesN .i64 wr Av ((l.take j).map (fun e => e.item.key)) from ⟨hrv.wide (Nat.zero_le _) (Nat.le_refl _), by rw [hlm]; omega⟩)
      have HLM := Lib.hid hlm
      clear hg hown hrv hlm O1
      by_cases hlt : j < n
      · have hjl : j < l.length := by rw [← HN.out]; exact hlt
        obtain ⟨b, o, hA, hb1, hb2, hI⟩ := (E.out.on G1.out).1.at_ (List.getElem?_eq_getElem hjl)
        subst hA
        obtain ⟨u, _, q1, _, _, _⟩ := hI
        have HTK : Hid ((l.take (j + 1)).map (fun e => e.item.key) = (l.take j).map (fun e => e.item.key) ++ [l[j].item.key]) := Lib.hid (by rw [List.take_succ_eq_append_getElem hjl, List.map_append]; rfl)
        have kn : (j : Int) < n := by omega
        have k0 : (0 : Int) ≤ j := by omega
        generalize l[j].item.key = y at *
        go_wp2_with (at_builtin; refine wpList_append_own _ rfl (.tmp 62) (.tmp 69) 30 rfl w0.heap.size 3 i0 (.int .i64 0) 1 8 Try.underlying30 hi0 hz0 hz1 hz2 rfl (by decide) _ j (((l.take j).map (fun e => e.item.key)).map (.int .i64)) rfl (O.out.alloc _) ⟨wr.heap.size, 0, none⟩ 1 1 [.int .i64 y] rfl rfl one_cell_new (one_cells rfl) (by unfold maxLen; omega) (by omega) (by simp; omega) ?_; intro v' w4 hown' hgrow _; have T1 := Lib.hid hown'; have T2 := Lib.hid hgrow; clear hown' hgrow)
        go_roundw
        case rel =>
          refine ⟨j + 1, by omega, by go_num, ?_, gb_new (gb_alloc G1.out (.cells #[.int .i64 y] 3)) T2.out (fun b hb => .inl (O.out.lt b hb).1)⟩
          rw [HTK.out, List.map_append]
          exact T1.out
        case measure => simp [intOf]; omega
      · obtain rfl : j = n := by omega
        have HALL : Hid (l.take j = l) := Lib.hid (List.take_of_length_le (by rw [← HN.out]; exact Nat.le_refl _))
        rw [HALL.out] at SN HLM
        replace D := Lib.hid (D.out.on G1.out)
        replace F := Lib.hid (F.out.on G1.out)
        replace G := Lib.hid (gb_trans G.out G1.out)
        clear O G1 E hszw
        obtain ⟨w8, hw8⟩ : ∃ w8 : World, w8 = wr := ⟨_, rfl⟩
        subst hw8
        go_wp2_with fail
        go_loopw [11] (fun i wr => ∃ k : Nat, k ≤ p ∧ i = .int .i64 k ∧ w8.grownBy wr none) (fun i _ => p - (intOf i).toNat)
        case atStart => exact ⟨0, Nat.zero_le _, rfl, gb_refl _ _⟩
        case round =>
          obtain ⟨k, hk, rfl, hg⟩ := hrel
          have GW := Lib.hid hg
          clear hg
          by_cases hkp : k < p
          · have hkl : k < L.length := by rw [← HPL.out]; exact hkp
            obtain ⟨b, o, hA, hb1, hb2, hI⟩ := (D.out.on GW.out).1.at_ (List.getElem?_eq_getElem hkl)
            subst hA
            obtain ⟨u, a0, a1, a2, hu⟩ := hI
            obtain ⟨Au, cu, rfl, hcu, hru⟩ := hu
            have HU := Lib.hid (show RdInts .i64 wr 0 wr.heap.size (.slice Au L[k].pos.length cu) L[k].pos from ⟨_, _, rfl, hcu, hru⟩)
            have hpl : L[k].pos.length ≤ 1048576 := D.out.2.2 _ (List.getElem_mem hkl)
            have HG := Lib.hid (HGET.out _ (List.getElem_mem hkl))
            have kn : (k : Int) < p := by omega
            have k0 : (0 : Int) ≤ k := by omega
            have HC := Lib.hid (GetItem_impl (c := c2) (q := L[k].key) (F.out.on GW.out))
            have HIN : Hid (∀ W, wr.grownBy W none → Calls Try.prog 18 #[.slice Av j cv, .int .i64 L[k].key] W fun e w' => e = .returned (.bool (decide (L[k].key ∈ l.map (fun e => e.item.key)))) ∧ W.grownBy w' none) := Lib.hid fun W hW => by
              have h := isIn_any (c := cv) (n := L[k].key) ((SN.out.on GW.out).on hW)
              rwa [HLM.out] at h
            clear hcu hru
            generalize L[k] = y at *
            by_cases hin : y.key ∈ l.map (fun e => e.item.key)
            · rw [decide_eq_true hin] at HIN
              clear hin
              go_wp2_with fail
              refine HC.out.mono ?_
              rintro e w2 ⟨Ax, cx, rfl, hx, hg⟩
              have G2 := Lib.hid hg
              clear hx hg
              go_wp2_with fail
              refine wp_name (fun W => w2.grownBy W none) (World.grownBy_alloc w2 _ none) ?_
              rintro w3 hg
              have G3 := Lib.hid (gb_trans G2.out hg)
              have l0 : ∀ x : Later w3, x.w.cell? ⟨b, o + k * 3, none⟩ = some (.int .i64 y.key) := fun x => x.cell (G3.out.cell a0 (by simp))
              clear hg a0 a1 a2
              refine wp_region_later (by kernel_rfl) (by kernel_rfl) ?_
              repeat (go_big_quiet_step ((go_at_call 18; exact later_call (HIN.out _ (gb_trans G3.out (Later.h _))))))
              refine wpQuiet_nil ?_
              rintro _ ⟨x, rfl⟩
              go_wp2_with fail
              go_roundw
              case rel => exact ⟨k + 1, by omega, by go_num, gb_trans GW.out (gb_trans G3.out x.h)⟩
              case measure => simp [intOf]; omega
            · rw [decide_eq_false hin] at HIN
              rw [HG.out hin] at HC
              clear hin
              go_wp2_with fail
              refine HC.out.mono ?_
              rintro e w2 ⟨Ax, cx, rfl, hx, hg⟩
              have HX : Hid (RdInts .i64 w2 0 w2.heap.size (.slice Ax y.pos.length cx) y.pos) := Lib.hid hx
              have G2 := Lib.hid hg
              clear hx hg
              go_wp2_with fail
              refine wp_name (fun W => Row W w2.heap.size 32 [.int .i64 y.key, .slice Ax y.pos.length cx, .int .i64 y.tags] ∧ w2.grownBy W none) ⟨Row.new w2 _ rfl, World.grownBy_alloc w2 _ none⟩ ?_
              rintro w3 ⟨hB, hg⟩
              have B3 := Lib.hid hB
              have G3 := Lib.hid (gb_trans G2.out hg)
              have HX3 := Lib.hid ((HX.out.keep hg (Nat.le_refl _)).wide (Nat.le_refl _) hg.size)
              have HU3 := Lib.hid ((HU.out.keep G3.out (Nat.le_refl _)).wide (Nat.le_refl _) G3.out.size)
              have HE : Hid (∀ W, w3.grownBy W none → Calls Try.prog 12 #[.agg #[.int .i64 y.key, .slice Ax y.pos.length cx, .int .i64 y.tags], .agg #[.int .i64 y.key, .slice Au y.pos.length cu, .int .i64 y.tags]] W fun e w' => e = .returned (.bool true) ∧ W.grownBy w' none) := Lib.hid fun W hW => by
                have h := equalItem_any W _ _ 0 W.heap.size 0 W.heap.size y y hpl ((HX3.out.keep hW (Nat.le_refl _)).wide (Nat.le_refl _) hW.size) ((HU3.out.keep hW (Nat.le_refl _)).wide (Nat.le_refl _) hW.size) (Nat.le_refl _) (Nat.le_refl _)
                rwa [eqItemB_self] at h
              have l0 : ∀ x : Later w3, x.w.cell? ⟨b, o + k * 3, none⟩ = some (.int .i64 y.key) := fun x => x.cell (G3.out.cell a0 (by simp))
              have l1 : ∀ x : Later w3, x.w.cell? ⟨b, o + k * 3 + 1, none⟩ = some (.slice Au y.pos.length cu) := fun x => x.cell (G3.out.cell a1 (by simp))
              have l2 : ∀ x : Later w3, x.w.cell? ⟨b, o + k * 3 + 2, none⟩ = some (.int .i64 y.tags) := fun x => x.cell (G3.out.cell a2 (by simp))
              have m0 : ∀ x : Later w3, x.w.cell? ⟨w2.heap.size, 0, none⟩ = some (.int .i64 y.key) := fun x => x.cell (B3.out.cell 0)
              have m1 : ∀ x : Later w3, x.w.cell? ⟨w2.heap.size, 1, none⟩ = some (.slice Ax y.pos.length cx) := fun x => x.cell (B3.out.cell 1)
              have m2 : ∀ x : Later w3, x.w.cell? ⟨w2.heap.size, 2, none⟩ = some (.int .i64 y.tags) := fun x => x.cell (B3.out.cell 2)
              clear hB hg a0 a1 a2
              refine wp_region_later (by kernel_rfl) (by kernel_rfl) ?_
              repeat (go_big_quiet_step ((first | (go_at_call 18; exact later_call (HIN.out _ (gb_trans G3.out (Later.h _)))) | (go_at_call 12; exact later_call (HE.out _ (Later.h _))))))
              refine wpQuiet_nil ?_
              rintro _ ⟨x, rfl⟩
              go_wp2_with fail
              go_roundw
              case rel => exact ⟨k + 1, by omega, by go_num, gb_trans GW.out (gb_trans G3.out x.h)⟩
              case measure => simp [intOf]; omega
          · replace F := Lib.hid (F.out.on GW.out)
            go_wp2_with fail
            refine (HVS.out _ F.out).mono ?_
            rintro e W ⟨rfl, hg⟩
            have G9 := Lib.hid (gb_trans (gb_trans G.out GW.out) hg)
            clear hg
            go_wp2_with fail
            go_ret
            exact ⟨rfl, G9.out⟩
end fnReplayLogCount
/-! the row's step -/
namespace fnReplayLogCount
set_option maxRecDepth 100000 in
theorem lifted (os : Os) (started : os.Started) (H : Type) (enc : TypeId × Value → H) :
    ReturnsInHanded {} Try.checked os 4 .any (Rows.fnReplayLogCountSpec.pre6 enc Try.prog Try.f4 Rows.fnReplayLogCountRow.domain false) (Rows.fnReplayLogCountSpec.post enc Try.prog Try.f4 false true false false) := by
  refine returnsInHanded_of_change (C := Try.checked) own started (by kernel_rfl) Try.func4
    (ChangeSpec.witness6 (enc := enc) (C := Try.checked) false ⟨#[], #[.slice none 0 0], []⟩ 8 (by kernel_rfl) (by kernel_rfl) (by kernel_rfl) (by kernel_rfl)) ?_
  intro W base args ds gs before hval0 hW hcnd _
  have hval : ∀ (j : Nat) t v, Try.f4.params[j]? = some t → args[j]? = some v → Value.okWide Try.prog W .any base t v := hval0
  have hW' := hW
  obtain ⟨p, q, hA0, hV, rfl, hfz, hnd⟩ := hW
  have hA : DataW.TrodAll enc Try.prog W 0 (fun _ => true) true Try.f4.params.toList args.toList ds p := hA0
  rw [Try.params4] at hA hval
  obtain ⟨v0, vs0, d0, ds0, p0, q0, hargs, rfl, rfl, h0, r0⟩ := trodAll_cons hA
  obtain ⟨rfl, rfl, rfl⟩ := trodAll_nil r0
  obtain rfl : args = #[v0] := by cases args; simp_all
  obtain ⟨rfl, rfl⟩ := trodVars_none hV
  obtain ⟨a0, len0, cap0, rfl⟩ := okWide_slice Try.underlying22 (hval 0 22 v0 rfl rfl)
  have k0 := h0
  have lt0 : ∀ x ∈ p0, x.block < W.heap.size := by obtain ⟨m, hm⟩ := k0; exact DataW.trod_lt m _ _ _ hm
  obtain ⟨L0, rfl, b00, b01, b02⟩ := code_row h0
  clear hA0 hval0
  refine (walk W a0 cap0 L0 b00 b01 b02).mono fun e W' ⟨he, bel0⟩ => ?_
  have bel := gb_below bel0
  subst he
  exact ⟨_, rfl, _, _, _, [], _, [], hW', trodAll_mk1 (shut_bool Try.underlying4 _), (trodAll_cons_mk (Below.trod laidOut (by kernel_rfl) (of_decide_eq_true (by kernel_rfl)) k0 bel lt0) trodAll_mk0), rfl, bel.frame _, fun h => by cases h⟩
set_option maxRecDepth 100000 in
theorem over : Rows.fnReplayLogCountRow.holds Try.pinned (OpenSpec.ofChange Rows.fnReplayLogCountSpec) :=
  OpenClaim.holds_of_wide 4 Try.f4 rfl rfl rfl rfl rfl rfl rfl ⟨rfl, rfl, rfl, rfl, rfl⟩ rfl rfl rfl rfl rfl (by kernel_rfl) Try.func4 (by kernel_rfl)
    (of_decide_eq_true (by kernel_rfl)) (by unfold Func.isWrapper; first | (rw [if_pos (by decide +kernel)]; kernel_rfl) | (rw [if_neg (by decide +kernel)]; exact ⟨rfl, rfl⟩))
    (fun os started H enc _ => lifted os started H enc)
theorem proved : Rows.FnReplayLogCountSaid := over
end fnReplayLogCount
end Go.Proofs.Ytilecjaibmglbaa
